/- 'FnExactIsAcceptor' returns true, whatever it is given. No condition. -/
import Derived.Test.YtbodaefdaagelaaAccCopy
import Derived.Test.YtbodaefdaagelaaIsAcc
namespace Go.Proofs.Ytbodaefdaagelaa
open Go.RowKit
set_option maxHeartbeats 4000000 in
theorem lawIsAcceptor_c (A A' : Option Addr) (c c' : Nat) (ms : List Mp) (f : Int) (ls : List Int) (w : World) (h : SeeMaps w A ms) (hn : ms.length ≤ 9223372036854775807) (h' : SeeInts w A' ls) (hn' : ls.length ≤ 9223372036854775807) :
    Calls Try.prog 3 #[.agg #[.slice A ms.length c, .int .i64 f, .slice A' ls.length c']] w fun e w' => e = .returned (.bool true) ∧ Below w.heap.size w w' := by
  have k0 : Below w.heap.size w (w.alloc (Obj.cells #[Value.slice A ms.length c, .int .i64 f, Value.slice A' ls.length c'] 25)) := by go_grown
  obtain ⟨b0, b1, b2⟩ := AccBox w A A' ms.length c ls.length c' f 25
  have g := h.below k0
  have g' := h'.below k0
  by_cases hs : szAcc ms.length ls.length 1048576 < 0
  · go_enter Try.func3, Try.ntmps3
    go_wp2_with (go_at_call 15; go_must (refine (szAcceptor_c _ _ _ _ _ _ _ _ _ hn hn' (by omega) (by omega)).mono ?_); rintro e w1 ⟨rfl, hb1⟩)
    go_returns
    exact ⟨rfl, btrans k0 hb1⟩
  · obtain ⟨l1, l2⟩ := szAcc_ok hs
    go_enter Try.func3, Try.ntmps3
    go_wp2_with fail
    refine (szAcceptor_c _ _ _ _ _ _ _ _ _ hn hn' (by omega) (by omega)).mono ?_
    rintro e w1 ⟨rfl, hb1⟩
    have x0 := b0 ⟨w1, hb1⟩
    have x1 := b1 ⟨w1, hb1⟩
    have x2 := b2 ⟨w1, hb1⟩
    go_wp2_with fail
    refine (toAcceptor_c A A' c c' ms f ls _ (g.below hb1) (by omega) (g'.below hb1) (by omega)).mono ?_
    rintro e w2 ⟨v, v', rfl, ho, ho', hb2⟩
    obtain ⟨B, cB, rfl, hs1⟩ := ho.see
    obtain ⟨B', cB', rfl, hs2⟩ := ho'.see
    replace hb2 := btrans hb1 hb2
    clear x0 x1 x2
    go_wp2_with fail
    refine (specIsAcceptor_c B B' cB cB' ms f ls _ hs1 (by omega) hs2 (by omega)).mono ?_
    rintro e w3 ⟨rfl, hb3⟩
    replace hb3 := btrans hb2 hb3
    have x0 := b0 ⟨w3, hb3⟩
    have x1 := b1 ⟨w3, hb3⟩
    have x2 := b2 ⟨w3, hb3⟩
    go_wp2_with fail
    refine (toAcceptor_c A A' c c' ms f ls _ (g.below hb3) (by omega) (g'.below hb3) (by omega)).mono ?_
    rintro e w4 ⟨v, v', rfl, ko, ko', hb4⟩
    obtain ⟨C, cC, rfl, ks1⟩ := ko.see
    obtain ⟨C', cC', rfl, ks2⟩ := ko'.see
    have kn := ko.nilok
    replace hb4 := btrans hb3 hb4
    clear x0 x1 x2
    go_wp2_with fail
    have k4 : Below w4.heap.size w4 (w4.alloc (Obj.cells #[Value.slice C ms.length cC, .int .i64 f, Value.slice C' ls.length cC'] 30)) := by go_grown
    obtain ⟨d0, d1, d2⟩ := AccBox w4 C C' ms.length cC ls.length cC' f 30
    refine (IsAcceptor_c C C' cC cC' ms f ls _ (ks1.below k4) (by omega) kn (ks2.below k4) (by omega)).mono ?_
    rintro e w5 ⟨rfl, hb5⟩
    have y0 := d0 ⟨w5, hb5⟩
    have y1 := d1 ⟨w5, hb5⟩
    have y2 := d2 ⟨w5, hb5⟩
    replace hb5 := btrans k4 hb5
    have ks1 := ks1.below hb5
    have ks2 := ks2.below hb5
    replace hb5 := btrans hb4 hb5
    have x0 := b0 ⟨w5, hb5⟩
    have x1 := b1 ⟨w5, hb5⟩
    have x2 := b2 ⟨w5, hb5⟩
    clear b0 b1 b2 d0 d1 d2
    go_wp2_with fail
    go_region_held3 (fun w' => w'.cell? ⟨w4.heap.size, 0, none⟩ = some (.slice C ms.length cC) ∧ w'.cell? ⟨w4.heap.size, 1, none⟩ = some (.int .i64 f) ∧ w'.cell? ⟨w4.heap.size, 2, none⟩ = some (.slice C' ls.length cC') ∧ w'.cell? ⟨w.heap.size, 0, none⟩ = some (.slice A ms.length c) ∧ w'.cell? ⟨w.heap.size, 1, none⟩ = some (.int .i64 f) ∧ w'.cell? ⟨w.heap.size, 2, none⟩ = some (.slice A' ls.length c')) (go_keep) (first | (go_at_call 17; refine (toAcceptor_c A A' c c' ms f ls _ (g.below hb5.drew) (by omega) (g'.below hb5.drew) (by omega)).mono ?_; rintro e w6 ⟨v, v', rfl, jo, jo', hb6⟩; obtain ⟨D, cD, rfl, js1⟩ := jo.see; obtain ⟨D', cD', rfl, js2⟩ := jo'.see; replace hb6 := bdr hb6; have y06 := bcell hb6 y0; have y16 := bcell hb6 y1; have y26 := bcell hb6 y2; have x06 := bcell hb6 x0; have x16 := bcell hb6 x1; have x26 := bcell hb6 x2) | (go_at_call 19; refine (valB (eqAcceptor_c C C' D D' cC cC' cD cD' ms ms f f ls ls _ (ks1.below hb6) (by omega) (ks2.below hb6) (by omega) js1 js2) (eqAcc_refl _ _ _)).mono ?_; rintro e w7 ⟨rfl, hb7⟩; have y07 := bcell hb7 y06; have y17 := bcell hb7 y16; have y27 := bcell hb7 y26; have x07 := bcell hb7 x06; have x17 := bcell hb7 x16; have x27 := bcell hb7 x26))
    go_wp2
    go_returns
    exact ⟨rfl, btrans k0 (btrans hb5 (btrans hb6 hb7))⟩
end Go.Proofs.Ytbodaefdaagelaa
