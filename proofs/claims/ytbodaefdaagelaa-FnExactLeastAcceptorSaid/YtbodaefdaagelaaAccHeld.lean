/- The laws' marks in an acceptor's slices, and read again. No condition. -/
import Derived.Test.YtbodaefdaagelaaAccMark
namespace Go.Proofs.Ytbodaefdaagelaa
set_option linter.unusedSimpArgs false
set_option linter.unusedVariables false
set_option linter.unusedSectionVars false
open Go.RowKit
set_option maxHeartbeats 1000000 in
theorem markAcceptor_c (A A' : Option Addr) (c c' : Nat) (ms : List Mp) (f : Int) (ls : List Int) (base base' : Nat) (w : World) (h : OwnMaps w base (.slice A ms.length c) ms) (hn : ms.length ≤ 2097152) (h' : OwnInts w base' (.slice A' ls.length c') ls) (hn' : ls.length ≤ 2097152) :
    Calls Try.prog 26 #[.agg #[.slice A ms.length c, .int .i64 f, .slice A' ls.length c'], .int .i64 1] w fun e w' => e = .returned (.int .i64 (1 + (ms.length : Int) * 6 + ls.length)) ∧ OwnMaps w' base (.slice A ms.length c) (markMs 1 ms.length) ∧ OwnInts w' base' (.slice A' ls.length c') (markL (1 + (ms.length : Int) * 6) ls.length) ∧ Keep (fun k => NotOf A k ∧ NotOf A' k) w w' := by
  have k0' : Below w.heap.size w (w.alloc (Obj.cells #[Value.slice A ms.length c, .int .i64 f, Value.slice A' ls.length c'] 30)) := by go_grown
  have hA := h.below k0'
  have hA' := h'.below k0'
  have hsep : ∀ k, (Value.slice A' ls.length c').ownBlock = some k → NotOf A k := by
    obtain ⟨xs, g1, _⟩ := h
    exact own_types g1 h' (by decide)
  have hsep' : ∀ k, (Value.slice A ms.length c).ownBlock = some k → NotOf A' k := by
    obtain ⟨xs, g1, _⟩ := h
    exact own_types h' g1 (by decide)
  have nb : NotOf A w.heap.size := fun a ha e => by
    subst ha
    have := (h.lt a.block rfl).2
    omega
  have q2 : (w.alloc (Obj.cells #[Value.slice A ms.length c, .int .i64 f, Value.slice A' ls.length c'] 30)).cell? ⟨w.heap.size, 2, none⟩ = some (.slice A' ls.length c') := by simp [go_sem]
  have HS := Lib.hid hsep
  have HS' := Lib.hid hsep'
  have NB := Lib.hid nb
  have HK := Lib.hid k0'
  clear hsep hsep' nb h h' k0'
  obtain ⟨q, hq⟩ : ∃ q : Int, q = 1 + (ms.length : Int) * 6 := ⟨_, rfl⟩
  rw [← hq]
  have q1 : 0 ≤ q := by omega
  have q3 : q ≤ 1099511627776 := by omega
  have hm1 := markMapS_c A c ms 1 base _ hA hn (by decide) (by decide)
  rw [← hq] at hm1
  have HM1 := Lib.hid hm1
  have l5 : (ls.length : Int) ≤ 2097152 := by omega
  clear hm1 hq hA
  go_enter Try.func26, Try.ntmps26
  go_wp2_with fail
  refine HM1.out.mono ?_
  rintro e w1 ⟨rfl, hown1, K1⟩
  have q2' := K1.cell (p := ⟨w.heap.size, 2, none⟩) NB.out q2
  have hA2 := OwnInts.keep hA' (fun k hk => HS.out k hk) K1
  go_wp2_with fail
  refine (markInt64S_c A' c' ls q base' _ hA2 hn' q1 q3).mono ?_
  rintro e w2 ⟨rfl, hown2, K2⟩
  go_wp2
  go_returns
  exact ⟨rfl, hown1.keep (fun k hk => HS'.out k hk) K2, hown2, ((kb HK.out).trans (K1.mono fun k _ hk => hk.1)).trans (K2.mono fun k _ hk => hk.2)⟩
set_option maxHeartbeats 1000000 in
theorem heldAcceptor_c (A A' : Option Addr) (c c' n n' : Nat) (f : Int) (w : World) (h : SeeMaps w A (markMs 1 n)) (hn : n ≤ 2097152) (h' : SeeInts w A' (markL (1 + (n : Int) * 6) n')) (hn' : n' ≤ 2097152) :
    Calls Try.prog 43 #[.agg #[.slice A n c, .int .i64 f, .slice A' n' c'], .int .i64 1] w fun e w' => e = .returned (.int .i64 (1 + (n : Int) * 6 + n')) ∧ Below w.heap.size w w' := by
  have k0 : Below w.heap.size w (w.alloc (Obj.cells #[Value.slice A n c, .int .i64 f, Value.slice A' n' c'] 30)) := by go_grown
  have q2 : (w.alloc (Obj.cells #[Value.slice A n c, .int .i64 f, Value.slice A' n' c'] 30)).cell? ⟨w.heap.size, 2, none⟩ = some (.slice A' n' c') := by simp [go_sem]
  have hs := h.below k0
  have hs' := h'.below k0
  obtain ⟨q, hq⟩ : ∃ q : Int, q = 1 + (n : Int) * 6 := ⟨_, rfl⟩
  have hm1 := heldMapS_c A c n 1 _ hs hn (by decide) (by decide)
  rw [← hq] at hm1 hs' ⊢
  have HM1 := Lib.hid hm1
  have q1 : 0 ≤ q := by omega
  have q3 : q ≤ 1099511627776 := by omega
  have l5 : (n' : Int) ≤ 2097152 := by omega
  clear hm1 hq hs h h'
  go_enter Try.func43, Try.ntmps43
  go_wp2_with fail
  refine HM1.out.mono ?_
  rintro e w1 ⟨rfl, hb1⟩
  have q2' := bcell hb1 q2
  go_wp2_with fail
  refine (heldInt64S_c A' c' n' q _ (hs'.below hb1) hn' q1 q3).mono ?_
  rintro e w2 ⟨rfl, hb2⟩
  go_wp2
  go_returns
  exact ⟨rfl, btrans k0 (btrans hb1 hb2)⟩
end Go.Proofs.Ytbodaefdaagelaa
