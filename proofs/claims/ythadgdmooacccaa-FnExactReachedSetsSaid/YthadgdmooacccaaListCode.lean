/- 'listCode' tells the code of a list of maps. No condition. -/
import Derived.Test.YthadgdmooacccaaConcat
namespace Go.Proofs.Ythadgdmooacccaa
set_option linter.unusedSimpArgs false
set_option linter.unusedVariables false
set_option linter.unusedSectionVars false
open Go.RowKit
set_option maxHeartbeats 4000000 in
theorem listCode_c (A A' : Option Addr) (c c' : Nat) (ms ms' : List Mp) (w : World) (hn : ms.length ≤ 2097152) (hn' : ms'.length ≤ 2097152) (h : SeeMaps w A ms) (h' : SeeMaps w A' ms') (hA : NilOk A c) (hA' : NilOk A' c') :
    Calls Try.prog 75 #[.slice A ms.length c, .slice A' ms'.length c'] w fun e w' => e = .returned (.int .i64 (lcode ms ms')) ∧ Below w.heap.size w w' := by
  go_enter Try.func75, Try.ntmps75
  go_wp2_with fail
  have k0 : Below w.heap.size w (w.alloc (Obj.cells #[Value.slice A ms.length c, Value.slice A' ms'.length c'] 27)) := by go_grown
  refine (Concat_c _ A A' c c' ms ms' _ hn hn' (h.below k0) (h'.below k0) hA hA' (by simp [go_sem]) (by simp [go_sem])).mono ?_
  rintro e w1 ⟨v, rfl, hown, hb1⟩
  replace hb1 := btrans k0 hb1
  clear k0
  obtain ⟨B, cB, rfl, hsee⟩ := hown.see
  clear hown
  obtain ⟨L, hL⟩ : ∃ L, L = ms ++ ms' := ⟨_, rfl⟩
  have hLn : L.length ≤ 4194304 := by rw [hL, List.length_append]; omega
  rw [← hL] at hsee ⊢
  have HL := Lib.hid hL
  clear hL
  go_wp2
  go_loopw [14] (fun i wr => ∃ k : Nat, k ≤ L.length ∧ i = .int .i64 k ∧ AllTo IsMp L k ∧ SeeMaps wr B L ∧ Below w.heap.size w wr) (fun i _ => L.length - (intOf i).toNat)
  case atStart => exact ⟨0, Nat.zero_le _, rfl, AllTo.zero _ _, hsee, hb1⟩
  case round =>
    clear hsee hb1
    obtain ⟨k, hk, rfl, hj, hsee, hb1⟩ := hrel
    have hz1 := hb1.size
    by_cases hlt : k < L.length
    · obtain ⟨b, o, m, rfl, hm, g⟩ := hsee.at_ hlt
      obtain ⟨g0, g1, g2, g3, g4, g5⟩ := g
      have HJ := Lib.hid hj
      have HM := Lib.hid hm
      have HS := Lib.hid hsee
      clear hj hm hsee
      have hl : (0 : Int) ≤ k := by omega
      have hl' : (k : Int) < L.length := by omega
      cases he : isMpB m
      · go_wp2_with (go_at_call 91; go_must (refine (IsMap_c m _).mono ?_); rintro e w2 ⟨rfl, hb2⟩)
        go_returns
        have hbad : ¬ IsMp m := by simpa [isMpB] using he
        refine ⟨ret_int ?_, btrans (w1 := _) (by repeat' (first | (with_reducible exact Below.refl _ _) | (with_reducible assumption) | (with_reducible refine bdrewN ?_ _) | (with_reducible refine Below.alloc ?_ ?_ _) | (with_reducible refine Below.drew ?_) | (with_reducible refine Below.setCell ?_ ?_ _) | go_size)) hb2⟩
        rw [lcode_bad (by rw [← HL.out]; exact AllTo.not HM.out hbad)]
      · go_wp2_with (go_at_call 91; go_must (refine (IsMap_c m _).mono ?_); rintro e w2 ⟨rfl, hb2⟩)
        go_roundw
        case rel =>
          have hok : IsMp m := by simpa [isMpB] using he
          have hb3 : Below wr.heap.size wr w2 := btrans (w1 := _) (by repeat' (first | (with_reducible exact Below.refl _ _) | (with_reducible assumption) | (with_reducible refine bdrewN ?_ _) | (with_reducible refine Below.alloc ?_ ?_ _) | (with_reducible refine Below.drew ?_) | (with_reducible refine Below.setCell ?_ ?_ _) | go_size)) hb2
          exact ⟨k + 1, by omega, by go_num, HJ.out.snoc HM.out hok, HS.out.below hb3, btrans hb1 hb3⟩
        case measure => simp [intOf]; omega
    · obtain rfl : k = L.length := by omega
      have hall : ∀ m ∈ ms ++ ms', IsMp m := by rw [← HL.out]; exact hj.all
      clear hj hsee
      by_cases hlen : 1 ≤ ms.length ∧ ms.length ≤ 6
      · have hin : inB (ms.length : Int) 1 6 = true := inB_true (by omega) (by omega)
        go_wp2_with (go_at_call 78; go_must (refine (within_c _ _ _ _).mono ?_); rintro e w2 ⟨rfl, hb2⟩)
        replace hb2 := btrans hb1 hb2
        have hz2 := hb2.size
        have k0 : Below w.heap.size w (w2.alloc (Obj.cells #[Value.slice A ms.length c, Value.slice A' ms'.length c'] 27)) := (by repeat' (first | (with_reducible exact Below.refl _ _) | (with_reducible assumption) | (with_reducible refine bdrewN ?_ _) | (with_reducible refine Below.alloc ?_ ?_ _) | (with_reducible refine Below.drew ?_) | (with_reducible refine Below.setCell ?_ ?_ _) | go_size))
        go_wp2_with fail
        refine (Concat_c _ A A' c c' ms ms' _ hn hn' (h.below k0) (h'.below k0) hA hA' (by simp [go_sem]) (by simp [go_sem])).mono ?_
        rintro e w3 ⟨v, rfl, hown, hb3⟩
        replace hb3 := btrans k0 hb3
        clear k0
        obtain ⟨B2, cB2, rfl, hsee⟩ := hown.see
        clear hown
        rw [← HL.out] at hsee ⊢
        go_wp2
        obtain ⟨b0, o0, m0, rfl, hm0, g0⟩ := h.at_ (show 0 < ms.length by omega)
        have hd : (ms.headD Mp.z).p = m0.p := by
          cases ms with
          | nil => simp at hm0
          | cons x xs => simp at hm0; simp [hm0]
        have HD := Lib.hid hd
        clear hd hm0
        go_loopw [31] (fun i wr => ∃ k : Nat, k ≤ L.length ∧ i = .int .i64 k ∧ AllTo (fun m => m.p = m0.p) L k ∧ SeeMaps wr B2 L ∧ Below w.heap.size w wr) (fun i _ => L.length - (intOf i).toNat)
        case atStart => exact ⟨0, Nat.zero_le _, rfl, AllTo.zero _ _, hsee, hb3⟩
        case round =>
          clear hsee hb1 hb2 h h' hb3
          obtain ⟨k, hk, rfl, hj, hsee, hb4⟩ := hrel
          have hz4 := hb4.size
          have q0 : wr.cell? ⟨b0, o0, none⟩ = some (.int .i64 m0.p) := by simpa using (g0.below hb4).h0
          have q1 := acell q0
          have hl0 : 0 < ms.length := by omega
          clear g0
          by_cases hlt : k < L.length
          · obtain ⟨b, o, m, rfl, hm, g⟩ := hsee.at_ hlt
            obtain ⟨g0, g1, g2, g3, g4, g5⟩ := g
            have HJ := Lib.hid hj
            have HM := Lib.hid hm
            have HS := Lib.hid hsee
            clear hj hm hsee
            have hl : (0 : Int) ≤ k := by omega
            have hl' : (k : Int) < L.length := by omega
            by_cases he : m.p = m0.p
            · have d : (m.p != m0.p) = false := by simpa using he
              have HE := Lib.hid he
              clear he
              go_wp2
              go_quiet (fail)
              go_wp2
              go_roundw
              case rel =>
                exact ⟨k + 1, by omega, by go_num, HJ.out.snoc HM.out HE.out, HS.out.below (by repeat' (first | (with_reducible exact Below.refl _ _) | (with_reducible assumption) | (with_reducible refine bdrewN ?_ _) | (with_reducible refine Below.alloc ?_ ?_ _) | (with_reducible refine Below.drew ?_) | (with_reducible refine Below.setCell ?_ ?_ _) | go_size)), (by repeat' (first | (with_reducible exact Below.refl _ _) | (with_reducible assumption) | (with_reducible refine bdrewN ?_ _) | (with_reducible refine Below.alloc ?_ ?_ _) | (with_reducible refine Below.drew ?_) | (with_reducible refine Below.setCell ?_ ?_ _) | go_size))⟩
              case measure => simp [intOf]; omega
            · have d : (m.p != m0.p) = true := by simpa using he
              go_wp2
              go_quiet (fail)
              go_wp2
              go_returns
              refine ⟨ret_int (lcode_pts hall hlen ?_).symm, (by repeat' (first | (with_reducible exact Below.refl _ _) | (with_reducible assumption) | (with_reducible refine bdrewN ?_ _) | (with_reducible refine Below.alloc ?_ ?_ _) | (with_reducible refine Below.drew ?_) | (with_reducible refine Below.setCell ?_ ?_ _) | go_size))⟩
              rw [← HL.out]
              exact AllTo.not HM.out (by rw [HD.out]; exact he)
          · obtain rfl : k = L.length := by omega
            go_wp2
            go_returns
            refine ⟨ret_int (lcode_ok hall hlen ?_).symm, hb4⟩
            rw [← HL.out, HD.out]
            exact hj.all
      · have hin : inB (ms.length : Int) 1 6 = false := inB_false (by omega)
        go_wp2_with (go_at_call 78; go_must (refine (within_c _ _ _ _).mono ?_); rintro e w2 ⟨rfl, hb2⟩)
        go_returns
        exact ⟨ret_int (lcode_len hall hlen).symm, btrans hb1 hb2⟩
end Go.Proofs.Ythadgdmooacccaa
