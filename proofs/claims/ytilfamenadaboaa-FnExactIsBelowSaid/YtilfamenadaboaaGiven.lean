/- 'l02Given' tells the code of a list of maps, with others beside. No condition. -/
import Derived.Test.YtilfamenadaboaaSets
namespace Go.Proofs.Ytilfamenadaboaa
set_option linter.unusedSimpArgs false
set_option linter.unusedVariables false
set_option linter.unusedSectionVars false
open Go.RowKit
theorem lcode_bad_l {ms ms' : List Mp} {k : Nat} {m : Mp} (hk : ms[k]? = some m) (h : ¬ IsMp m) : lcode ms ms' = 1 := lcode_bad fun H => h (H m (List.mem_append_left _ (List.mem_of_getElem? hk)))
theorem lcode_bad_r {ms ms' : List Mp} {k : Nat} {m : Mp} (hk : ms'[k]? = some m) (h : ¬ IsMp m) : lcode ms ms' = 1 := lcode_bad fun H => h (H m (List.mem_append_right _ (List.mem_of_getElem? hk)))
theorem all_app {ms ms' : List Mp} (h : ∀ m ∈ ms, IsMp m) (h' : ∀ m ∈ ms', IsMp m) : ∀ m ∈ ms ++ ms', IsMp m := fun m hm => (List.mem_append.1 hm).elim (h m) (h' m)
theorem sameB_points {ms : List Mp} (h : sameB ms = true) : ∀ m ∈ ms, m.p = (ms.headD Mp.z).p := by
  have h' : lcode ms [] = 0 := by simpa [sameB] using h
  unfold lcode at h'
  rw [List.append_nil] at h'
  split at h'
  · split at h'
    · split at h'
      · rename_i h3; exact h3
      · cases h'
    · cases h'
  · cases h'
theorem sameB_len' {ms : List Mp} (h : sameB ms = true) : 1 ≤ ms.length ∧ ms.length ≤ 6 := Classical.byContradiction fun hn => by rw [sameB_len hn] at h; cases h
theorem lcode_same_bad {ms ms' : List Mp} (h : ∀ m ∈ ms ++ ms', IsMp m) (hs : sameB ms = false) : lcode ms ms' = 2 := by
  by_cases hl : 1 ≤ ms.length ∧ ms.length ≤ 6
  · refine lcode_pts h hl fun H => ?_
    have : sameB ms = true := by
      unfold sameB
      rw [lcode_ok (by simpa using fun m hm => h m (List.mem_append_left _ hm)) hl (by simpa using fun m hm => H m (List.mem_append_left _ hm))]
      rfl
    rw [hs] at this
    cases this
  · exact lcode_len h hl
set_option maxHeartbeats 4000000 in
theorem l02Given_c (A A' : Option Addr) (c c' : Nat) (ms ms' : List Mp) (w : World) (hn : ms.length ≤ 2097152) (hn' : ms'.length ≤ 2097152) (h : SeeMaps w A ms) (h' : SeeMaps w A' ms') :
    Calls Try.prog 93 #[.slice A ms.length c, .slice A' ms'.length c'] w fun e w' => e = .returned (.int .i64 (lcode ms ms')) ∧ Below w.heap.size w w' := by
  go_enter Try.func93, Try.ntmps93
  go_wp2
  go_loopw [5] (fun i wr => ∃ k : Nat, k ≤ ms.length ∧ i = .int .i64 k ∧ AllTo IsMp ms k ∧ Below w.heap.size w wr) (fun i _ => ms.length - (intOf i).toNat)
  case atStart => exact ⟨0, Nat.zero_le _, rfl, AllTo.zero _ _, Below.refl _ _⟩
  case round =>
    obtain ⟨k, hk, rfl, hj, hb⟩ := hrel
    by_cases hlt : k < ms.length
    · obtain ⟨b, o, m, rfl, hm, g⟩ := (h.below hb).at_ hlt
      obtain ⟨g0, g1, g2, g3, g4, g5⟩ := g
      have HJ := Lib.hid hj
      have HM := Lib.hid hm
      have hl : (0 : Int) ≤ k := by omega
      have hl' : (k : Int) < ms.length := by omega
      clear hj hm h h'
      cases he : isMpB m
      · go_wp2_with (go_at_call 108; go_must (refine (valB (l01Is_c m _) he).mono ?_); rintro e w2 ⟨rfl, hb2⟩)
        go_returns
        exact ⟨ret_int (lcode_bad_l HM.out (by simpa [isMpB] using he)).symm, btrans hb hb2⟩
      · go_wp2_with (go_at_call 108; go_must (refine (valB (l01Is_c m _) he).mono ?_); rintro e w2 ⟨rfl, hb2⟩)
        go_roundw
        case rel => exact ⟨k + 1, by omega, by go_num, HJ.out.snoc HM.out (by simpa [isMpB] using he), btrans hb hb2⟩
        case measure => simp [intOf]; omega
    · obtain rfl : k = ms.length := by omega
      have H1 := Lib.hid hj.all
      clear hj
      go_wp2
      go_loopw [6] (fun i wr => ∃ k : Nat, k ≤ ms'.length ∧ i = .int .i64 k ∧ AllTo IsMp ms' k ∧ Below w.heap.size w wr) (fun i _ => ms'.length - (intOf i).toNat)
      case atStart => exact ⟨0, Nat.zero_le _, rfl, AllTo.zero _ _, hb⟩
      case round =>
        clear hb
        obtain ⟨k, hk, rfl, hj, hb⟩ := hrel
        by_cases hlt : k < ms'.length
        · obtain ⟨b, o, m, rfl, hm, g⟩ := (h'.below hb).at_ hlt
          obtain ⟨g0, g1, g2, g3, g4, g5⟩ := g
          have HJ := Lib.hid hj
          have HM := Lib.hid hm
          have hl : (0 : Int) ≤ k := by omega
          have hl' : (k : Int) < ms'.length := by omega
          clear hj hm h h'
          cases he : isMpB m
          · go_wp2_with (go_at_call 108; go_must (refine (valB (l01Is_c m _) he).mono ?_); rintro e w2 ⟨rfl, hb2⟩)
            go_returns
            exact ⟨ret_int (lcode_bad_r HM.out (by simpa [isMpB] using he)).symm, btrans hb hb2⟩
          · go_wp2_with (go_at_call 108; go_must (refine (valB (l01Is_c m _) he).mono ?_); rintro e w2 ⟨rfl, hb2⟩)
            go_roundw
            case rel => exact ⟨k + 1, by omega, by go_num, HJ.out.snoc HM.out (by simpa [isMpB] using he), btrans hb hb2⟩
            case measure => simp [intOf]; omega
        · obtain rfl : k = ms'.length := by omega
          have H2 := Lib.hid hj.all
          clear hj
          cases hs : sameB ms
          · go_wp2_with (go_at_call 109; go_must (refine (valB (l01Same_c _ _ ms _ (h.below hb) hn) hs).mono ?_); rintro e w2 ⟨rfl, hb2⟩)
            go_returns
            exact ⟨ret_int (lcode_same_bad (all_app H1.out H2.out) hs).symm, btrans hb hb2⟩
          · have hlen := sameB_len' hs
            obtain ⟨b0, o0, m0, rfl, hm0, g0⟩ := h.at_ (show 0 < ms.length by omega)
            have hd : ms.headD Mp.z = m0 := by
              cases ms with
              | nil => simp at hm0
              | cons x xs => simp at hm0; simp [hm0]
            have HD := Lib.hid hd
            have HL := Lib.hid hlen
            have hl0 : 0 < ms.length := by omega
            have p0 : w.cell? ⟨b0, o0, none⟩ = some (.int .i64 m0.p) := by simpa using g0.h0
            clear hd hm0 g0 hlen
            go_wp2_with (go_at_call 109; go_must (refine (valB (l01Same_c _ _ ms _ (h.below hb) hn) hs).mono ?_); rintro e w2 ⟨rfl, hb2⟩)
            replace hb2 := btrans hb hb2
            clear hb h
            go_loopw [7] (fun i wr => ∃ k : Nat, k ≤ ms'.length ∧ i = .int .i64 k ∧ AllTo (fun m => m.p = m0.p) ms' k ∧ Below w.heap.size w wr) (fun i _ => ms'.length - (intOf i).toNat)
            case atStart => exact ⟨0, Nat.zero_le _, rfl, AllTo.zero _ _, hb2⟩
            case round =>
              clear hb2
              obtain ⟨k, hk, rfl, hj, hb⟩ := hrel
              by_cases hlt : k < ms'.length
              · obtain ⟨b, o, m, rfl, hm, g⟩ := (h'.below hb).at_ hlt
                have g0 := bwcell g.h0
                have q0 := bwcell (bcell hb p0)
                have HJ := Lib.hid hj
                have HM := Lib.hid hm
                have hl : (0 : Int) ≤ k := by omega
                have hl' : (k : Int) < ms'.length := by omega
                clear hj hm g h' p0
                by_cases he : m.p = m0.p
                · have d : (m.p != m0.p) = false := by simpa using he
                  have HE := Lib.hid he
                  clear he
                  go_wp2
                  refine wp_region_bw (by kernel_rfl) (by kernel_rfl) ?_
                  repeat go_big_quiet_step (fail)
                  refine wpQuiet_nil ?_
                  rintro _ ⟨⟨w2, hb2⟩, rfl⟩
                  go_wp2
                  go_roundw
                  case rel => exact ⟨k + 1, by omega, by go_num, HJ.out.snoc HM.out HE.out, btrans hb hb2⟩
                  case measure => simp [intOf]; omega
                · have d : (m.p != m0.p) = true := by simpa using he
                  go_wp2
                  refine wp_region_bw (by kernel_rfl) (by kernel_rfl) ?_
                  repeat go_big_quiet_step (fail)
                  refine wpQuiet_nil ?_
                  rintro _ ⟨⟨w2, hb2⟩, rfl⟩
                  go_wp2
                  go_returns
                  refine ⟨ret_int (lcode_pts (all_app H1.out H2.out) HL.out fun H => he ?_).symm, btrans hb hb2⟩
                  rw [H m (List.mem_append_right _ (List.mem_of_getElem? HM.out)), HD.out]
              · obtain rfl : k = ms'.length := by omega
                go_wp2
                go_returns
                refine ⟨ret_int (lcode_ok (all_app H1.out H2.out) HL.out fun m hm => ?_).symm, hb⟩
                rcases List.mem_append.1 hm with hm | hm
                · exact sameB_points hs m hm
                · rw [HD.out]; exact hj.all m hm
end Go.Proofs.Ytilfamenadaboaa
