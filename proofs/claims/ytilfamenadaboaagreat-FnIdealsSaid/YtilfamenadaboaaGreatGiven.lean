/- 'isPoint', 'isSet', 'l05Set', 'l01Same' and what is an acceptor, on both sides. No condition. -/
import Derived.Test.YtilfamenadaboaaGreatListCode
import Derived.Test.YtilfamenadaboaaGreatEq
namespace Go.Proofs.YtilfamenadaboaaGreat
set_option linter.unusedSimpArgs false
set_option linter.unusedVariables false
set_option linter.unusedSectionVars false
open Go.RowKit
/-- a list of 1 to 6 maps of as many points -/
def sameB (ms : List Mp) : Bool := decide (lcode ms [] = 0)
theorem sameB_len {ms : List Mp} (h : ¬ (1 ≤ ms.length ∧ ms.length ≤ 6)) : sameB ms = false := by
  unfold sameB lcode
  rw [if_neg h]
  split <;> simp
theorem sameB_el {ms : List Mp} {k : Nat} {m m0 : Mp} (hk : ms[k]? = some m) (h0 : ms[0]? = some m0) (h : ¬ (IsMp m ∧ m.p = m0.p)) : sameB ms = false := by
  have hm := List.mem_of_getElem? hk
  have hd : ms.headD Mp.z = m0 := by
    cases ms with
    | nil => simp at h0
    | cons x xs => simp at h0; simp [h0]
  unfold sameB lcode
  rw [List.append_nil]
  by_cases h1 : ∀ m ∈ ms, IsMp m
  · rw [if_pos h1]
    split
    · rw [if_neg (fun H => h ⟨h1 m hm, by rw [H m hm, hd]⟩)]; simp
    · simp
  · rw [if_neg h1]; simp
theorem sameB_ok {ms : List Mp} {m0 : Mp} (h0 : ms[0]? = some m0) (hl : ms.length ≤ 6) (h : ∀ m ∈ ms, IsMp m ∧ m.p = m0.p) : sameB ms = true := by
  have hd : ms.headD Mp.z = m0 := by
    cases ms with
    | nil => simp at h0
    | cons x xs => simp at h0; simp [h0]
  have hl0 := (List.getElem?_eq_some_iff.1 h0).1
  unfold sameB
  rw [lcode_ok (by simpa using fun m hm => (h m hm).1) ⟨by omega, hl⟩ (by rw [List.append_nil, hd]; exact fun m hm => (h m hm).2)]
  rfl
set_option maxHeartbeats 2000000 in
theorem l01Same_c (A : Option Addr) (c : Nat) (ms : List Mp) (w : World) (h : SeeMaps w A ms) (hn : ms.length ≤ 2097152) :
    Calls Tryz.prog 125 #[.slice A ms.length c] w fun e w' => e = .returned (.bool (sameB ms)) ∧ Below w.heap.size w w' := by
  by_cases hlen : 1 ≤ ms.length ∧ ms.length ≤ 6
  · have d1 : decide ((ms.length : Int) < 1) = false := decide_eq_false (by omega)
    have d2 : decide ((6 : Int) < ms.length) = false := decide_eq_false (by omega)
    obtain ⟨b, o, m0, rfl, h0, g0⟩ := h.at_ (show 0 < ms.length by omega)
    have H0 := Lib.hid h0
    clear h0
    go_enter Tryz.func125, Tryz.ntmps125
    go_wp2
    go_loopw [3] (fun i wr => ∃ k : Nat, k ≤ ms.length ∧ i = .int .i64 k ∧ AllTo (fun m => IsMp m ∧ m.p = m0.p) ms k ∧ Below w.heap.size w wr) (fun i _ => ms.length - (intOf i).toNat)
    case atStart => exact ⟨0, Nat.zero_le _, rfl, AllTo.zero _ _, Below.refl _ _⟩
    case round =>
      obtain ⟨k, hk, rfl, hj, hb⟩ := hrel
      by_cases hlt : k < ms.length
      · obtain ⟨b', o', m, e, hm, g⟩ := (h.below hb).at_ hlt
        simp only [Option.some.injEq, Addr.mk.injEq, and_true] at e
        obtain ⟨rfl, rfl⟩ := e
        obtain ⟨q0, q1, q2, q3, q4, q5⟩ := g.bw
        have p0 : ∀ x : BW wr, x.1.cell? ⟨b, o, none⟩ = some (.int .i64 m0.p) := by simpa using bwcell (g0.below hb).h0
        have HJ := Lib.hid hj
        have HM := Lib.hid hm
        clear hj hm h g g0
        have hl : (0 : Int) ≤ k := by omega
        have hl' : (k : Int) < ms.length := by omega
        have hl0 : 0 < ms.length := by omega
        cases he : isMpB m
        · go_wp2
          refine wp_region_bw (by kernel_rfl) (by kernel_rfl) ?_
          repeat go_big_quiet_step (((go_at_call 124; exact Calls.bw _ (l01Is_c _ _))))
          refine wpQuiet_nil ?_
          rintro _ ⟨⟨w2, hb2⟩, rfl⟩
          go_wp2
          go_returns
          exact ⟨ret_bool (sameB_el HM.out H0.out (fun H => by rw [isMpB_true H.1] at he; cases he)).symm, btrans hb hb2⟩
        · by_cases hp : m.p = m0.p
          · have d : (m.p != m0.p) = false := by simpa using hp
            have HP := Lib.hid hp
            clear hp
            go_wp2
            refine wp_region_bw (by kernel_rfl) (by kernel_rfl) ?_
            repeat go_big_quiet_step (((go_at_call 124; exact Calls.bw _ (l01Is_c _ _))))
            refine wpQuiet_nil ?_
            rintro _ ⟨⟨w2, hb2⟩, rfl⟩
            go_wp2
            go_roundw
            case rel => exact ⟨k + 1, by omega, by go_num, HJ.out.snoc HM.out ⟨by simpa [isMpB] using he, HP.out⟩, btrans hb hb2⟩
            case measure => simp [intOf]; omega
          · have d : (m.p != m0.p) = true := by simpa using hp
            go_wp2
            refine wp_region_bw (by kernel_rfl) (by kernel_rfl) ?_
            repeat go_big_quiet_step (((go_at_call 124; exact Calls.bw _ (l01Is_c _ _))))
            refine wpQuiet_nil ?_
            rintro _ ⟨⟨w2, hb2⟩, rfl⟩
            go_wp2
            go_returns
            exact ⟨ret_bool (sameB_el HM.out H0.out (fun H => hp H.2)).symm, btrans hb hb2⟩
      · obtain rfl : k = ms.length := by omega
        go_wp2
        go_returns
        exact ⟨ret_bool (sameB_ok H0.out hlen.2 hj.all).symm, hb⟩
  · by_cases h1 : ms.length < 1
    · have d1 : decide ((ms.length : Int) < 1) = true := decide_eq_true (by omega)
      go_enter Tryz.func125, Tryz.ntmps125
      go_wp2
      go_returns
      exact ⟨ret_bool (sameB_len hlen).symm, Below.refl _ _⟩
    · have d1 : decide ((ms.length : Int) < 1) = false := decide_eq_false (by omega)
      have d2 : decide ((6 : Int) < ms.length) = true := decide_eq_true (by omega)
      go_enter Tryz.func125, Tryz.ntmps125
      go_wp2
      go_returns
      exact ⟨ret_bool (sameB_len hlen).symm, Below.refl _ _⟩
/-! 'l02Given' tells the code of a list of maps, with others beside. -/
theorem lcode_bad_l {ms ms' : List Mp} {k : Nat} {m : Mp} (hk : ms[k]? = some m) (h : ¬ IsMp m) : lcode ms ms' = 1 := lcode_bad fun H => h (H m (List.mem_append_left _ (List.mem_of_getElem? hk)))
theorem lcode_bad_r {ms ms' : List Mp} {k : Nat} {m : Mp} (hk : ms'[k]? = some m) (h : ¬ IsMp m) : lcode ms ms' = 1 := lcode_bad fun H => h (H m (List.mem_append_right _ (List.mem_of_getElem? hk)))
theorem all_app {ms ms' : List Mp} (h : ∀ m ∈ ms, IsMp m) (h' : ∀ m ∈ ms', IsMp m) : ∀ m ∈ ms ++ ms', IsMp m := fun m hm => (List.mem_append.1 hm).elim (h m) (h' m)
theorem sameB_points {ms : List Mp} (h : sameB ms = true) : ∀ m ∈ ms, m.p = (ms.headD Mp.z).p := by
  have h' : lcode ms [] = 0 := by simpa [sameB] using h
  unfold lcode at h'
  rw [List.append_nil] at h'
  split at h'
  · split at h'
    · split at h'
      · rename_i h3; exact h3
      · cases h'
    · cases h'
  · cases h'
theorem sameB_len' {ms : List Mp} (h : sameB ms = true) : 1 ≤ ms.length ∧ ms.length ≤ 6 := Classical.byContradiction fun hn => by rw [sameB_len hn] at h; cases h
theorem lcode_same_bad {ms ms' : List Mp} (h : ∀ m ∈ ms ++ ms', IsMp m) (hs : sameB ms = false) : lcode ms ms' = 2 := by
  by_cases hl : 1 ≤ ms.length ∧ ms.length ≤ 6
  · refine lcode_pts h hl fun H => ?_
    have : sameB ms = true := by
      unfold sameB
      rw [lcode_ok (by simpa using fun m hm => h m (List.mem_append_left _ hm)) hl (by simpa using fun m hm => H m (List.mem_append_left _ hm))]
      rfl
    rw [hs] at this
    cases this
  · exact lcode_len h hl
set_option maxHeartbeats 4000000 in
theorem l02Given_c (A A' : Option Addr) (c c' : Nat) (ms ms' : List Mp) (w : World) (hn : ms.length ≤ 2097152) (hn' : ms'.length ≤ 2097152) (h : SeeMaps w A ms) (h' : SeeMaps w A' ms') :
    Calls Tryz.prog 106 #[.slice A ms.length c, .slice A' ms'.length c'] w fun e w' => e = .returned (.int .i64 (lcode ms ms')) ∧ Below w.heap.size w w' := by
  go_enter Tryz.func106, Tryz.ntmps106
  go_wp2
  go_loopw [5] (fun i wr => ∃ k : Nat, k ≤ ms.length ∧ i = .int .i64 k ∧ AllTo IsMp ms k ∧ Below w.heap.size w wr) (fun i _ => ms.length - (intOf i).toNat)
  case atStart => exact ⟨0, Nat.zero_le _, rfl, AllTo.zero _ _, Below.refl _ _⟩
  case round =>
    obtain ⟨k, hk, rfl, hj, hb⟩ := hrel
    by_cases hlt : k < ms.length
    · obtain ⟨b, o, m, rfl, hm, g⟩ := (h.below hb).at_ hlt
      obtain ⟨g0, g1, g2, g3, g4, g5⟩ := g
      have HJ := Lib.hid hj
      have HM := Lib.hid hm
      have hl : (0 : Int) ≤ k := by omega
      have hl' : (k : Int) < ms.length := by omega
      clear hj hm h h'
      cases he : isMpB m
      · go_wp2_with (go_at_call 124; go_must (refine (valB (l01Is_c m _) he).mono ?_); rintro e w2 ⟨rfl, hb2⟩)
        go_returns
        exact ⟨ret_int (lcode_bad_l HM.out (by simpa [isMpB] using he)).symm, btrans hb hb2⟩
      · go_wp2_with (go_at_call 124; go_must (refine (valB (l01Is_c m _) he).mono ?_); rintro e w2 ⟨rfl, hb2⟩)
        go_roundw
        case rel => exact ⟨k + 1, by omega, by go_num, HJ.out.snoc HM.out (by simpa [isMpB] using he), btrans hb hb2⟩
        case measure => simp [intOf]; omega
    · obtain rfl : k = ms.length := by omega
      have H1 := Lib.hid hj.all
      clear hj
      go_wp2
      go_loopw [6] (fun i wr => ∃ k : Nat, k ≤ ms'.length ∧ i = .int .i64 k ∧ AllTo IsMp ms' k ∧ Below w.heap.size w wr) (fun i _ => ms'.length - (intOf i).toNat)
      case atStart => exact ⟨0, Nat.zero_le _, rfl, AllTo.zero _ _, hb⟩
      case round =>
        clear hb
        obtain ⟨k, hk, rfl, hj, hb⟩ := hrel
        by_cases hlt : k < ms'.length
        · obtain ⟨b, o, m, rfl, hm, g⟩ := (h'.below hb).at_ hlt
          obtain ⟨g0, g1, g2, g3, g4, g5⟩ := g
          have HJ := Lib.hid hj
          have HM := Lib.hid hm
          have hl : (0 : Int) ≤ k := by omega
          have hl' : (k : Int) < ms'.length := by omega
          clear hj hm h h'
          cases he : isMpB m
          · go_wp2_with (go_at_call 124; go_must (refine (valB (l01Is_c m _) he).mono ?_); rintro e w2 ⟨rfl, hb2⟩)
            go_returns
            exact ⟨ret_int (lcode_bad_r HM.out (by simpa [isMpB] using he)).symm, btrans hb hb2⟩
          · go_wp2_with (go_at_call 124; go_must (refine (valB (l01Is_c m _) he).mono ?_); rintro e w2 ⟨rfl, hb2⟩)
            go_roundw
            case rel => exact ⟨k + 1, by omega, by go_num, HJ.out.snoc HM.out (by simpa [isMpB] using he), btrans hb hb2⟩
            case measure => simp [intOf]; omega
        · obtain rfl : k = ms'.length := by omega
          have H2 := Lib.hid hj.all
          clear hj
          cases hs : sameB ms
          · go_wp2_with (go_at_call 125; go_must (refine (valB (l01Same_c _ _ ms _ (h.below hb) hn) hs).mono ?_); rintro e w2 ⟨rfl, hb2⟩)
            go_returns
            exact ⟨ret_int (lcode_same_bad (all_app H1.out H2.out) hs).symm, btrans hb hb2⟩
          · have hlen := sameB_len' hs
            obtain ⟨b0, o0, m0, rfl, hm0, g0⟩ := h.at_ (show 0 < ms.length by omega)
            have hd : ms.headD Mp.z = m0 := by
              cases ms with
              | nil => simp at hm0
              | cons x xs => simp at hm0; simp [hm0]
            have HD := Lib.hid hd
            have HL := Lib.hid hlen
            have hl0 : 0 < ms.length := by omega
            have p0 : w.cell? ⟨b0, o0, none⟩ = some (.int .i64 m0.p) := by simpa using g0.h0
            clear hd hm0 g0 hlen
            go_wp2_with (go_at_call 125; go_must (refine (valB (l01Same_c _ _ ms _ (h.below hb) hn) hs).mono ?_); rintro e w2 ⟨rfl, hb2⟩)
            replace hb2 := btrans hb hb2
            clear hb h
            go_loopw [7] (fun i wr => ∃ k : Nat, k ≤ ms'.length ∧ i = .int .i64 k ∧ AllTo (fun m => m.p = m0.p) ms' k ∧ Below w.heap.size w wr) (fun i _ => ms'.length - (intOf i).toNat)
            case atStart => exact ⟨0, Nat.zero_le _, rfl, AllTo.zero _ _, hb2⟩
            case round =>
              clear hb2
              obtain ⟨k, hk, rfl, hj, hb⟩ := hrel
              by_cases hlt : k < ms'.length
              · obtain ⟨b, o, m, rfl, hm, g⟩ := (h'.below hb).at_ hlt
                have g0 := bwcell g.h0
                have q0 := bwcell (bcell hb p0)
                have HJ := Lib.hid hj
                have HM := Lib.hid hm
                have hl : (0 : Int) ≤ k := by omega
                have hl' : (k : Int) < ms'.length := by omega
                clear hj hm g h' p0
                by_cases he : m.p = m0.p
                · have d : (m.p != m0.p) = false := by simpa using he
                  have HE := Lib.hid he
                  clear he
                  go_wp2
                  refine wp_region_bw (by kernel_rfl) (by kernel_rfl) ?_
                  repeat go_big_quiet_step (fail)
                  refine wpQuiet_nil ?_
                  rintro _ ⟨⟨w2, hb2⟩, rfl⟩
                  go_wp2
                  go_roundw
                  case rel => exact ⟨k + 1, by omega, by go_num, HJ.out.snoc HM.out HE.out, btrans hb hb2⟩
                  case measure => simp [intOf]; omega
                · have d : (m.p != m0.p) = true := by simpa using he
                  go_wp2
                  refine wp_region_bw (by kernel_rfl) (by kernel_rfl) ?_
                  repeat go_big_quiet_step (fail)
                  refine wpQuiet_nil ?_
                  rintro _ ⟨⟨w2, hb2⟩, rfl⟩
                  go_wp2
                  go_returns
                  refine ⟨ret_int (lcode_pts (all_app H1.out H2.out) HL.out fun H => he ?_).symm, btrans hb hb2⟩
                  rw [H m (List.mem_append_right _ (List.mem_of_getElem? HM.out)), HD.out]
              · obtain rfl : k = ms'.length := by omega
                go_wp2
                go_returns
                refine ⟨ret_int (lcode_ok (all_app H1.out H2.out) HL.out fun m hm => ?_).symm, hb⟩
                rcases List.mem_append.1 hm with hm | hm
                · exact sameB_points hs m hm
                · rw [HD.out]; exact hj.all m hm
end Go.Proofs.YtilfamenadaboaaGreat
