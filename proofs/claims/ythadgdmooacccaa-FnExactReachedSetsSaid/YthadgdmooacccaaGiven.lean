/- 'isPoint', 'isSet', 'l05Set', 'l01Same' and what is an acceptor, on both sides. No condition. -/
import Derived.Test.YthadgdmooacccaaListCode
import Derived.Test.YthadgdmooacccaaEq
namespace Go.Proofs.Ythadgdmooacccaa
set_option linter.unusedSimpArgs false
set_option linter.unusedVariables false
set_option linter.unusedSectionVars false
open Go.RowKit
theorem isPoint_c (A : Option Addr) (c : Nat) (ms : List Mp) (m0 : Mp) (p : Int) (w : World) (h : SeeMaps w A ms) (h0 : ms[0]? = some m0) (hm : IsMp m0) :
    Calls Try.prog 60 #[.slice A ms.length c, .int .i64 p] w fun e w' => e = .returned (.bool (inB p 0 (m0.p - 1))) ∧ Below w.heap.size w w' := by
  have hl := (List.getElem?_eq_some_iff.1 h0).1
  obtain ⟨b, o, m, rfl, hm0, g⟩ := h.at_ hl
  rw [h0] at hm0
  obtain rfl := Option.some.inj hm0
  have q0 : w.cell? ⟨b, o, none⟩ = some (.int .i64 m0.p) := by simpa using g.h0
  have b1 := hm.1
  have b2 := hm.2.1
  clear g h h0 hm hm0
  go_enter Try.func60, Try.ntmps60
  go_wp2_with (go_at_call 78; go_must (refine (within_c _ _ _ _).mono ?_); rintro e w2 ⟨rfl, hb2⟩)
  go_returns
  exact ⟨rfl, hb2⟩
set_option maxHeartbeats 1000000 in
theorem isSet_c (A : Option Addr) (c : Nat) (xs : List Int) (n : Int) (w : World) (h : SeeInts w A xs) (hn : xs.length ≤ 2097152) (h1 : 0 ≤ n) (h2 : n ≤ 1000000) :
    Calls Try.prog 70 #[.slice A xs.length c, .int .i64 n] w fun e w' => e = .returned (.bool (isSetB xs n)) ∧ Below w.heap.size w w' := by
  go_enter Try.func70, Try.ntmps70
  go_wp2
  go_loopw [9] (fun i wr => ∃ k : Nat, k ≤ xs.length ∧ i = .int .i64 k ∧ SetTo xs n k ∧ Below w.heap.size w wr) (fun i _ => xs.length - (intOf i).toNat)
  case atStart => exact ⟨0, Nat.zero_le _, rfl, SetTo.zero _ _, Below.refl _ _⟩
  case round =>
    obtain ⟨k, hk, rfl, hj, hb⟩ := hrel
    by_cases hlt : k < xs.length
    · obtain ⟨b, o, x, rfl, hx, g⟩ := (h.below hb).at_ hlt
      have hl : (0 : Int) ≤ k := by omega
      have hl' : (k : Int) < xs.length := by omega
      by_cases c1 : 0 ≤ x ∧ x ≤ n - 1
      · have hin := inB_true c1.1 c1.2
        cases k with
        | zero =>
          have g0 : wr.cell? ⟨b, o, none⟩ = some (.int .i64 x) := by simpa using g
          have hl0 : 0 < xs.length := by omega
          have HJ := Lib.hid hj
          have HX := Lib.hid hx
          clear hj hx
          go_wp2_with (go_at_call 78; go_must (refine (within_c _ _ _ _).mono ?_); rintro e w2 ⟨rfl, hb2⟩)
          go_roundw
          case rel => exact ⟨1, by omega, rfl, HJ.out.snoc HX.out c1 (fun _ h => absurd h (Nat.lt_irrefl 0)), btrans hb hb2⟩
          case measure => simp [intOf]; omega
        | succ j =>
          obtain ⟨b', o', y, e, hy, g'⟩ := (h.below hb).at_ (show j < xs.length by omega)
          simp only [Option.some.injEq, Addr.mk.injEq, and_true] at e
          obtain ⟨rfl, rfl⟩ := e
          have HJ := Lib.hid hj
          have HX := Lib.hid hx
          have HY := Lib.hid hy
          clear hj hx hy h
          have hl3 : (j : Int) < xs.length := by omega
          by_cases c3 : y < x
          · have d : decide (x ≤ y) = false := decide_eq_false (by omega)
            go_wp2_with (go_at_call 78; go_must (refine (within_c _ _ _ _).mono ?_); rintro e w2 ⟨rfl, hb2⟩; have q := bcell hb2 g')
            go_roundw
            case rel => exact ⟨j + 1 + 1, by omega, by go_num, HJ.out.snoc HX.out c1 (fun z _ hz => by rw [Nat.add_sub_cancel, HY.out] at hz; obtain rfl := Option.some.inj hz; exact c3), btrans hb hb2⟩
            case measure => simp [intOf]; omega
          · have d : decide (x ≤ y) = true := decide_eq_true (by omega)
            go_wp2_with (go_at_call 78; go_must (refine (within_c _ _ _ _).mono ?_); rintro e w2 ⟨rfl, hb2⟩; have q := bcell hb2 g')
            go_returns
            exact ⟨ret_bool (isSetB_false fun H => by have := H.step HX.out (Nat.succ_pos j) HY.out; omega).symm, btrans hb hb2⟩
      · have hin := inB_false c1
        have HJ := Lib.hid hj
        have HX := Lib.hid hx
        clear hj hx
        go_wp2_with (go_at_call 78; go_must (refine (within_c _ _ _ _).mono ?_); rintro e w2 ⟨rfl, hb2⟩)
        go_returns
        exact ⟨ret_bool (isSetB_false fun H => c1 (H.range HX.out)).symm, btrans hb hb2⟩
    · obtain rfl : k = xs.length := by omega
      go_wp2
      go_returns
      exact ⟨ret_bool (isSetB_true hj).symm, hb⟩
set_option maxHeartbeats 2000000 in
theorem l05Set_c (A : Option Addr) (c : Nat) (xs : List Int) (n : Int) (w : World) (h : SeeInts w A xs) (hn : xs.length ≤ 2097152) (h1 : 0 ≤ n) (h2 : n ≤ 1000000) :
    Calls Try.prog 66 #[.slice A xs.length c, .int .i64 n] w fun e w' => e = .returned (.bool (isSetB xs n)) ∧ Below w.heap.size w w' := by
  go_enter Try.func66, Try.ntmps66
  go_wp2
  go_loopw [5] (fun i wr => ∃ k : Nat, k ≤ xs.length ∧ i = .int .i64 k ∧ SetTo xs n k ∧ Below w.heap.size w wr) (fun i _ => xs.length - (intOf i).toNat)
  case atStart => exact ⟨0, Nat.zero_le _, rfl, SetTo.zero _ _, Below.refl _ _⟩
  case round =>
    obtain ⟨k, hk, rfl, hj, hb⟩ := hrel
    by_cases hlt : k < xs.length
    · obtain ⟨b, o, x, rfl, hx, g⟩ := (h.below hb).at_ hlt
      have hl : (0 : Int) ≤ k := by omega
      have hl' : (k : Int) < xs.length := by omega
      have gx := bwcell g
      by_cases c1 : 0 ≤ x ∧ x ≤ n - 1
      · have hin := inB_true c1.1 c1.2
        cases k with
        | zero =>
          have g0 : ∀ y : BW wr, y.1.cell? ⟨b, o, none⟩ = some (.int .i64 x) := by simpa using gx
          have hl0 : 0 < xs.length := by omega
          have HJ := Lib.hid hj
          have HX := Lib.hid hx
          clear hj hx
          go_wp2
          refine wp_region_bw (by kernel_rfl) (by kernel_rfl) ?_
          repeat go_big_quiet_step (((go_at_call 77; exact Calls.bw _ (l01In_c _ _ _ _))))
          refine wpQuiet_nil ?_
          rintro _ ⟨⟨w2, hb2⟩, rfl⟩
          go_wp2
          go_roundw
          case rel => exact ⟨1, by omega, rfl, HJ.out.snoc HX.out c1 (fun _ h => absurd h (Nat.lt_irrefl 0)), btrans hb hb2⟩
          case measure => simp [intOf]; omega
        | succ j =>
          obtain ⟨b', o', y, e, hy, g'⟩ := (h.below hb).at_ (show j < xs.length by omega)
          simp only [Option.some.injEq, Addr.mk.injEq, and_true] at e
          obtain ⟨rfl, rfl⟩ := e
          have gy := bwcell g'
          have HJ := Lib.hid hj
          have HX := Lib.hid hx
          have HY := Lib.hid hy
          clear hj hx hy h
          have hl3 : (j : Int) < xs.length := by omega
          have hl4 : decide ((0 : Int) < (j : Int) + 1) = true := decide_eq_true (by omega)
          by_cases c3 : y < x
          · have d : decide (x ≤ y) = false := decide_eq_false (by omega)
            go_wp2
            refine wp_region_bw (by kernel_rfl) (by kernel_rfl) ?_
            repeat go_big_quiet_step (((go_at_call 77; exact Calls.bw _ (l01In_c _ _ _ _))))
            refine wpQuiet_nil ?_
            rintro _ ⟨⟨w2, hb2⟩, rfl⟩
            go_wp2
            go_roundw
            case rel => exact ⟨j + 1 + 1, by omega, by go_num, HJ.out.snoc HX.out c1 (fun z _ hz => by rw [Nat.add_sub_cancel, HY.out] at hz; obtain rfl := Option.some.inj hz; exact c3), btrans hb hb2⟩
            case measure => simp [intOf]; omega
          · have d : decide (x ≤ y) = true := decide_eq_true (by omega)
            go_wp2
            refine wp_region_bw (by kernel_rfl) (by kernel_rfl) ?_
            repeat go_big_quiet_step (((go_at_call 77; exact Calls.bw _ (l01In_c _ _ _ _))))
            refine wpQuiet_nil ?_
            rintro _ ⟨⟨w2, hb2⟩, rfl⟩
            go_wp2
            go_returns
            exact ⟨ret_bool (isSetB_false fun H => by have := H.step HX.out (Nat.succ_pos j) HY.out; omega).symm, btrans hb hb2⟩
      · have hin := inB_false c1
        have HJ := Lib.hid hj
        have HX := Lib.hid hx
        clear hj hx
        go_wp2
        refine wp_region_bw (by kernel_rfl) (by kernel_rfl) ?_
        repeat go_big_quiet_step (((go_at_call 77; exact Calls.bw _ (l01In_c _ _ _ _))))
        refine wpQuiet_nil ?_
        rintro _ ⟨⟨w2, hb2⟩, rfl⟩
        go_wp2
        go_returns
        exact ⟨ret_bool (isSetB_false fun H => c1 (H.range HX.out)).symm, btrans hb hb2⟩
    · obtain rfl : k = xs.length := by omega
      go_wp2
      go_returns
      exact ⟨ret_bool (isSetB_true hj).symm, hb⟩
/-- a list of 1 to 6 maps of as many points -/
def sameB (ms : List Mp) : Bool := decide (lcode ms [] = 0)
theorem sameB_len {ms : List Mp} (h : ¬ (1 ≤ ms.length ∧ ms.length ≤ 6)) : sameB ms = false := by
  unfold sameB lcode
  rw [if_neg h]
  split <;> simp
theorem sameB_el {ms : List Mp} {k : Nat} {m m0 : Mp} (hk : ms[k]? = some m) (h0 : ms[0]? = some m0) (h : ¬ (IsMp m ∧ m.p = m0.p)) : sameB ms = false := by
  have hm := List.mem_of_getElem? hk
  have hd : ms.headD Mp.z = m0 := by
    cases ms with
    | nil => simp at h0
    | cons x xs => simp at h0; simp [h0]
  unfold sameB lcode
  rw [List.append_nil]
  by_cases h1 : ∀ m ∈ ms, IsMp m
  · rw [if_pos h1]
    split
    · rw [if_neg (fun H => h ⟨h1 m hm, by rw [H m hm, hd]⟩)]; simp
    · simp
  · rw [if_neg h1]; simp
theorem sameB_ok {ms : List Mp} {m0 : Mp} (h0 : ms[0]? = some m0) (hl : ms.length ≤ 6) (h : ∀ m ∈ ms, IsMp m ∧ m.p = m0.p) : sameB ms = true := by
  have hd : ms.headD Mp.z = m0 := by
    cases ms with
    | nil => simp at h0
    | cons x xs => simp at h0; simp [h0]
  have hl0 := (List.getElem?_eq_some_iff.1 h0).1
  unfold sameB
  rw [lcode_ok (by simpa using fun m hm => (h m hm).1) ⟨by omega, hl⟩ (by rw [List.append_nil, hd]; exact fun m hm => (h m hm).2)]
  rfl
set_option maxHeartbeats 2000000 in
theorem l01Same_c (A : Option Addr) (c : Nat) (ms : List Mp) (w : World) (h : SeeMaps w A ms) (hn : ms.length ≤ 2097152) :
    Calls Try.prog 105 #[.slice A ms.length c] w fun e w' => e = .returned (.bool (sameB ms)) ∧ Below w.heap.size w w' := by
  by_cases hlen : 1 ≤ ms.length ∧ ms.length ≤ 6
  · have d1 : decide ((ms.length : Int) < 1) = false := decide_eq_false (by omega)
    have d2 : decide ((6 : Int) < ms.length) = false := decide_eq_false (by omega)
    obtain ⟨b, o, m0, rfl, h0, g0⟩ := h.at_ (show 0 < ms.length by omega)
    have H0 := Lib.hid h0
    clear h0
    go_enter Try.func105, Try.ntmps105
    go_wp2
    go_loopw [3] (fun i wr => ∃ k : Nat, k ≤ ms.length ∧ i = .int .i64 k ∧ AllTo (fun m => IsMp m ∧ m.p = m0.p) ms k ∧ Below w.heap.size w wr) (fun i _ => ms.length - (intOf i).toNat)
    case atStart => exact ⟨0, Nat.zero_le _, rfl, AllTo.zero _ _, Below.refl _ _⟩
    case round =>
      obtain ⟨k, hk, rfl, hj, hb⟩ := hrel
      by_cases hlt : k < ms.length
      · obtain ⟨b', o', m, e, hm, g⟩ := (h.below hb).at_ hlt
        simp only [Option.some.injEq, Addr.mk.injEq, and_true] at e
        obtain ⟨rfl, rfl⟩ := e
        obtain ⟨q0, q1, q2, q3, q4, q5⟩ := g.bw
        have p0 : ∀ x : BW wr, x.1.cell? ⟨b, o, none⟩ = some (.int .i64 m0.p) := by simpa using bwcell (g0.below hb).h0
        have HJ := Lib.hid hj
        have HM := Lib.hid hm
        clear hj hm h g g0
        have hl : (0 : Int) ≤ k := by omega
        have hl' : (k : Int) < ms.length := by omega
        have hl0 : 0 < ms.length := by omega
        cases he : isMpB m
        · go_wp2
          refine wp_region_bw (by kernel_rfl) (by kernel_rfl) ?_
          repeat go_big_quiet_step (((go_at_call 104; exact Calls.bw _ (l01Is_c _ _))))
          refine wpQuiet_nil ?_
          rintro _ ⟨⟨w2, hb2⟩, rfl⟩
          go_wp2
          go_returns
          exact ⟨ret_bool (sameB_el HM.out H0.out (fun H => by rw [isMpB_true H.1] at he; cases he)).symm, btrans hb hb2⟩
        · by_cases hp : m.p = m0.p
          · have d : (m.p != m0.p) = false := by simpa using hp
            have HP := Lib.hid hp
            clear hp
            go_wp2
            refine wp_region_bw (by kernel_rfl) (by kernel_rfl) ?_
            repeat go_big_quiet_step (((go_at_call 104; exact Calls.bw _ (l01Is_c _ _))))
            refine wpQuiet_nil ?_
            rintro _ ⟨⟨w2, hb2⟩, rfl⟩
            go_wp2
            go_roundw
            case rel => exact ⟨k + 1, by omega, by go_num, HJ.out.snoc HM.out ⟨by simpa [isMpB] using he, HP.out⟩, btrans hb hb2⟩
            case measure => simp [intOf]; omega
          · have d : (m.p != m0.p) = true := by simpa using hp
            go_wp2
            refine wp_region_bw (by kernel_rfl) (by kernel_rfl) ?_
            repeat go_big_quiet_step (((go_at_call 104; exact Calls.bw _ (l01Is_c _ _))))
            refine wpQuiet_nil ?_
            rintro _ ⟨⟨w2, hb2⟩, rfl⟩
            go_wp2
            go_returns
            exact ⟨ret_bool (sameB_el HM.out H0.out (fun H => hp H.2)).symm, btrans hb hb2⟩
      · obtain rfl : k = ms.length := by omega
        go_wp2
        go_returns
        exact ⟨ret_bool (sameB_ok H0.out hlen.2 hj.all).symm, hb⟩
  · by_cases h1 : ms.length < 1
    · have d1 : decide ((ms.length : Int) < 1) = true := decide_eq_true (by omega)
      go_enter Try.func105, Try.ntmps105
      go_wp2
      go_returns
      exact ⟨ret_bool (sameB_len hlen).symm, Below.refl _ _⟩
    · have d1 : decide ((ms.length : Int) < 1) = false := decide_eq_false (by omega)
      have d2 : decide ((6 : Int) < ms.length) = true := decide_eq_true (by omega)
      go_enter Try.func105, Try.ntmps105
      go_wp2
      go_returns
      exact ⟨ret_bool (sameB_len hlen).symm, Below.refl _ _⟩
/-! 'l02Given' tells the code of a list of maps, with others beside. -/
theorem lcode_bad_l {ms ms' : List Mp} {k : Nat} {m : Mp} (hk : ms[k]? = some m) (h : ¬ IsMp m) : lcode ms ms' = 1 := lcode_bad fun H => h (H m (List.mem_append_left _ (List.mem_of_getElem? hk)))
theorem lcode_bad_r {ms ms' : List Mp} {k : Nat} {m : Mp} (hk : ms'[k]? = some m) (h : ¬ IsMp m) : lcode ms ms' = 1 := lcode_bad fun H => h (H m (List.mem_append_right _ (List.mem_of_getElem? hk)))
theorem all_app {ms ms' : List Mp} (h : ∀ m ∈ ms, IsMp m) (h' : ∀ m ∈ ms', IsMp m) : ∀ m ∈ ms ++ ms', IsMp m := fun m hm => (List.mem_append.1 hm).elim (h m) (h' m)
theorem sameB_points {ms : List Mp} (h : sameB ms = true) : ∀ m ∈ ms, m.p = (ms.headD Mp.z).p := by
  have h' : lcode ms [] = 0 := by simpa [sameB] using h
  unfold lcode at h'
  rw [List.append_nil] at h'
  split at h'
  · split at h'
    · split at h'
      · rename_i h3; exact h3
      · cases h'
    · cases h'
  · cases h'
theorem sameB_len' {ms : List Mp} (h : sameB ms = true) : 1 ≤ ms.length ∧ ms.length ≤ 6 := Classical.byContradiction fun hn => by rw [sameB_len hn] at h; cases h
theorem lcode_same_bad {ms ms' : List Mp} (h : ∀ m ∈ ms ++ ms', IsMp m) (hs : sameB ms = false) : lcode ms ms' = 2 := by
  by_cases hl : 1 ≤ ms.length ∧ ms.length ≤ 6
  · refine lcode_pts h hl fun H => ?_
    have : sameB ms = true := by
      unfold sameB
      rw [lcode_ok (by simpa using fun m hm => h m (List.mem_append_left _ hm)) hl (by simpa using fun m hm => H m (List.mem_append_left _ hm))]
      rfl
    rw [hs] at this
    cases this
  · exact lcode_len h hl
set_option maxHeartbeats 4000000 in
theorem l02Given_c (A A' : Option Addr) (c c' : Nat) (ms ms' : List Mp) (w : World) (hn : ms.length ≤ 2097152) (hn' : ms'.length ≤ 2097152) (h : SeeMaps w A ms) (h' : SeeMaps w A' ms') :
    Calls Try.prog 72 #[.slice A ms.length c, .slice A' ms'.length c'] w fun e w' => e = .returned (.int .i64 (lcode ms ms')) ∧ Below w.heap.size w w' := by
  go_enter Try.func72, Try.ntmps72
  go_wp2
  go_loopw [5] (fun i wr => ∃ k : Nat, k ≤ ms.length ∧ i = .int .i64 k ∧ AllTo IsMp ms k ∧ Below w.heap.size w wr) (fun i _ => ms.length - (intOf i).toNat)
  case atStart => exact ⟨0, Nat.zero_le _, rfl, AllTo.zero _ _, Below.refl _ _⟩
  case round =>
    obtain ⟨k, hk, rfl, hj, hb⟩ := hrel
    by_cases hlt : k < ms.length
    · obtain ⟨b, o, m, rfl, hm, g⟩ := (h.below hb).at_ hlt
      obtain ⟨g0, g1, g2, g3, g4, g5⟩ := g
      have HJ := Lib.hid hj
      have HM := Lib.hid hm
      have hl : (0 : Int) ≤ k := by omega
      have hl' : (k : Int) < ms.length := by omega
      clear hj hm h h'
      cases he : isMpB m
      · go_wp2_with (go_at_call 104; go_must (refine (valB (l01Is_c m _) he).mono ?_); rintro e w2 ⟨rfl, hb2⟩)
        go_returns
        exact ⟨ret_int (lcode_bad_l HM.out (by simpa [isMpB] using he)).symm, btrans hb hb2⟩
      · go_wp2_with (go_at_call 104; go_must (refine (valB (l01Is_c m _) he).mono ?_); rintro e w2 ⟨rfl, hb2⟩)
        go_roundw
        case rel => exact ⟨k + 1, by omega, by go_num, HJ.out.snoc HM.out (by simpa [isMpB] using he), btrans hb hb2⟩
        case measure => simp [intOf]; omega
    · obtain rfl : k = ms.length := by omega
      have H1 := Lib.hid hj.all
      clear hj
      go_wp2
      go_loopw [6] (fun i wr => ∃ k : Nat, k ≤ ms'.length ∧ i = .int .i64 k ∧ AllTo IsMp ms' k ∧ Below w.heap.size w wr) (fun i _ => ms'.length - (intOf i).toNat)
      case atStart => exact ⟨0, Nat.zero_le _, rfl, AllTo.zero _ _, hb⟩
      case round =>
        clear hb
        obtain ⟨k, hk, rfl, hj, hb⟩ := hrel
        by_cases hlt : k < ms'.length
        · obtain ⟨b, o, m, rfl, hm, g⟩ := (h'.below hb).at_ hlt
          obtain ⟨g0, g1, g2, g3, g4, g5⟩ := g
          have HJ := Lib.hid hj
          have HM := Lib.hid hm
          have hl : (0 : Int) ≤ k := by omega
          have hl' : (k : Int) < ms'.length := by omega
          clear hj hm h h'
          cases he : isMpB m
          · go_wp2_with (go_at_call 104; go_must (refine (valB (l01Is_c m _) he).mono ?_); rintro e w2 ⟨rfl, hb2⟩)
            go_returns
            exact ⟨ret_int (lcode_bad_r HM.out (by simpa [isMpB] using he)).symm, btrans hb hb2⟩
          · go_wp2_with (go_at_call 104; go_must (refine (valB (l01Is_c m _) he).mono ?_); rintro e w2 ⟨rfl, hb2⟩)
            go_roundw
            case rel => exact ⟨k + 1, by omega, by go_num, HJ.out.snoc HM.out (by simpa [isMpB] using he), btrans hb hb2⟩
            case measure => simp [intOf]; omega
        · obtain rfl : k = ms'.length := by omega
          have H2 := Lib.hid hj.all
          clear hj
          cases hs : sameB ms
          · go_wp2_with (go_at_call 105; go_must (refine (valB (l01Same_c _ _ ms _ (h.below hb) hn) hs).mono ?_); rintro e w2 ⟨rfl, hb2⟩)
            go_returns
            exact ⟨ret_int (lcode_same_bad (all_app H1.out H2.out) hs).symm, btrans hb hb2⟩
          · have hlen := sameB_len' hs
            obtain ⟨b0, o0, m0, rfl, hm0, g0⟩ := h.at_ (show 0 < ms.length by omega)
            have hd : ms.headD Mp.z = m0 := by
              cases ms with
              | nil => simp at hm0
              | cons x xs => simp at hm0; simp [hm0]
            have HD := Lib.hid hd
            have HL := Lib.hid hlen
            have hl0 : 0 < ms.length := by omega
            have p0 : w.cell? ⟨b0, o0, none⟩ = some (.int .i64 m0.p) := by simpa using g0.h0
            clear hd hm0 g0 hlen
            go_wp2_with (go_at_call 105; go_must (refine (valB (l01Same_c _ _ ms _ (h.below hb) hn) hs).mono ?_); rintro e w2 ⟨rfl, hb2⟩)
            replace hb2 := btrans hb hb2
            clear hb h
            go_loopw [7] (fun i wr => ∃ k : Nat, k ≤ ms'.length ∧ i = .int .i64 k ∧ AllTo (fun m => m.p = m0.p) ms' k ∧ Below w.heap.size w wr) (fun i _ => ms'.length - (intOf i).toNat)
            case atStart => exact ⟨0, Nat.zero_le _, rfl, AllTo.zero _ _, hb2⟩
            case round =>
              clear hb2
              obtain ⟨k, hk, rfl, hj, hb⟩ := hrel
              by_cases hlt : k < ms'.length
              · obtain ⟨b, o, m, rfl, hm, g⟩ := (h'.below hb).at_ hlt
                have g0 := bwcell g.h0
                have q0 := bwcell (bcell hb p0)
                have HJ := Lib.hid hj
                have HM := Lib.hid hm
                have hl : (0 : Int) ≤ k := by omega
                have hl' : (k : Int) < ms'.length := by omega
                clear hj hm g h' p0
                by_cases he : m.p = m0.p
                · have d : (m.p != m0.p) = false := by simpa using he
                  have HE := Lib.hid he
                  clear he
                  go_wp2
                  refine wp_region_bw (by kernel_rfl) (by kernel_rfl) ?_
                  repeat go_big_quiet_step (fail)
                  refine wpQuiet_nil ?_
                  rintro _ ⟨⟨w2, hb2⟩, rfl⟩
                  go_wp2
                  go_roundw
                  case rel => exact ⟨k + 1, by omega, by go_num, HJ.out.snoc HM.out HE.out, btrans hb hb2⟩
                  case measure => simp [intOf]; omega
                · have d : (m.p != m0.p) = true := by simpa using he
                  go_wp2
                  refine wp_region_bw (by kernel_rfl) (by kernel_rfl) ?_
                  repeat go_big_quiet_step (fail)
                  refine wpQuiet_nil ?_
                  rintro _ ⟨⟨w2, hb2⟩, rfl⟩
                  go_wp2
                  go_returns
                  refine ⟨ret_int (lcode_pts (all_app H1.out H2.out) HL.out fun H => he ?_).symm, btrans hb hb2⟩
                  rw [H m (List.mem_append_right _ (List.mem_of_getElem? HM.out)), HD.out]
              · obtain rfl : k = ms'.length := by omega
                go_wp2
                go_returns
                refine ⟨ret_int (lcode_ok (all_app H1.out H2.out) HL.out fun m hm => ?_).symm, hb⟩
                rcases List.mem_append.1 hm with hm | hm
                · exact sameB_points hs m hm
                · rw [HD.out]; exact hj.all m hm
end Go.Proofs.Ythadgdmooacccaa
