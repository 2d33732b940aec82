/- 'l01In', 'within', 'l01Is' and 'IsMap' report whether a number is in a range, and whether a value is a map. No condition. -/
import Derived.Test.YthadgdmooacccaaBase
namespace Go.Proofs.Ythadgdmooacccaa
set_option linter.unusedSimpArgs false
set_option linter.unusedVariables false
set_option linter.unusedSectionVars false
open Go.RowKit
theorem ret_bool {a b : Bool} (h : a = b) : Ending.returned (.bool a) = .returned (.bool b) := by rw [h]
theorem ret_int {k : IntKind} {a b : Int} (h : a = b) : Ending.returned (.int k a) = .returned (.int k b) := by rw [h]
/-- a number is in a range -/
def inB (a b c : Int) : Bool := decide (b ≤ a ∧ a ≤ c)
theorem inB_true {a b c : Int} (h1 : b ≤ a) (h2 : a ≤ c) : inB a b c = true := by simp [inB, h1, h2]
theorem inB_false {a b c : Int} (h : ¬ (b ≤ a ∧ a ≤ c)) : inB a b c = false := by simp only [inB]; exact decide_eq_false h
theorem l01In_c (a b c : Int) (w : World) : Calls Try.prog 77 #[.int .i64 a, .int .i64 b, .int .i64 c] w fun e w' => e = .returned (.bool (inB a b c)) ∧ Below w.heap.size w w' := by
  by_cases h : b ≤ a <;> by_cases h' : a ≤ c
  all_goals
    go_enter Try.func77, Try.ntmps77
    go_wp2
    go_returns
    exact ⟨ret_bool (by simp [inB, h, h']), Below.refl _ _⟩
theorem within_c (a b c : Int) (w : World) : Calls Try.prog 78 #[.int .i64 a, .int .i64 b, .int .i64 c] w fun e w' => e = .returned (.bool (inB a b c)) ∧ Below w.heap.size w w' := by
  by_cases h : b ≤ a <;> by_cases h' : a ≤ c
  all_goals
    go_enter Try.func78, Try.ntmps78
    go_wp2
    go_returns
    exact ⟨ret_bool (by simp [inB, h, h']), Below.refl _ _⟩
def isMpB (m : Mp) : Bool := decide (IsMp m)
/-- points below k are well led -/
def PtOk (m : Mp) (k : Nat) : Prop := ∀ i : Nat, i < k → ((i : Int) < m.p → 0 ≤ m.to i ∧ m.to i ≤ m.p - 1) ∧ (m.p ≤ (i : Int) → m.to i = 0)
theorem PtOk.snoc {m : Mp} {k : Nat} (h : PtOk m k) (h1 : (k : Int) < m.p → 0 ≤ m.to k ∧ m.to k ≤ m.p - 1) (h2 : m.p ≤ (k : Int) → m.to k = 0) : PtOk m (k + 1) := fun i hi => by
  rcases Nat.lt_succ_iff_lt_or_eq.1 hi with hi | rfl
  · exact h i hi
  · exact ⟨h1, h2⟩
theorem isMpB_true {m : Mp} (h : IsMp m) : isMpB m = true := by simp [isMpB, h]
theorem isMpB_false {m : Mp} (h : ¬ IsMp m) : isMpB m = false := by simp [isMpB, h]
theorem PtOk.zero (m : Mp) : PtOk m 0 := fun i h => absurd h (Nat.not_lt_zero i)
set_option maxHeartbeats 1000000 in
theorem l01Is_c (m : Mp) (w : World) : Calls Try.prog 104 #[.agg #[.int .i64 m.p, .int .i64 m.a, .int .i64 m.b, .int .i64 m.c, .int .i64 m.d, .int .i64 m.e]] w fun e w' => e = .returned (.bool (isMpB m)) ∧ Below w.heap.size w w' := by
  by_cases h : 1 ≤ m.p ∧ m.p ≤ 5
  · have hin := inB_true h.1 h.2
    go_enter Try.func104, Try.ntmps104
    go_wp2_with (go_at_call 77; refine (l01In_c _ _ _ _).mono ?_; rintro e w' ⟨rfl, hb⟩)
    go_loopw [3] (fun i wr => ∃ k : Nat, k ≤ 5 ∧ i = .int .i64 k ∧ PtOk m k ∧ MpAt wr w.heap.size 0 m ∧ Below w.heap.size w wr) (fun i _ => 5 - (intOf i).toNat)
    case atStart => exact ⟨0, Nat.zero_le _, rfl, PtOk.zero m, (MpAt.boxed w m _).below (hb.mono (by simp)), btrans (by go_grown) hb⟩
    case round =>
      obtain ⟨k, hk, rfl, hj, hm, hb1⟩ := hrel
      by_cases hlt : k < 5
      · have q := bwcell hm.h0
        have g := bwcell (hm.to' hlt)
        have hl : (0 : Int) ≤ k := by omega
        have hl' : (k : Int) < 5 := by omega
        have HJ := Lib.hid hj
        clear hj
        by_cases c1 : (k : Int) < m.p
        · have d1 : decide (m.p ≤ (k : Int)) = false := decide_eq_false (by omega)
          have d0 : decide ((k : Int) < m.p) = true := decide_eq_true c1
          by_cases c2 : 0 ≤ m.to k ∧ m.to k ≤ m.p - 1
          · have hin2 := inB_true c2.1 c2.2
            go_wp2
            refine wp_region_bw (by kernel_rfl) (by kernel_rfl) ?_
            repeat go_big_quiet_step ((go_at_call 77; exact Calls.bw _ (l01In_c _ _ _ _)))
            refine wpQuiet_nil ?_
            rintro _ ⟨⟨w2, hb2⟩, rfl⟩
            go_wp2
            go_roundw
            case rel => exact ⟨k + 1, by omega, by go_num, HJ.out.snoc (fun _ => c2) (fun h => absurd h (by omega)), hm.below hb2, btrans hb1 hb2⟩
            case measure => simp [intOf]; omega
          · have hin2 := inB_false c2
            go_wp2
            refine wp_region_bw (by kernel_rfl) (by kernel_rfl) ?_
            repeat go_big_quiet_step ((go_at_call 77; exact Calls.bw _ (l01In_c _ _ _ _)))
            refine wpQuiet_nil ?_
            rintro _ ⟨⟨w2, hb2⟩, rfl⟩
            go_wp2
            go_returns
            exact ⟨ret_bool (isMpB_false fun H => c2 ((H.2.2 k hlt).1 c1)).symm, btrans hb1 hb2⟩
        · have d1 : decide (m.p ≤ (k : Int)) = true := decide_eq_true (by omega)
          have d0 : decide ((k : Int) < m.p) = false := decide_eq_false c1
          by_cases c2 : m.to k = 0
          · have d2 : (m.to k != 0) = false := by simpa using c2
            go_wp2
            refine wp_region_bw (by kernel_rfl) (by kernel_rfl) ?_
            repeat go_big_quiet_step ((go_at_call 77; exact Calls.bw _ (l01In_c _ _ _ _)))
            refine wpQuiet_nil ?_
            rintro _ ⟨⟨w2, hb2⟩, rfl⟩
            go_wp2
            go_roundw
            case rel => exact ⟨k + 1, by omega, by go_num, HJ.out.snoc (fun h => absurd h (by omega)) (fun _ => c2), hm.below hb2, btrans hb1 hb2⟩
            case measure => simp [intOf]; omega
          · have d2 : (m.to k != 0) = true := by simpa using c2
            go_wp2
            refine wp_region_bw (by kernel_rfl) (by kernel_rfl) ?_
            repeat go_big_quiet_step ((go_at_call 77; exact Calls.bw _ (l01In_c _ _ _ _)))
            refine wpQuiet_nil ?_
            rintro _ ⟨⟨w2, hb2⟩, rfl⟩
            go_wp2
            go_returns
            exact ⟨ret_bool (isMpB_false fun H => c2 ((H.2.2 k hlt).2 (by omega))).symm, btrans hb1 hb2⟩
      · go_wp2
        go_returns
        obtain rfl : k = 5 := by omega
        exact ⟨ret_bool (isMpB_true ⟨h.1, h.2, hj⟩).symm, hb1⟩
  · have hin := inB_false h
    go_enter Try.func104, Try.ntmps104
    go_wp2_with (go_at_call 77; refine (l01In_c _ _ _ _).mono ?_; rintro e w' ⟨rfl, hb⟩)
    go_returns
    exact ⟨ret_bool (isMpB_false fun H => h ⟨H.1, H.2.1⟩).symm, btrans (by go_grown) hb⟩
theorem index_arr (m : Mp) {k : Nat} (h : k < 5) (w : World) : (Instr.index 59 (.agg #[.int .i64 m.a, .int .i64 m.b, .int .i64 m.c, .int .i64 m.d, .int .i64 m.e]) (.int .i64 (k : Int))).run Try.prog w = .ok (.int .i64 (m.to k)) w := by
  rcases (by omega : k = 0 ∨ k = 1 ∨ k = 2 ∨ k = 3 ∨ k = 4) with rfl | rfl | rfl | rfl | rfl <;> kernel_rfl
set_option maxHeartbeats 1000000 in
theorem IsMap_c (m : Mp) (w : World) : Calls Try.prog 91 #[.agg #[.int .i64 m.p, .int .i64 m.a, .int .i64 m.b, .int .i64 m.c, .int .i64 m.d, .int .i64 m.e]] w fun e w' => e = .returned (.bool (isMpB m)) ∧ Below w.heap.size w w' := by
  by_cases h : 1 ≤ m.p ∧ m.p ≤ 5
  · have hin := inB_true h.1 h.2
    go_enter Try.func91, Try.ntmps91
    go_wp2_with (go_at_call 78; refine (within_c _ _ _ _).mono ?_; rintro e w' ⟨rfl, hb⟩; obtain ⟨q0, q1, q2, q3, q4, q5⟩ := ((MpAt.boxed w m _).below hb).cells0)
    clear q1 q2 q3 q4 q5
    go_loopw [11] (fun i wr => ∃ k : Nat, k ≤ 5 ∧ i = .int .i64 k ∧ PtOk m k ∧ MpAt wr w.heap.size 0 m ∧ Below w.heap.size w wr) (fun i _ => 5 - (intOf i).toNat)
    case atStart => exact ⟨0, Nat.zero_le _, rfl, PtOk.zero m, (MpAt.boxed w m _).below hb, btrans (by go_grown) hb⟩
    case round =>
      clear q0 hb
      obtain ⟨k, hk, rfl, hj, hm, hb1⟩ := hrel
      by_cases hlt : k < 5
      · have q := hm.h0
        have g := index_arr m hlt
        have hl : (0 : Int) ≤ k := by omega
        have hl' : (k : Int) < 5 := by omega
        have HJ := Lib.hid hj
        clear hj
        by_cases c1 : (k : Int) < m.p
        · by_cases c2 : 0 ≤ m.to k ∧ m.to k ≤ m.p - 1
          · have hin2 := inB_true c2.1 c2.2
            go_wp2_with (go_at_call 78; refine (within_c _ _ _ _).mono ?_; rintro e w2 ⟨rfl, hb2⟩; have q' := bcell hb2 q)
            go_roundw
            case rel => exact ⟨k + 1, by omega, by go_num, HJ.out.snoc (fun _ => c2) (fun h => absurd h (by omega)), hm.below hb2, btrans hb1 hb2⟩
            case measure => simp [intOf]; omega
          · have hin2 := inB_false c2
            go_wp2_with (go_at_call 78; refine (within_c _ _ _ _).mono ?_; rintro e w2 ⟨rfl, hb2⟩; have q' := bcell hb2 q)
            go_returns
            exact ⟨ret_bool (isMpB_false fun H => c2 ((H.2.2 k hlt).1 c1)).symm, btrans hb1 hb2⟩
        · by_cases c2 : m.to k = 0
          · have d2 : (m.to k != 0) = false := by simpa using c2
            have C2 := Lib.hid c2
            clear c2
            go_wp2
            go_roundw
            case rel => exact ⟨k + 1, by omega, by go_num, HJ.out.snoc (fun h => absurd h (by omega)) (fun _ => C2.out), hm, hb1⟩
            case measure => simp [intOf]; omega
          · have d2 : (m.to k != 0) = true := by simpa using c2
            go_wp2
            go_returns
            exact ⟨ret_bool (isMpB_false fun H => c2 ((H.2.2 k hlt).2 (by omega))).symm, hb1⟩
      · go_wp2
        go_returns
        obtain rfl : k = 5 := by omega
        exact ⟨ret_bool (isMpB_true ⟨h.1, h.2, hj⟩).symm, hb1⟩
  · have hin := inB_false h
    go_enter Try.func91, Try.ntmps91
    go_wp2_with (go_at_call 78; refine (within_c _ _ _ _).mono ?_; rintro e w' ⟨rfl, hb⟩)
    go_returns
    exact ⟨ret_bool (isMpB_false fun H => h ⟨H.1, H.2.1⟩).symm, btrans (by go_grown) hb⟩
end Go.Proofs.Ythadgdmooacccaa
