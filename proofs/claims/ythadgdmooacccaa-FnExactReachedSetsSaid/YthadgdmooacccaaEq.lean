/- 'eqMap', 'eqMapS' and 'eqInt64S' compare what they are given; 'szMapS', 'szInt64S' count. No condition. -/
import Derived.Test.YthadgdmooacccaaToMap
namespace Go.Proofs.Ythadgdmooacccaa
set_option linter.unusedSimpArgs false
set_option linter.unusedVariables false
set_option linter.unusedSectionVars false
open Go.RowKit
def eqMp (m n : Mp) : Bool := decide (m = n)
theorem eqMp_true {m n : Mp} (h : m = n) : eqMp m n = true := by simp [eqMp, h]
theorem eqMp_false {m n : Mp} (h : ¬ m = n) : eqMp m n = false := by simp [eqMp, h]
theorem dec5_0 {a0 a1 a2 a3 a4 b0 b1 b2 b3 b4 : Int} (h : (a0 != b0) = true) : false = decide (a0 = b0 ∧ a1 = b1 ∧ a2 = b2 ∧ a3 = b3 ∧ a4 = b4) := by
  have := bne_iff_ne.1 h
  simp [this]
theorem dec5_1 {a0 a1 a2 a3 a4 b0 b1 b2 b3 b4 : Int} (h : (a1 != b1) = true) : false = decide (a0 = b0 ∧ a1 = b1 ∧ a2 = b2 ∧ a3 = b3 ∧ a4 = b4) := by
  have := bne_iff_ne.1 h
  simp [this]
theorem dec5_2 {a0 a1 a2 a3 a4 b0 b1 b2 b3 b4 : Int} (h : (a2 != b2) = true) : false = decide (a0 = b0 ∧ a1 = b1 ∧ a2 = b2 ∧ a3 = b3 ∧ a4 = b4) := by
  have := bne_iff_ne.1 h
  simp [this]
theorem dec5_3 {a0 a1 a2 a3 a4 b0 b1 b2 b3 b4 : Int} (h : (a3 != b3) = true) : false = decide (a0 = b0 ∧ a1 = b1 ∧ a2 = b2 ∧ a3 = b3 ∧ a4 = b4) := by
  have := bne_iff_ne.1 h
  simp [this]
theorem dec5_4 {a0 a1 a2 a3 a4 b0 b1 b2 b3 b4 : Int} (h : (a4 != b4) = true) : false = decide (a0 = b0 ∧ a1 = b1 ∧ a2 = b2 ∧ a3 = b3 ∧ a4 = b4) := by
  have := bne_iff_ne.1 h
  simp [this]
theorem dec5_5 {a0 a1 a2 a3 a4 b0 b1 b2 b3 b4 : Int} (h0 : (a0 != b0) = false) (h1 : (a1 != b1) = false) (h2 : (a2 != b2) = false) (h3 : (a3 != b3) = false) (h4 : (a4 != b4) = false) : true = decide (a0 = b0 ∧ a1 = b1 ∧ a2 = b2 ∧ a3 = b3 ∧ a4 = b4) := by
  simp at h0 h1 h2 h3 h4
  simp [h0, h1, h2, h3, h4]
set_option maxHeartbeats 4000000 in
theorem eqA5_c (a0 a1 a2 a3 a4 b0 b1 b2 b3 b4 : Int) (w : World) :
    Calls Try.prog 96 #[.agg #[.int .i64 a0, .int .i64 a1, .int .i64 a2, .int .i64 a3, .int .i64 a4], .agg #[.int .i64 b0, .int .i64 b1, .int .i64 b2, .int .i64 b3, .int .i64 b4]] w fun e w' => e = .returned (.bool (decide (a0 = b0 ∧ a1 = b1 ∧ a2 = b2 ∧ a3 = b3 ∧ a4 = b4))) ∧ Below w.heap.size w w' := by
  go_enter Try.func96, Try.ntmps96
  go_wp2
  refine wp_loop_rounds 6 ?_
  repeat (any_goals (first | (rw [rounds_succ]; go_wp2) | (go_quiet (fail); go_wp2)))
  all_goals
    go_returns
    refine ⟨ret_bool ?_, (by repeat' (first | (with_reducible exact Below.refl _ _) | (with_reducible assumption) | (with_reducible refine bdrewN ?_ _) | (with_reducible refine Below.alloc ?_ ?_ _) | (with_reducible refine Below.drew ?_) | (with_reducible refine Below.setCell ?_ ?_ _) | go_size))⟩
    first
    | exact dec5_0 ‹(a0 != b0) = true›
    | exact dec5_1 ‹(a1 != b1) = true›
    | exact dec5_2 ‹(a2 != b2) = true›
    | exact dec5_3 ‹(a3 != b3) = true›
    | exact dec5_4 ‹(a4 != b4) = true›
    | exact dec5_5 ‹(a0 != b0) = false› ‹(a1 != b1) = false› ‹(a2 != b2) = false› ‹(a3 != b3) = false› ‹(a4 != b4) = false›
def eq5 (m n : Mp) : Bool := decide (m.a = n.a ∧ m.b = n.b ∧ m.c = n.c ∧ m.d = n.d ∧ m.e = n.e)
theorem eqA5_m (m n : Mp) (w : World) :
    Calls Try.prog 96 #[.agg #[.int .i64 m.a, .int .i64 m.b, .int .i64 m.c, .int .i64 m.d, .int .i64 m.e], .agg #[.int .i64 n.a, .int .i64 n.b, .int .i64 n.c, .int .i64 n.d, .int .i64 n.e]] w fun e w' => e = .returned (.bool (eq5 m n)) ∧ Below w.heap.size w w' := eqA5_c _ _ _ _ _ _ _ _ _ _ w
theorem eqMp_of {m n : Mp} (h : m.p = n.p) : eqMp m n = eq5 m n := by
  obtain ⟨p, a, b, c, d, e⟩ := m
  obtain ⟨p', a', b', c', d', e'⟩ := n
  simp only at h
  subst h
  simp [eqMp, eq5]
set_option maxHeartbeats 1000000 in
theorem eqMap_c (m n : Mp) (w : World) : Calls Try.prog 61 #[.agg #[.int .i64 m.p, .int .i64 m.a, .int .i64 m.b, .int .i64 m.c, .int .i64 m.d, .int .i64 m.e], .agg #[.int .i64 n.p, .int .i64 n.a, .int .i64 n.b, .int .i64 n.c, .int .i64 n.d, .int .i64 n.e]] w fun e w' => e = .returned (.bool (eqMp m n)) ∧ Below w.heap.size w w' := by
  by_cases h : m.p = n.p
  · have d : (m.p != n.p) = false := by simpa using h
    have H := Lib.hid h
    clear h
    cases h5 : eq5 m n
    all_goals
      go_enter Try.func61, Try.ntmps61
      go_wp2_with (go_at_call 96; refine (eqA5_m m n _).mono ?_; rintro e w2 ⟨rfl, hb2⟩)
      go_returns
      exact ⟨ret_bool ((eqMp_of H.out).trans h5).symm, btrans (w1 := _) (by repeat' (first | (with_reducible exact Below.refl _ _) | (with_reducible assumption) | (with_reducible refine bdrewN ?_ _) | (with_reducible refine Below.alloc ?_ ?_ _) | (with_reducible refine Below.drew ?_) | (with_reducible refine Below.setCell ?_ ?_ _) | go_size)) hb2⟩
  · have d : (m.p != n.p) = true := by simpa using h
    go_enter Try.func61, Try.ntmps61
    go_wp2
    go_returns
    exact ⟨ret_bool (eqMp_false (fun e => h (by rw [e]))).symm, (by repeat' (first | (with_reducible exact Below.refl _ _) | (with_reducible assumption) | (with_reducible refine bdrewN ?_ _) | (with_reducible refine Below.alloc ?_ ?_ _) | (with_reducible refine Below.drew ?_) | (with_reducible refine Below.setCell ?_ ?_ _) | go_size))⟩
set_option maxHeartbeats 1000000 in
theorem eqMapS_c (A A' : Option Addr) (c c' : Nat) (ms ms' : List Mp) (w : World) (hn : ms.length ≤ 2097152) (h : SeeMaps w A ms) (h' : SeeMaps w A' ms') :
    Calls Try.prog 21 #[.slice A ms.length c, .slice A' ms'.length c'] w fun e w' => e = .returned (.bool (decide (ms = ms'))) ∧ Below w.heap.size w w' := by
  by_cases hlen : ms.length = ms'.length
  · rw [← hlen]
    have HL := Lib.hid hlen
    clear hlen
    go_enter Try.func21, Try.ntmps21
    go_wp2
    go_loopw [5] (fun i wr => ∃ k : Nat, k ≤ ms.length ∧ i = .int .i64 k ∧ Upto ms ms' k ∧ Below w.heap.size w wr) (fun i _ => ms.length - (intOf i).toNat)
    case atStart => exact ⟨0, Nat.zero_le _, rfl, Upto.zero _ _, Below.refl _ _⟩
    case round =>
      obtain ⟨k, hk, rfl, hj, hb⟩ := hrel
      by_cases hlt : k < ms.length
      · obtain ⟨b, o, m, rfl, hm, g⟩ := (h.below hb).at_ hlt
        obtain ⟨b', o', m', rfl, hm', g'⟩ := (h'.below hb).at_ (by rw [← HL.out]; exact hlt)
        obtain ⟨g0, g1, g2, g3, g4, g5⟩ := g.bw
        obtain ⟨q0, q1, q2, q3, q4, q5⟩ := g'.bw
        have HJ := Lib.hid hj
        have HM := Lib.hid hm
        have HM' := Lib.hid hm'
        clear hj hm hm' h h'
        have hl : (0 : Int) ≤ k := by omega
        have hl' : (k : Int) < ms.length := by omega
        cases he : eqMp m m'
        · go_wp2
          refine wp_region_bw (by kernel_rfl) (by kernel_rfl) ?_
          repeat go_big_quiet_step (((go_at_call 61; exact Calls.bw _ (eqMap_c _ _ _))))
          refine wpQuiet_nil ?_
          rintro _ ⟨⟨w2, hb2⟩, rfl⟩
          go_wp2
          go_returns
          refine ⟨ret_bool (decide_eq_false fun e => ?_).symm, btrans hb hb2⟩
          have := HM.out.symm.trans ((congrArg (fun l => l[k]?) e).trans HM'.out)
          rw [eqMp_true (Option.some.inj this)] at he
          cases he
        · go_wp2
          refine wp_region_bw (by kernel_rfl) (by kernel_rfl) ?_
          repeat go_big_quiet_step (((go_at_call 61; exact Calls.bw _ (eqMap_c _ _ _))))
          refine wpQuiet_nil ?_
          rintro _ ⟨⟨w2, hb2⟩, rfl⟩
          go_wp2
          go_roundw
          case rel =>
            have e : m = m' := by simpa [eqMp] using he
            exact ⟨k + 1, by omega, by go_num, HJ.out.snoc (by rw [HM.out, HM'.out, e]), btrans hb hb2⟩
          case measure => simp [intOf]; omega
      · obtain rfl : k = ms.length := by omega
        go_wp2
        go_returns
        exact ⟨ret_bool (decide_eq_true (hj.all HL.out)).symm, hb⟩
  · have d : ((ms.length : Int) != (ms'.length : Int)) = true := by rw [bne_iff_ne]; omega
    go_enter Try.func21, Try.ntmps21
    go_wp2
    go_returns
    exact ⟨ret_bool (decide_eq_false fun e => hlen (by rw [e])).symm, Below.refl _ _⟩
set_option maxHeartbeats 1000000 in
theorem eqInt64S_c (A A' : Option Addr) (c c' : Nat) (ms ms' : List Int) (w : World) (hn : ms.length ≤ 2097152) (h : SeeInts w A ms) (h' : SeeInts w A' ms') :
    Calls Try.prog 20 #[.slice A ms.length c, .slice A' ms'.length c'] w fun e w' => e = .returned (.bool (decide (ms = ms'))) ∧ Below w.heap.size w w' := by
  by_cases hlen : ms.length = ms'.length
  · rw [← hlen]
    have HL := Lib.hid hlen
    clear hlen
    go_enter Try.func20, Try.ntmps20
    go_wp2
    go_loopw [5] (fun i wr => ∃ k : Nat, k ≤ ms.length ∧ i = .int .i64 k ∧ Upto ms ms' k ∧ Below w.heap.size w wr) (fun i _ => ms.length - (intOf i).toNat)
    case atStart => exact ⟨0, Nat.zero_le _, rfl, Upto.zero _ _, Below.refl _ _⟩
    case round =>
      obtain ⟨k, hk, rfl, hj, hb⟩ := hrel
      by_cases hlt : k < ms.length
      · obtain ⟨b, o, m, rfl, hm, g⟩ := (h.below hb).at_ hlt
        obtain ⟨b', o', m', rfl, hm', g'⟩ := (h'.below hb).at_ (by rw [← HL.out]; exact hlt)
        have g0 := bwcell g
        have q0 := bwcell g'
        have HJ := Lib.hid hj
        have HM := Lib.hid hm
        have HM' := Lib.hid hm'
        clear hj hm hm' h h' g g'
        have hl : (0 : Int) ≤ k := by omega
        have hl' : (k : Int) < ms.length := by omega
        by_cases he : m = m'
        · have d : (m != m') = false := by simpa using he
          have HE := Lib.hid he
          clear he
          go_wp2
          refine wp_region_bw (by kernel_rfl) (by kernel_rfl) ?_
          repeat go_big_quiet_step (fail)
          refine wpQuiet_nil ?_
          rintro _ ⟨⟨w2, hb2⟩, rfl⟩
          go_wp2
          go_roundw
          case rel => exact ⟨k + 1, by omega, by go_num, HJ.out.snoc (by rw [HM.out, HM'.out, HE.out]), btrans hb hb2⟩
          case measure => simp [intOf]; omega
        · have d : (m != m') = true := by simpa using he
          go_wp2
          refine wp_region_bw (by kernel_rfl) (by kernel_rfl) ?_
          repeat go_big_quiet_step (fail)
          refine wpQuiet_nil ?_
          rintro _ ⟨⟨w2, hb2⟩, rfl⟩
          go_wp2
          go_returns
          refine ⟨ret_bool (decide_eq_false fun e => he ?_).symm, btrans hb hb2⟩
          exact Option.some.inj (HM.out.symm.trans ((congrArg (fun l => l[k]?) e).trans HM'.out))
      · obtain rfl : k = ms.length := by omega
        go_wp2
        go_returns
        exact ⟨ret_bool (decide_eq_true (hj.all HL.out)).symm, hb⟩
  · have d : ((ms.length : Int) != (ms'.length : Int)) = true := by rw [bne_iff_ne]; omega
    go_enter Try.func20, Try.ntmps20
    go_wp2
    go_returns
    exact ⟨ret_bool (decide_eq_false fun e => hlen (by rw [e])).symm, Below.refl _ _⟩
/-- what is left of a number of places -/
def szL (n : Nat) (left : Int) : Int := if left - n < 0 then -1 else left - n
theorem szMapS_c (A : Option Addr) (n c : Nat) (left : Int) (w : World) (hn : n ≤ 9223372036854775807) (hl : left ≤ 1048576) (hl0 : -1 ≤ left) :
    Calls Try.prog 15 #[.slice A n c, .int .i64 left] w fun e w' => e = .returned (.int .i64 (szL n left)) ∧ Below w.heap.size w w' := by
  by_cases h : left - n < 0
  all_goals
    go_enter Try.func15, Try.ntmps15
    go_wp2
    go_returns
    exact ⟨ret_int (by unfold szL; split <;> omega), Below.refl _ _⟩
end Go.Proofs.Ythadgdmooacccaa
