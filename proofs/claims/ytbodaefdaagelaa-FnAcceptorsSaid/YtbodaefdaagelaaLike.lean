/- Helpers of the great laws: 'likeInts', 'hasInt'. No condition. -/
import Derived.Test.YtbodaefdaagelaaEq
namespace Go.Proofs.Ytbodaefdaagelaa
set_option linter.unusedSimpArgs false
set_option linter.unusedVariables false
set_option linter.unusedSectionVars false
open Go.RowKit
set_option maxHeartbeats 1000000 in
theorem likeInts_c (A A' : Option Addr) (c c' : Nat) (ms ms' : List Int) (w : World) (hn : ms.length ≤ 2097152) (h : SeeInts w A ms) (h' : SeeInts w A' ms') :
    Calls Try.prog 49 #[.slice A ms.length c, .slice A' ms'.length c'] w fun e w' => e = .returned (.bool (decide (ms = ms'))) ∧ Below w.heap.size w w' := by
  by_cases hlen : ms.length = ms'.length
  · rw [← hlen]
    have HL := Lib.hid hlen
    clear hlen
    go_enter Try.func49, Try.ntmps49
    go_wp2
    go_loopw [5] (fun i wr => ∃ k : Nat, k ≤ ms.length ∧ i = .int .i64 k ∧ Upto ms ms' k ∧ Below w.heap.size w wr) (fun i _ => ms.length - (intOf i).toNat)
    case atStart => exact ⟨0, Nat.zero_le _, rfl, Upto.zero _ _, Below.refl _ _⟩
    case round =>
      obtain ⟨k, hk, rfl, hj, hb⟩ := hrel
      by_cases hlt : k < ms.length
      · obtain ⟨b, o, m, rfl, hm, g⟩ := (h.below hb).at_ hlt
        obtain ⟨b', o', m', rfl, hm', g'⟩ := (h'.below hb).at_ (by rw [← HL.out]; exact hlt)
        have g0 := bwcell g
        have q0 := bwcell g'
        have HJ := Lib.hid hj
        have HM := Lib.hid hm
        have HM' := Lib.hid hm'
        clear hj hm hm' h h' g g'
        have hl : (0 : Int) ≤ k := by omega
        have hl' : (k : Int) < ms.length := by omega
        by_cases he : m = m'
        · have d : (m != m') = false := by simpa using he
          have HE := Lib.hid he
          clear he
          go_wp2
          refine wp_region_bw (by kernel_rfl) (by kernel_rfl) ?_
          repeat go_big_quiet_step (fail)
          refine wpQuiet_nil ?_
          rintro _ ⟨⟨w2, hb2⟩, rfl⟩
          go_wp2
          go_roundw
          case rel => exact ⟨k + 1, by omega, by go_num, HJ.out.snoc (by rw [HM.out, HM'.out, HE.out]), btrans hb hb2⟩
          case measure => simp [intOf]; omega
        · have d : (m != m') = true := by simpa using he
          go_wp2
          refine wp_region_bw (by kernel_rfl) (by kernel_rfl) ?_
          repeat go_big_quiet_step (fail)
          refine wpQuiet_nil ?_
          rintro _ ⟨⟨w2, hb2⟩, rfl⟩
          go_wp2
          go_returns
          refine ⟨ret_bool (decide_eq_false fun e => he ?_).symm, btrans hb hb2⟩
          exact Option.some.inj (HM.out.symm.trans ((congrArg (fun l => l[k]?) e).trans HM'.out))
      · obtain rfl : k = ms.length := by omega
        go_wp2
        go_returns
        exact ⟨ret_bool (decide_eq_true (hj.all HL.out)).symm, hb⟩
  · have d : ((ms.length : Int) != (ms'.length : Int)) = true := by rw [bne_iff_ne]; omega
    go_enter Try.func49, Try.ntmps49
    go_wp2
    go_returns
    exact ⟨ret_bool (decide_eq_false fun e => hlen (by rw [e])).symm, Below.refl _ _⟩
set_option maxHeartbeats 1000000 in
theorem hasInt_c (A : Option Addr) (c : Nat) (xs : List Int) (x : Int) (w : World) (hn : xs.length ≤ 2097152) (h : SeeInts w A xs) :
    Calls Try.prog 52 #[.slice A xs.length c, .int .i64 x] w fun e w' => e = .returned (.bool (decide (x ∈ xs))) ∧ Below w.heap.size w w' := by
  obtain ⟨r, hr⟩ : ∃ r, r = decide (x ∈ xs) := ⟨_, rfl⟩
  rw [← hr]
  have HR := Lib.hid hr
  clear hr
  go_enter Try.func52, Try.ntmps52
  go_wp2
  go_loopw [5] (fun i wr => ∃ k : Nat, k ≤ xs.length ∧ i = .int .i64 k ∧ Hid (∀ j y, j < k → xs[j]? = some y → y ≠ x) ∧ Below w.heap.size w wr) (fun i _ => xs.length - (intOf i).toNat)
  case atStart => exact ⟨0, Nat.zero_le _, rfl, Lib.hid (fun j y hj => absurd hj (by omega)), Below.refl _ _⟩
  case round =>
    obtain ⟨k, hk, rfl, hj, hb⟩ := hrel
    have hl : (0 : Int) ≤ k := by omega
    by_cases hlt : k < xs.length
    · have hl' : (k : Int) < xs.length := by omega
      obtain ⟨b, o, m, rfl, hm, g⟩ := (h.below hb).at_ hlt
      have HM := Lib.hid hm
      clear hm h
      by_cases he : m = x
      · have HT := Lib.hid (show r = true by rw [HR.out]; exact decide_eq_true (he ▸ List.mem_of_getElem? HM.out))
        have d : (m == x) = true := by simpa using he
        clear he
        go_wp2
        go_returns
        exact ⟨ret_bool HT.out.symm, hb⟩
      · have HN := Lib.hid (show ∀ j y, j < k + 1 → xs[j]? = some y → y ≠ x from fun j y hj' hy => by
          by_cases e : j = k
          · subst e; rw [HM.out] at hy; cases hy; exact he
          · exact hj.out j y (by omega) hy)
        have d : (m == x) = false := by simpa using he
        clear he
        go_wp2
        go_roundw
        case rel => exact ⟨k + 1, by omega, by go_num, HN, hb⟩
        case measure => simp [intOf]; omega
    · obtain rfl : k = xs.length := by omega
      have HF := Lib.hid (show r = false by
        rw [HR.out]
        exact decide_eq_false fun hx => by
          obtain ⟨j, hjl, e⟩ := List.getElem_of_mem hx
          exact hj.out j x hjl (by rw [List.getElem?_eq_getElem hjl, e]) rfl)
      go_wp2
      go_returns
      exact ⟨ret_bool HF.out.symm, hb⟩
/-! Helpers of the great laws: 'maps5'. -/
set_option maxHeartbeats 1000000 in
theorem neq_map (f g : Mp) (w : World) : (binOp .neq 67 (.agg #[.int .i64 f.p, .int .i64 f.a, .int .i64 f.b, .int .i64 f.c, .int .i64 f.d, .int .i64 f.e]) (.agg #[.int .i64 g.p, .int .i64 g.a, .int .i64 g.b, .int .i64 g.c, .int .i64 g.d, .int .i64 g.e])).run Try.prog w = .ok (.bool (!decide (f = g))) w := by
  have e : decide (f = g) = (f.p == g.p && (f.a == g.a && (f.b == g.b && (f.c == g.c && (f.d == g.d && f.e == g.e))))) := by
    rw [Bool.eq_iff_iff]
    simp only [decide_eq_true_eq, Bool.and_eq_true, beq_iff_eq]
    constructor
    · rintro rfl; exact ⟨rfl, rfl, rfl, rfl, rfl, rfl⟩
    · obtain ⟨p, a, b, c, d, e⟩ := f
      obtain ⟨p', a', b', c', d', e'⟩ := g
      rintro ⟨h0, h1, h2, h3, h4, h5⟩
      simp only at h0 h1 h2 h3 h4 h5
      subst h0 h1 h2 h3 h4 h5
      rfl
  rw [e]
  obtain ⟨i0, hi, _, _, _⟩ := info_parts info_int
  have hc : Try.prog.cellsOf 2 = 1 := by kernel_rfl
  have ha := fun (xs ys : Array Value) (w : World) => run_equalIn_array (P := Try.prog) (w := w) 9998 (t := 65) (e := 2) (n := 5) xs ys Try.underlying65 hi
  have hr : List.range 5 = [0, 1, 2, 3, 4] := rfl
  simp only [hc, hr, Op.eqItems] at ha
  simp [go_sem, ha]
  clear ha e
  repeat' split
  all_goals simp_all
set_option maxHeartbeats 1000000 in
theorem maps5_c (A A' : Option Addr) (c c' : Nat) (ms ms' : List Mp) (w : World) (hn : ms.length ≤ 2097152) (h : SeeMaps w A ms) (h' : SeeMaps w A' ms') :
    Calls Try.prog 95 #[.slice A ms.length c, .slice A' ms'.length c'] w fun e w' => e = .returned (.bool (decide (ms = ms'))) ∧ Below w.heap.size w w' := by
  by_cases hlen : ms.length = ms'.length
  · rw [← hlen]
    have HL := Lib.hid hlen
    clear hlen
    go_enter Try.func95, Try.ntmps95
    go_wp2
    go_loopw [5] (fun i wr => ∃ k : Nat, k ≤ ms.length ∧ i = .int .i64 k ∧ Upto ms ms' k ∧ Below w.heap.size w wr) (fun i _ => ms.length - (intOf i).toNat)
    case atStart => exact ⟨0, Nat.zero_le _, rfl, Upto.zero _ _, Below.refl _ _⟩
    case round =>
      obtain ⟨k, hk, rfl, hj, hb⟩ := hrel
      by_cases hlt : k < ms.length
      · obtain ⟨b, o, m, rfl, hm, g⟩ := (h.below hb).at_ hlt
        obtain ⟨b', o', m', rfl, hm', g'⟩ := (h'.below hb).at_ (by rw [← HL.out]; exact hlt)
        obtain ⟨g0, g1, g2, g3, g4, g5⟩ := g.bw
        obtain ⟨q0, q1, q2, q3, q4, q5⟩ := g'.bw
        have HJ := Lib.hid hj
        have HM := Lib.hid hm
        have HM' := Lib.hid hm'
        clear hj hm hm' h h'
        have hl : (0 : Int) ≤ k := by omega
        have hl' : (k : Int) < ms.length := by omega
        by_cases he : m = m'
        · have d := neq_map m m'
          simp only [decide_eq_true he, Bool.not_true] at d
          have HE := Lib.hid he
          clear he
          go_wp2
          refine wp_region_bw (by kernel_rfl) (by kernel_rfl) ?_
          repeat go_big_quiet_step (fail)
          refine wpQuiet_nil ?_
          rintro _ ⟨⟨w2, hb2⟩, rfl⟩
          go_wp2
          go_roundw
          case rel => exact ⟨k + 1, by omega, by go_num, HJ.out.snoc (by rw [HM.out, HM'.out, HE.out]), btrans hb hb2⟩
          case measure => simp [intOf]; omega
        · have d := neq_map m m'
          simp only [decide_eq_false he, Bool.not_false] at d
          go_wp2
          refine wp_region_bw (by kernel_rfl) (by kernel_rfl) ?_
          repeat go_big_quiet_step (fail)
          refine wpQuiet_nil ?_
          rintro _ ⟨⟨w2, hb2⟩, rfl⟩
          go_wp2
          go_returns
          refine ⟨ret_bool (decide_eq_false fun e => he ?_).symm, btrans hb hb2⟩
          exact Option.some.inj (HM.out.symm.trans ((congrArg (fun l => l[k]?) e).trans HM'.out))
      · obtain rfl : k = ms.length := by omega
        go_wp2
        go_returns
        exact ⟨ret_bool (decide_eq_true (hj.all HL.out)).symm, hb⟩
  · have d : ((ms.length : Int) != (ms'.length : Int)) = true := by rw [bne_iff_ne]; omega
    go_enter Try.func95, Try.ntmps95
    go_wp2
    go_returns
    exact ⟨ret_bool (decide_eq_false fun e => hlen (by rw [e])).symm, Below.refl _ _⟩
/-! 'big' of the laws. -/
theorem big_c (A : Option Addr) (n c : Nat) (w : World) (hn : n ≤ 9223372036854775807) :
    Calls Try.prog 46 #[.slice A n c] w fun e w' => e = .returned (.bool (decide (4096 < n))) ∧ Below w.heap.size w w' := by
  by_cases h : 4096 < n
  · have d : (4096 : Int) < n := by omega
    have HR := Lib.hid (decide_eq_true h)
    go_enter Try.func46, Try.ntmps46
    go_wp2
    go_returns
    first | exact ⟨rfl, Below.refl _ _⟩ | exact ⟨ret_bool HR.out.symm, Below.refl _ _⟩
  · have d : ¬ (4096 : Int) < n := by omega
    have HR := Lib.hid (decide_eq_false h)
    go_enter Try.func46, Try.ntmps46
    go_wp2
    go_returns
    first | exact ⟨rfl, Below.refl _ _⟩ | exact ⟨ret_bool HR.out.symm, Below.refl _ _⟩
end Go.Proofs.Ytbodaefdaagelaa
