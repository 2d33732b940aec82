/- Helpers of the great laws: 'likeInts', 'hasInt'. No condition. -/
import Derived.Test.YtjepmbjneccagaaGreatEq
namespace Go.Proofs.YtjepmbjneccagaaGreat
set_option linter.unusedSimpArgs false
set_option linter.unusedVariables false
set_option linter.unusedSectionVars false
open Go.RowKit
set_option maxHeartbeats 1000000 in
theorem likeInts_c (A A' : Option Addr) (c c' : Nat) (ms ms' : List Int) (w : World) (hn : ms.length ≤ 2097152) (h : SeeInts w A ms) (h' : SeeInts w A' ms') :
    Calls Tryz.prog 24 #[.slice A ms.length c, .slice A' ms'.length c'] w fun e w' => e = .returned (.bool (decide (ms = ms'))) ∧ Below w.heap.size w w' := by
  by_cases hlen : ms.length = ms'.length
  · rw [← hlen]
    have HL := Lib.hid hlen
    clear hlen
    go_enter Tryz.func24, Tryz.ntmps24
    go_wp2
    go_loopw [5] (fun i wr => ∃ k : Nat, k ≤ ms.length ∧ i = .int .i64 k ∧ Upto ms ms' k ∧ Below w.heap.size w wr) (fun i _ => ms.length - (intOf i).toNat)
    case atStart => exact ⟨0, Nat.zero_le _, rfl, Upto.zero _ _, Below.refl _ _⟩
    case round =>
      obtain ⟨k, hk, rfl, hj, hb⟩ := hrel
      by_cases hlt : k < ms.length
      · obtain ⟨b, o, m, rfl, hm, g⟩ := (h.below hb).at_ hlt
        obtain ⟨b', o', m', rfl, hm', g'⟩ := (h'.below hb).at_ (by rw [← HL.out]; exact hlt)
        have g0 := bwcell g
        have q0 := bwcell g'
        have HJ := Lib.hid hj
        have HM := Lib.hid hm
        have HM' := Lib.hid hm'
        clear hj hm hm' h h' g g'
        have hl : (0 : Int) ≤ k := by omega
        have hl' : (k : Int) < ms.length := by omega
        by_cases he : m = m'
        · have d : (m != m') = false := by simpa using he
          have HE := Lib.hid he
          clear he
          go_wp2
          refine wp_region_bw (by kernel_rfl) (by kernel_rfl) ?_
          repeat go_big_quiet_step (fail)
          refine wpQuiet_nil ?_
          rintro _ ⟨⟨w2, hb2⟩, rfl⟩
          go_wp2
          go_roundw
          case rel => exact ⟨k + 1, by omega, by go_num, HJ.out.snoc (by rw [HM.out, HM'.out, HE.out]), btrans hb hb2⟩
          case measure => simp [intOf]; omega
        · have d : (m != m') = true := by simpa using he
          go_wp2
          refine wp_region_bw (by kernel_rfl) (by kernel_rfl) ?_
          repeat go_big_quiet_step (fail)
          refine wpQuiet_nil ?_
          rintro _ ⟨⟨w2, hb2⟩, rfl⟩
          go_wp2
          go_returns
          refine ⟨ret_bool (decide_eq_false fun e => he ?_).symm, btrans hb hb2⟩
          exact Option.some.inj (HM.out.symm.trans ((congrArg (fun l => l[k]?) e).trans HM'.out))
      · obtain rfl : k = ms.length := by omega
        go_wp2
        go_returns
        exact ⟨ret_bool (decide_eq_true (hj.all HL.out)).symm, hb⟩
  · have d : ((ms.length : Int) != (ms'.length : Int)) = true := by rw [bne_iff_ne]; omega
    go_enter Tryz.func24, Tryz.ntmps24
    go_wp2
    go_returns
    exact ⟨ret_bool (decide_eq_false fun e => hlen (by rw [e])).symm, Below.refl _ _⟩
/-! Helpers of the great laws: 'maps5'. -/
set_option maxHeartbeats 1000000 in
theorem neq_map (f g : Mp) (w : World) : (binOp .neq 53 (.agg #[.int .i64 f.p, .int .i64 f.a, .int .i64 f.b, .int .i64 f.c, .int .i64 f.d, .int .i64 f.e]) (.agg #[.int .i64 g.p, .int .i64 g.a, .int .i64 g.b, .int .i64 g.c, .int .i64 g.d, .int .i64 g.e])).run Tryz.prog w = .ok (.bool (!decide (f = g))) w := by
  have e : decide (f = g) = (f.p == g.p && (f.a == g.a && (f.b == g.b && (f.c == g.c && (f.d == g.d && f.e == g.e))))) := by
    rw [Bool.eq_iff_iff]
    simp only [decide_eq_true_eq, Bool.and_eq_true, beq_iff_eq]
    constructor
    · rintro rfl; exact ⟨rfl, rfl, rfl, rfl, rfl, rfl⟩
    · obtain ⟨p, a, b, c, d, e⟩ := f
      obtain ⟨p', a', b', c', d', e'⟩ := g
      rintro ⟨h0, h1, h2, h3, h4, h5⟩
      simp only at h0 h1 h2 h3 h4 h5
      subst h0 h1 h2 h3 h4 h5
      rfl
  rw [e]
  obtain ⟨i0, hi, _, _, _⟩ := info_parts info_int
  have hc : Tryz.prog.cellsOf 2 = 1 := by kernel_rfl
  have ha := fun (xs ys : Array Value) (w : World) => run_equalIn_array (P := Tryz.prog) (w := w) 9998 (t := 51) (e := 2) (n := 5) xs ys Tryz.underlying51 hi
  have hr : List.range 5 = [0, 1, 2, 3, 4] := rfl
  simp only [hc, hr, Op.eqItems] at ha
  simp [go_sem, ha]
  clear ha e
  repeat' split
  all_goals simp_all
/-! 'big' of the laws. -/
theorem big_c (A : Option Addr) (n c : Nat) (w : World) (hn : n ≤ 9223372036854775807) :
    Calls Tryz.prog 20 #[.slice A n c] w fun e w' => e = .returned (.bool (decide (4096 < n))) ∧ Below w.heap.size w w' := by
  by_cases h : 4096 < n
  · have d : (4096 : Int) < n := by omega
    have HR := Lib.hid (decide_eq_true h)
    go_enter Tryz.func20, Tryz.ntmps20
    go_wp2
    go_returns
    first | exact ⟨rfl, Below.refl _ _⟩ | exact ⟨ret_bool HR.out.symm, Below.refl _ _⟩
  · have d : ¬ (4096 : Int) < n := by omega
    have HR := Lib.hid (decide_eq_false h)
    go_enter Tryz.func20, Tryz.ntmps20
    go_wp2
    go_returns
    first | exact ⟨rfl, Below.refl _ _⟩ | exact ⟨ret_bool HR.out.symm, Below.refl _ _⟩
end Go.Proofs.YtjepmbjneccagaaGreat
