/- Helpers of the great laws: 'likeInts', 'hasInt'. No condition. -/
import Derived.Test.YtilfamenadaboaaGreatEq
namespace Go.Proofs.YtilfamenadaboaaGreat
set_option linter.unusedSimpArgs false
set_option linter.unusedVariables false
set_option linter.unusedSectionVars false
open Go.RowKit
/-! Helpers of the great laws: 'maps5'. -/
set_option maxHeartbeats 1000000 in
theorem neq_map (f g : Mp) (w : World) : (binOp .neq 27 (.agg #[.int .i64 f.p, .int .i64 f.a, .int .i64 f.b, .int .i64 f.c, .int .i64 f.d, .int .i64 f.e]) (.agg #[.int .i64 g.p, .int .i64 g.a, .int .i64 g.b, .int .i64 g.c, .int .i64 g.d, .int .i64 g.e])).run Tryz.prog w = .ok (.bool (!decide (f = g))) w := by
  have e : decide (f = g) = (f.p == g.p && (f.a == g.a && (f.b == g.b && (f.c == g.c && (f.d == g.d && f.e == g.e))))) := by
    rw [Bool.eq_iff_iff]
    simp only [decide_eq_true_eq, Bool.and_eq_true, beq_iff_eq]
    constructor
    · rintro rfl; exact ⟨rfl, rfl, rfl, rfl, rfl, rfl⟩
    · obtain ⟨p, a, b, c, d, e⟩ := f
      obtain ⟨p', a', b', c', d', e'⟩ := g
      rintro ⟨h0, h1, h2, h3, h4, h5⟩
      simp only at h0 h1 h2 h3 h4 h5
      subst h0 h1 h2 h3 h4 h5
      rfl
  rw [e]
  obtain ⟨i0, hi, _, _, _⟩ := info_parts info_int
  have hc : Tryz.prog.cellsOf 2 = 1 := by kernel_rfl
  have ha := fun (xs ys : Array Value) (w : World) => run_equalIn_array (P := Tryz.prog) (w := w) 9998 (t := 25) (e := 2) (n := 5) xs ys Tryz.underlying25 hi
  have hr : List.range 5 = [0, 1, 2, 3, 4] := rfl
  simp only [hc, hr, Op.eqItems] at ha
  simp [go_sem, ha]
  clear ha e
  repeat' split
  all_goals simp_all
/-! 'big' of the laws. -/
theorem big_c (A : Option Addr) (n c : Nat) (w : World) (hn : n ≤ 9223372036854775807) :
    Calls Tryz.prog 5 #[.slice A n c] w fun e w' => e = .returned (.bool (decide (4096 < n))) ∧ Below w.heap.size w w' := by
  by_cases h : 4096 < n
  · have d : (4096 : Int) < n := by omega
    have HR := Lib.hid (decide_eq_true h)
    go_enter Tryz.func5, Tryz.ntmps5
    go_wp2
    go_returns
    first | exact ⟨rfl, Below.refl _ _⟩ | exact ⟨ret_bool HR.out.symm, Below.refl _ _⟩
  · have d : ¬ (4096 : Int) < n := by omega
    have HR := Lib.hid (decide_eq_false h)
    go_enter Tryz.func5, Tryz.ntmps5
    go_wp2
    go_returns
    first | exact ⟨rfl, Below.refl _ _⟩ | exact ⟨ret_bool HR.out.symm, Below.refl _ _⟩
end Go.Proofs.YtilfamenadaboaaGreat
