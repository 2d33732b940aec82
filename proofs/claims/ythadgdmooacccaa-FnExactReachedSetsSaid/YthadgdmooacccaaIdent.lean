/- 'l01Identity'. No condition. -/
import Derived.Test.YthadgdmooacccaaMul
namespace Go.Proofs.Ythadgdmooacccaa
set_option linter.unusedSimpArgs false
set_option linter.unusedVariables false
set_option linter.unusedSectionVars false
open Go.RowKit
set_option maxHeartbeats 1000000 in
theorem l01Identity_c (n : Int) (w : World) (h1 : 1 ≤ n) (h2 : n ≤ 5) : Calls Try.prog 98 #[.int .i64 n] w fun e w' => e = .returned (.agg #[.int .i64 (idM n).p, .int .i64 (idM n).a, .int .i64 (idM n).b, .int .i64 (idM n).c, .int .i64 (idM n).d, .int .i64 (idM n).e]) ∧ Below w.heap.size w w' := by
  go_enter Try.func98, Try.ntmps98
  go_wp2
  go_loopw [4] (fun i wr => ∃ k : Nat, (k : Int) ≤ n ∧ i = .int .i64 k ∧ MpBox wr w.heap.size Mp.z ∧ MpBox wr (w.heap.size + 1) (idTo n k) ∧ Below w.heap.size w wr) (fun i _ => n.toNat - (intOf i).toNat)
  case atStart => exact ⟨0, by omega, rfl, (MpBox.new Mp.z 61 rfl).keep _, MpBox.new (idTo n 0) 61 (by go_size), by go_grown⟩
  case round =>
    obtain ⟨k, hk, rfl, hz, hm, hb⟩ := hrel
    have hsz := hb.size
    by_cases hlt : (k : Int) < n
    · have hk5 : k < 5 := by omega
      have q := hm.at.to' hk5
      have f := hm.free
      have l0 : (0 : Int) ≤ k := by omega
      have l5 : (k : Int) < 5 := by omega
      go_wp2
      go_roundw
      case rel => exact ⟨k + 1, by omega, by go_num, hz.far (by simp <;> omega) _, by rw [← idTo_succ n hk5]; exact hm.set hk5 _, by go_grown⟩
      case measure => simp [intOf]; omega
    · obtain rfl : n = (k : Int) := by omega
      obtain ⟨q0, q1, q2, q3, q4, q5⟩ := hm.at.cells0
      obtain ⟨z0, z1, z2, z3, z4, z5⟩ := hz.at.cells0
      have f := hz.free
      go_wp2
      refine bodyPost_ret (v := .agg #[.int .i64 (idM k).p, .int .i64 (idM k).a, .int .i64 (idM k).b, .int .i64 (idM k).c, .int .i64 (idM k).d, .int .i64 (idM k).e]) (by simp [results, Try.results98, go_sem, z0, z1, z2, z3, z4, z5, idM]) rfl ⟨rfl, by go_grown⟩
/-- the product f g, made up to k in a new map -/
def newTo (f g : Mp) (k : Nat) : Mp := mkM f.p fun i => if i < k then g.at (f.to i) else 0
end Go.Proofs.Ythadgdmooacccaa
