/- 'number': a map's images as digits. No condition. -/
import Derived.Test.YtilfamenadaboaaGreatMonP
import Derived.Test.YtilfamenadaboaaGreatMul
namespace Go.Proofs.YtilfamenadaboaaGreat
set_option linter.unusedSimpArgs false
set_option linter.unusedVariables false
set_option linter.unusedSectionVars false
open Go.RowKit
/-- the first k digits -/
def numTo (f : Mp) : Nat → Int
  | 0 => 0
  | k + 1 => numTo f k * 5 + f.to k
theorem numTo_five (f : Mp) : numTo f 5 = f.num := by
  unfold Mp.num
  simp [numTo, Mp.to]
theorem numTo_lt {f : Mp} {n : Int} (h : MpN f n) {k : Nat} (hk : k ≤ 5) : 0 ≤ numTo f k ∧ numTo f k < 3125 ∧ (k < 5 → numTo f k < 625) := by
  have h0 := h.to_lt 0
  have h1 := h.to_lt 1
  have h2 := h.to_lt 2
  have h3 := h.to_lt 3
  have h4 := h.to_lt 4
  rcases (by omega : k = 0 ∨ k = 1 ∨ k = 2 ∨ k = 3 ∨ k = 4 ∨ k = 5) with rfl | rfl | rfl | rfl | rfl | rfl <;> simp only [numTo] <;> omega
set_option maxHeartbeats 1000000 in
theorem number_c (f : Mp) (n : Int) (w : World) (hf : MpN f n) : Calls Tryz.prog 111 #[.agg #[.int .i64 f.p, .int .i64 f.a, .int .i64 f.b, .int .i64 f.c, .int .i64 f.d, .int .i64 f.e]] w fun e w' => e = .returned (.int .i64 f.num) ∧ Below w.heap.size w w' := by
  have hb1 := (MpBox.new f 27 (w := w) rfl).at
  obtain ⟨q0, q1, q2, q3, q4, q5⟩ := hb1.cells0
  have hfin := numTo_five f
  have HF := Lib.hid hfin
  have HN := Lib.hid hf
  clear hfin hb1
  go_enter Tryz.func111, Tryz.ntmps111
  go_wp2
  go_loopw [3, 8] (fun s i wr => ∃ k : Nat, k ≤ 5 ∧ i = .int .i64 k ∧ s = .int .i64 (numTo f k) ∧ Below w.heap.size w wr) (fun _ i _ => 5 - (intOf i).toNat)
  case atStart => exact ⟨0, by omega, rfl, rfl, by go_grown⟩
  case round =>
    obtain ⟨k, hk, rfl, rfl, hb⟩ := hrel
    by_cases hlt : k < 5
    · have hl := (numTo_lt HN.out (k := k) (by omega))
      have hl2 := (HN.out.to_lt k)
      have m1 : wrap64 (numTo f k * 5) = numTo f k * 5 := by unfold wrap64; omega
      have m2 : IntKind.i64.wrap (numTo f k * 5) = numTo f k * 5 := by rw [IntKind.wrap_i64]; omega
      have m3 : wrap64 (numTo f k * 5 + f.to k) = numTo f (k + 1) := by show _ = numTo f k * 5 + f.to k; unfold wrap64; omega
      have m4 : IntKind.i64.wrap (numTo f k * 5 + f.to k) = numTo f (k + 1) := by show _ = numTo f k * 5 + f.to k; rw [IntKind.wrap_i64]; omega
      have l5 : (k : Int) < 5 := by omega
      have g := index_arr f hlt
      clear hl hl2
      go_wp2
      go_roundw
      case rel => exact ⟨k + 1, by omega, by go_num, rfl, hb⟩
      case measure => simp [intOf]; omega
    · obtain rfl : k = 5 := by omega
      go_wp2
      go_returns
      exact ⟨ret_int HF.out, hb⟩
end Go.Proofs.YtilfamenadaboaaGreat
