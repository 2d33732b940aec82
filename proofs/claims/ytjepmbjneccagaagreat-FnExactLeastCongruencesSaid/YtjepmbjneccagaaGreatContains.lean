/- 'Index', 'Contains' at lists of numbers. No condition. -/
import Derived.Test.YtjepmbjneccagaaGreatFuncs
namespace Go.Proofs.YtjepmbjneccagaaGreat
set_option linter.unusedSimpArgs false
set_option linter.unusedVariables false
set_option linter.unusedSectionVars false
open Go.RowKit
set_option maxHeartbeats 1000000 in
theorem IndexI_c (A : Option Addr) (c : Nat) (xs : List Int) (v : Int) (w : World) (h : SeeInts w A xs) (hn : xs.length ≤ 2097152) :
    Calls Tryz.prog 81 #[.slice A xs.length c, .int .i64 v] w fun e w' => e = .returned (.int .i64 (fidx (fun x => decide (v = x)) xs)) ∧ Below w.heap.size w w' := by
  go_enter Tryz.func81, Tryz.ntmps81
  go_wp2
  go_loopw [8] (fun i wr => ∃ k : Nat, k ≤ xs.length ∧ i = .int .i64 k ∧ AllTo (fun x => decide (v = x) = false) xs k ∧ Below w.heap.size w wr) (fun i _ => xs.length - (intOf i).toNat)
  case atStart => exact ⟨0, Nat.zero_le _, rfl, AllTo.zero _ _, Below.refl _ _⟩
  case round =>
    obtain ⟨k, hk, rfl, hj, hb⟩ := hrel
    by_cases hlt : k < xs.length
    · obtain ⟨b, o, x, rfl, hx, q⟩ := (h.below hb).at_ hlt
      have hl : (0 : Int) ≤ k := by omega
      have hl' : (k : Int) < xs.length := by omega
      have HJ := Lib.hid hj
      have HX := Lib.hid hx
      clear hj hx h
      by_cases e : v = x
      · have d : (v == x) = true := by simpa using e
        have HE := Lib.hid (show decide (v = x) = true by simpa using e)
        clear e
        go_wp2
        go_returns
        exact ⟨ret_int (fidx_hit HX.out HE.out HJ.out).symm, hb⟩
      · have d : (v == x) = false := by simpa using e
        have HE := Lib.hid (show decide (v = x) = false by simpa using e)
        go_wp2
        go_roundw
        case rel => exact ⟨k + 1, by omega, by go_num, HJ.out.snoc HX.out HE.out, hb⟩
        case measure => simp [intOf]; omega
    · obtain rfl : k = xs.length := by omega
      go_wp2
      go_returns
      exact ⟨ret_int (fidx_miss hj).symm, hb⟩
end Go.Proofs.YtjepmbjneccagaaGreat
