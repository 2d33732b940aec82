/- 'Index', 'Contains' at lists of numbers. No condition. -/
import Derived.Test.YtbodaefdaagelaaFuncs
namespace Go.Proofs.Ytbodaefdaagelaa
set_option linter.unusedSimpArgs false
set_option linter.unusedVariables false
set_option linter.unusedSectionVars false
open Go.RowKit
set_option maxHeartbeats 1000000 in
theorem IndexI_c (A : Option Addr) (c : Nat) (xs : List Int) (v : Int) (w : World) (h : SeeInts w A xs) (hn : xs.length ≤ 2097152) :
    Calls Try.prog 119 #[.slice A xs.length c, .int .i64 v] w fun e w' => e = .returned (.int .i64 (fidx (fun x => decide (v = x)) xs)) ∧ Below w.heap.size w w' := by
  go_enter Try.func119, Try.ntmps119
  go_wp2
  go_loopw [8] (fun i wr => ∃ k : Nat, k ≤ xs.length ∧ i = .int .i64 k ∧ AllTo (fun x => decide (v = x) = false) xs k ∧ Below w.heap.size w wr) (fun i _ => xs.length - (intOf i).toNat)
  case atStart => exact ⟨0, Nat.zero_le _, rfl, AllTo.zero _ _, Below.refl _ _⟩
  case round =>
    obtain ⟨k, hk, rfl, hj, hb⟩ := hrel
    by_cases hlt : k < xs.length
    · obtain ⟨b, o, x, rfl, hx, q⟩ := (h.below hb).at_ hlt
      have hl : (0 : Int) ≤ k := by omega
      have hl' : (k : Int) < xs.length := by omega
      have HJ := Lib.hid hj
      have HX := Lib.hid hx
      clear hj hx h
      by_cases e : v = x
      · have d : (v == x) = true := by simpa using e
        have HE := Lib.hid (show decide (v = x) = true by simpa using e)
        clear e
        go_wp2
        go_returns
        exact ⟨ret_int (fidx_hit HX.out HE.out HJ.out).symm, hb⟩
      · have d : (v == x) = false := by simpa using e
        have HE := Lib.hid (show decide (v = x) = false by simpa using e)
        go_wp2
        go_roundw
        case rel => exact ⟨k + 1, by omega, by go_num, HJ.out.snoc HX.out HE.out, hb⟩
        case measure => simp [intOf]; omega
    · obtain rfl : k = xs.length := by omega
      go_wp2
      go_returns
      exact ⟨ret_int (fidx_miss hj).symm, hb⟩
set_option maxHeartbeats 1000000 in
theorem ContainsI_c (A : Option Addr) (c : Nat) (xs : List Int) (v : Int) (w : World) (h : SeeInts w A xs) (hn : xs.length ≤ 2097152) :
    Calls Try.prog 83 #[.slice A xs.length c, .int .i64 v] w fun e w' => e = .returned (.bool (decide (v ∈ xs))) ∧ Below w.heap.size w w' := by
  have e0 : decide (v ∈ xs) = xs.any (fun x => decide (v = x)) := by
    rw [← List.contains_eq_mem, List.contains_eq_any_beq]
    rfl
  rw [e0, ← fidx_any]
  clear e0
  go_enter Try.func83, Try.ntmps83
  go_wp2_with (go_at_call 119; go_must (refine (IndexI_c A c xs v _ h hn).mono ?_); rintro e w2 ⟨rfl, hb2⟩)
  go_returns
  exact ⟨rfl, hb2⟩
end Go.Proofs.Ytbodaefdaagelaa
