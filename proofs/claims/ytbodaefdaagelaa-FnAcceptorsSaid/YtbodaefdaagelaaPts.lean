/- Points as lists and as digits. No condition. -/
import Derived.Test.YtbodaefdaagelaaLast
import Derived.Test.YtbodaefdaagelaaAccCopy
namespace Go.Proofs.Ytbodaefdaagelaa
set_option linter.unusedSimpArgs false
set_option linter.unusedVariables false
set_option linter.unusedSectionVars false
open Go.RowKit
def ptsN (n : Nat) : List Int := (List.range n).map fun (i : Nat) => (i : Int)
theorem ptsN_succ (k : Nat) : ptsN (k + 1) = ptsN k ++ [(k : Int)] := by unfold ptsN; rw [List.range_succ, List.map_append]; rfl
theorem ptsN_length (k : Nat) : (ptsN k).length = k := by simp [ptsN]
set_option maxHeartbeats 1000000 in
theorem points_c (n : Int) (w : World) (h0 : 0 ≤ n) (h5 : n ≤ 5) :
    Calls Try.prog 88 #[.int .i64 n] w fun e w' => ∃ v, e = .returned v ∧ OwnInts w' w.heap.size v (ptsN n.toNat) ∧ Below w.heap.size w w' := by
  go_enter Try.func88, Try.ntmps88
  go_wp2
  go_loopw [6, 3] (fun i out wr => ∃ k : Nat, (k : Int) ≤ n ∧ i = .int .i64 k ∧ OwnInts wr w.heap.size out (ptsN k) ∧ Below w.heap.size w wr) (fun i _ _ => 5 - (intOf i).toNat)
  case atStart => exact ⟨0, h0, rfl, OwnInts.nil _ _, Below.refl _ _⟩
  case round =>
    obtain ⟨k, hk, rfl, hown, hb⟩ := hrel
    have hz := hb.size
    by_cases hlt : (k : Int) < n
    · have hl := ptsN_length k
      have HS := Lib.hid (ptsN_succ k)
      generalize ptsN k = xs at *
      go_wp2_with (at_builtin; refine wpList_push_int _ rfl (.tmp 9) (.tmp 11) rfl w.heap.size _ _ rfl (hown.below (by go_grown)) ⟨wr.heap.size, 0, none⟩ (k : Int) rfl (by simp [go_sem]) (by omega) (by go_size) ?_; intro v' w3 hown' hgrow hv')
      go_roundw
      case rel => exact ⟨k + 1, by omega, by go_num, by rw [HS.out]; exact hown', Below.grown (w := wr.alloc (.cells #[.int .i64 (k : Int)] 2)) (by go_grown) hgrow (by simp; omega) (fun j hj => (hown.lt j hj).1)⟩
      case measure => simp [intOf]; omega
    · have e : k = n.toNat := by omega
      subst e
      go_wp2
      go_returns
      exact ⟨_, rfl, hown, hb⟩
def ptsOf (S : Nat) : List Int := ((List.range 5).filter S.testBit).map fun (i : Nat) => (i : Int)
def ptsTo (S k : Nat) : List Int := ((List.range k).filter S.testBit).map fun (i : Nat) => (i : Int)
theorem ptsTo_succ (S k : Nat) : ptsTo S (k + 1) = ptsTo S k ++ (if S.testBit k = true then [(k : Int)] else []) := by
  unfold ptsTo
  rw [List.range_succ, List.filter_append, List.map_append]
  cases h : S.testBit k <;> simp [h]
theorem ptsTo_len (S k : Nat) : (ptsTo S k).length ≤ k := by
  unfold ptsTo
  rw [List.length_map]
  exact Nat.le_trans (List.length_filter_le _ _) (by simp)
theorem ptsTo_all {S : Nat} (hS : S < 32) : ∀ k, 5 ≤ k → ptsTo S k = ptsOf S
  | 0, h => by omega
  | k + 1, h => by
    rcases Nat.lt_or_ge k 5 with hk | hk
    · obtain rfl : k = 4 := by omega
      rfl
    · rw [ptsTo_succ, ptsTo_all hS k hk, if_neg, List.append_nil]
      rw [Nat.testBit_lt_two_pow (Nat.lt_of_lt_of_le hS (Nat.pow_le_pow_right (by decide) hk : 2 ^ 5 ≤ 2 ^ k))]
      decide
set_option maxHeartbeats 1000000 in
theorem l01Points_c (S : Nat) (w : World) (hS : S < 32) :
    Calls Try.prog 85 #[.int .i64 (S : Int)] w fun e w' => ∃ v, e = .returned v ∧ OwnInts w' w.heap.size v (ptsOf S) ∧ Below w.heap.size w w' := by
  go_enter Try.func85, Try.ntmps85
  go_wp2
  go_loopw [4, 3] (fun i out wr => ∃ k : Nat, k ≤ 62 ∧ i = .int .i64 k ∧ OwnInts wr w.heap.size out (ptsTo S k) ∧ Below w.heap.size w wr) (fun i _ _ => 62 - (intOf i).toNat)
  case atStart => exact ⟨0, by omega, rfl, ⟨rfl, .inr ⟨w.heap.size, 0, #[], rfl, Nat.le_refl _, heap_alloc_new w _, Nat.le_refl _, by decide, rfl, rfl⟩⟩, by go_grown⟩
  case round =>
    obtain ⟨k, hk, rfl, hown, hb⟩ := hrel
    have hz := hb.size
    by_cases hlt : k < 62
    · have l0 : (0 : Int) ≤ k := by omega
      have l62 : (k : Int) < 62 := by omega
      have bz := bit_one (S := S) (k := k) (by omega)
      have hl := ptsTo_len S k
      have HS := Lib.hid (ptsTo_succ S k)
      obtain ⟨A0, c0, rfl, _⟩ := hown.see
      cases ht : S.testBit k
      · rw [ht] at bz
        rw [ht] at HS
        generalize ptsTo S k = xs at *
        clear ht
        go_wp2
        go_roundw
        case rel => exact ⟨k + 1, by omega, by go_num, by rw [HS.out]; simpa using hown, hb⟩
        case measure => simp [intOf]; omega
      · rw [ht] at bz
        rw [ht] at HS
        generalize ptsTo S k = xs at *
        clear ht
        go_wp2_with (at_builtin; refine wpList_push_int _ rfl (.tmp 16) (.tmp 18) rfl w.heap.size _ xs rfl (hown.below (by go_grown)) ⟨wr.heap.size, 0, none⟩ (k : Int) rfl (by simp [go_sem]) (by omega) (by go_size) ?_; intro v' w3 hown' hgrow hv')
        go_roundw
        case rel => exact ⟨k + 1, by omega, by go_num, by rw [HS.out]; simpa using hown', Below.grown (w := wr.alloc (.cells #[.int .i64 (k : Int)] 2)) (by go_grown) hgrow (by simp; omega) (fun j hj => (hown.lt j hj).1)⟩
        case measure => simp [intOf]; omega
    · obtain rfl : k = 62 := by omega
      have e := ptsTo_all hS 62 (by omega)
      rw [e] at hown
      obtain ⟨A0, c0, rfl, _⟩ := hown.see
      go_wp2
      go_returns
      exact ⟨_, rfl, hown, hb⟩
end Go.Proofs.Ytbodaefdaagelaa
