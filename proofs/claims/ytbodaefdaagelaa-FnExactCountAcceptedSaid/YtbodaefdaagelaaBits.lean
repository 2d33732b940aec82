/- 'l01Bits': the points of a set as digits. No condition. -/
import Derived.Test.YtbodaefdaagelaaIsMap
import Derived.Laws.BitsLemmas
namespace Go.Proofs.Ytbodaefdaagelaa
set_option linter.unusedSimpArgs false
set_option linter.unusedVariables false
set_option linter.unusedSectionVars false
open Go.RowKit
def bitsN (xs : List Int) : Nat := xs.foldl (fun n x => n ||| (1 <<< x.toNat)) 0
theorem bits_fold_lt {j : Nat} : ∀ (xs : List Int) (a : Nat), (∀ x ∈ xs, 0 ≤ x ∧ x < (j : Int)) → a < 2 ^ j → xs.foldl (fun n x => n ||| (1 <<< x.toNat)) a < 2 ^ j
  | [], _, _, h => h
  | x :: xs, a, hx, h => bits_fold_lt xs _ (fun y hy => hx y (by simp [hy])) (Nat.or_lt_two_pow h (by
      have := hx x (by simp)
      rw [Nat.one_shiftLeft]
      exact Nat.pow_lt_pow_right (by decide) (by omega)))
theorem bitsN_lt {xs : List Int} {j : Nat} (h : ∀ x ∈ xs, 0 ≤ x ∧ x < (j : Int)) : bitsN xs < 2 ^ j := bits_fold_lt xs 0 h (Nat.two_pow_pos j)
theorem bits_fold_test : ∀ (xs : List Int) (a p : Nat), (∀ x ∈ xs, 0 ≤ x) → (xs.foldl (fun n x => n ||| (1 <<< x.toNat)) a).testBit p = (a.testBit p || decide ((p : Int) ∈ xs))
  | [], a, p, _ => by simp
  | x :: xs, a, p, h => by
    rw [List.foldl_cons, bits_fold_test xs _ p (fun y hy => h y (by simp [hy])), Nat.testBit_or, Nat.one_shiftLeft, Nat.testBit_two_pow, Bool.or_assoc]
    congr 1
    have := h x (by simp)
    by_cases e : x.toNat = p
    · have e' : (p : Int) = x := by omega
      simp [e, e']
    · have e' : ¬ (p : Int) = x := by omega
      simp [e, e']
theorem bitsN_test {xs : List Int} (h : ∀ x ∈ xs, 0 ≤ x) (p : Nat) : (bitsN xs).testBit p = decide ((p : Int) ∈ xs) := by
  unfold bitsN
  rw [bits_fold_test xs 0 p h]
  simp
theorem wraps_i64 (n : Int) (h₀ : 0 ≤ n) (h₁ : n < 2 ^ 63) : IntKind.i64.wrap n = n := by rw [IntKind.wrap_i64]; omega
theorem pow_of {x : Int} (h0 : 0 ≤ x) (h1 : x < 6) : wrap64 (2 ^ x.toNat) = ((1 <<< x.toNat : Nat) : Int) := by
  rcases (by omega : x = 0 ∨ x = 1 ∨ x = 2 ∨ x = 3 ∨ x = 4 ∨ x = 5) with rfl | rfl | rfl | rfl | rfl | rfl <;> (unfold wrap64; rfl)
theorem pow_lt {x : Int} (h1 : x < 6) : (1 <<< x.toNat : Nat) < 2 ^ 63 := by
  rw [Nat.one_shiftLeft]
  exact Nat.pow_lt_pow_right (by decide) (by omega)
theorem bits_or (a b : Nat) (ha : a < 2 ^ 63) (hb : b < 2 ^ 63) : bits .or .i64 (a : Int) (b : Int) = ((a ||| b : Nat) : Int) := (bits_nat .i64 63 (by decide) wraps_i64 a b ha hb).2
theorem bits_and (a b : Nat) (ha : a < 2 ^ 63) (hb : b < 2 ^ 63) : bits .and .i64 (a : Int) (b : Int) = ((a &&& b : Nat) : Int) := (bits_nat .i64 63 (by decide) wraps_i64 a b ha hb).1
set_option maxHeartbeats 1000000 in
theorem l01Bits_c (A : Option Addr) (c : Nat) (xs : List Int) (w : World) (h : SeeInts w A xs) (hx : ∀ x ∈ xs, 0 ≤ x ∧ x < 6) (hn : xs.length ≤ 2097152) :
    Calls Try.prog 86 #[.slice A xs.length c] w fun e w' => e = .returned (.int .i64 (bitsN xs)) ∧ Below w.heap.size w w' := by
  go_enter Try.func86, Try.ntmps86
  go_wp2
  go_loopw [4, 3] (fun i n wr => ∃ k : Nat, k ≤ xs.length ∧ i = .int .i64 k ∧ n = .int .i64 (bitsN (xs.take k)) ∧ Below w.heap.size w wr) (fun i _ _ => xs.length - (intOf i).toNat)
  case atStart => exact ⟨0, Nat.zero_le _, rfl, rfl, Below.refl _ _⟩
  case round =>
    obtain ⟨k, hk, rfl, rfl, hb⟩ := hrel
    by_cases hlt : k < xs.length
    · obtain ⟨b, o, x, rfl, hxk, q⟩ := (h.below hb).at_ hlt
      have hl : (0 : Int) ≤ k := by omega
      have hl' : (k : Int) < xs.length := by omega
      have hp := hx x (List.mem_of_getElem? hxk)
      have r0 := hp.1
      have r1 : x < 6 := by omega
      have HX := Lib.hid hxk
      have HP := Lib.hid hx
      clear hxk h hx
      go_wp2
      go_roundw
      case rel =>
        refine ⟨k + 1, by omega, by go_num, ?_, hb⟩
        have hlt' : bitsN (xs.take k) < 2 ^ 63 := Nat.lt_of_lt_of_le (bitsN_lt (j := 6) fun y hy => HP.out y (List.mem_of_mem_take hy)) (by decide)
        rw [pow_of r0 r1, bits_or _ _ hlt' (pow_lt r1), List.take_add_one, HX.out]
        congr 1
        simp [bitsN, List.foldl_append]
      case measure => simp [intOf]; omega
    · obtain rfl : k = xs.length := by omega
      rw [List.take_length]
      go_wp2
      go_returns
      exact ⟨rfl, hb⟩
end Go.Proofs.Ytbodaefdaagelaa
