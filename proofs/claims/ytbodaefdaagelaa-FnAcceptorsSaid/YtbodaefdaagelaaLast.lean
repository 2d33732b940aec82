/- 'isLast', 'l07Last'; what holds of a right acceptor. No condition. -/
import Derived.Test.YtbodaefdaagelaaIsAcc
import Derived.Test.YtbodaefdaagelaaWord
import Derived.Test.YtbodaefdaagelaaBits
namespace Go.Proofs.Ytbodaefdaagelaa
set_option linter.unusedSimpArgs false
set_option linter.unusedVariables false
set_option linter.unusedSectionVars false
open Go.RowKit
/-- a right acceptor of n points -/
structure RightA (ms : List Mp) (f : Int) (ls : List Int) (n : Int) : Prop where
  list : RightL ms n
  f0 : 0 ≤ f
  f1 : f < n
  set : IsSet ls n
theorem RightA.of {ms : List Mp} {f : Int} {ls : List Int} (h : accB ms f ls = true) : RightA ms f ls (ms.headD Mp.z).p := by
  unfold accB at h
  simp only [Bool.and_eq_true] at h
  obtain ⟨h1, h2, h3⟩ := h
  obtain ⟨m0, h0, hm0, hl0, hl6, hd, hall⟩ := same_facts h1
  have h2' : 0 ≤ f ∧ f ≤ (ms.headD Mp.z).p - 1 := by
    by_cases hi : 0 ≤ f ∧ f ≤ (ms.headD Mp.z).p - 1
    · exact hi
    · rw [inB_false hi] at h2; cases h2
  exact ⟨⟨hl0, hl6, fun m hm => ⟨(hall m hm).1, by rw [hd]; exact (hall m hm).2⟩⟩, h2'.1, by omega, by simpa [isSetB] using h3⟩
theorem RightA.pts {ms : List Mp} {f n : Int} {ls : List Int} (h : RightA ms f ls n) : ∀ x ∈ ls, 0 ≤ x ∧ x < 6 := fun x hx => by
  obtain ⟨j, hj, rfl⟩ := List.mem_iff_getElem.1 hx
  have := h.set.range (List.getElem?_eq_getElem hj)
  have := h.list.bounds
  omega
theorem isLast_c (B : Nat) (A' : Option Addr) (c' : Nat) (ls : List Int) (p : Int) (w : World) (hq : w.cell? ⟨B, 2, none⟩ = some (.slice A' ls.length c')) (h' : SeeInts w A' ls) (hn' : ls.length ≤ 2097152) :
    Calls Try.prog 67 #[.pointer (some ⟨B, 0, none⟩), .int .i64 p] w fun e w' => e = .returned (.bool (decide (p ∈ ls))) ∧ Below w.heap.size w w' := by
  go_enter Try.func67, Try.ntmps67
  go_wp2_with (go_at_call 83; go_must (refine (ContainsI_c A' c' ls p _ h' hn').mono ?_); rintro e w2 ⟨rfl, hb2⟩)
  go_returns
  exact ⟨rfl, hb2⟩
theorem last_bit {ls : List Int} (hx : ∀ x ∈ ls, 0 ≤ x ∧ x < 6) {p : Int} (p0 : 0 ≤ p) : (bits .and .i64 ((bitsN ls : Int) / 2 ^ p.toNat) 1 == 1) = decide (p ∈ ls) := by
  have hlt : bitsN ls < 2 ^ 6 := bitsN_lt (j := 6) hx
  have e1 : ((bitsN ls : Int) / 2 ^ p.toNat) = ((bitsN ls / 2 ^ p.toNat : Nat) : Int) := by push_cast; rfl
  have h63 : bitsN ls / 2 ^ p.toNat < 2 ^ 63 := Nat.lt_of_le_of_lt (Nat.div_le_self _ _) (Nat.lt_of_lt_of_le hlt (by decide))
  have e2 : bits .and .i64 ((bitsN ls / 2 ^ p.toNat : Nat) : Int) 1 = ((bitsN ls / 2 ^ p.toNat &&& 1 : Nat) : Int) := bits_and _ 1 h63 (by decide)
  rw [e1, e2, Nat.and_one_is_mod]
  have t := bitsN_test (fun x h => (hx x h).1) p.toNat
  rw [Nat.testBit_eq_decide_div_mod_eq, Int.toNat_of_nonneg p0] at t
  rw [← t]
  by_cases h : bitsN ls / 2 ^ p.toNat % 2 = 1
  · simp [h]
  · have h0 : bitsN ls / 2 ^ p.toNat % 2 = 0 := by omega
    simp [h0]
set_option maxHeartbeats 1000000 in
theorem l07Last_c (A A' : Option Addr) (n c c' : Nat) (f : Int) (ls : List Int) (p : Int) (w : World) (h' : SeeInts w A' ls) (hn' : ls.length ≤ 2097152) (hx : ∀ x ∈ ls, 0 ≤ x ∧ x < 6) (p0 : 0 ≤ p) (p1 : p < 6) :
    Calls Try.prog 65 #[.agg #[.slice A n c, .int .i64 f, .slice A' ls.length c'], .int .i64 p] w fun e w' => e = .returned (.bool (decide (p ∈ ls))) ∧ Below w.heap.size w w' := by
  have k0 : Below w.heap.size w (w.alloc (Obj.cells #[Value.slice A n c, .int .i64 f, Value.slice A' ls.length c'] 30)) := by go_grown
  go_enter Try.func65, Try.ntmps65
  go_wp2_with (go_at_call 86; go_must (refine (l01Bits_c A' c' ls _ (h'.below k0) hx hn').mono ?_); rintro e w2 ⟨rfl, hb2⟩)
  go_returns
  exact ⟨ret_bool (last_bit hx p0), btrans k0 hb2⟩
end Go.Proofs.Ytbodaefdaagelaa
