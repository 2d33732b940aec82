/- 'eqMap', 'eqMapS' and 'eqInt64S' compare what they are given; 'szMapS', 'szInt64S' count. No condition. -/
import Derived.Test.YtilfamenadaboaaGreatToMap
namespace Go.Proofs.YtilfamenadaboaaGreat
set_option linter.unusedSimpArgs false
set_option linter.unusedVariables false
set_option linter.unusedSectionVars false
open Go.RowKit
def eqMp (m n : Mp) : Bool := decide (m = n)
theorem eqMp_true {m n : Mp} (h : m = n) : eqMp m n = true := by simp [eqMp, h]
theorem eqMp_false {m n : Mp} (h : ¬ m = n) : eqMp m n = false := by simp [eqMp, h]
theorem dec5_0 {a0 a1 a2 a3 a4 b0 b1 b2 b3 b4 : Int} (h : (a0 != b0) = true) : false = decide (a0 = b0 ∧ a1 = b1 ∧ a2 = b2 ∧ a3 = b3 ∧ a4 = b4) := by
  have := bne_iff_ne.1 h
  simp [this]
theorem dec5_1 {a0 a1 a2 a3 a4 b0 b1 b2 b3 b4 : Int} (h : (a1 != b1) = true) : false = decide (a0 = b0 ∧ a1 = b1 ∧ a2 = b2 ∧ a3 = b3 ∧ a4 = b4) := by
  have := bne_iff_ne.1 h
  simp [this]
theorem dec5_2 {a0 a1 a2 a3 a4 b0 b1 b2 b3 b4 : Int} (h : (a2 != b2) = true) : false = decide (a0 = b0 ∧ a1 = b1 ∧ a2 = b2 ∧ a3 = b3 ∧ a4 = b4) := by
  have := bne_iff_ne.1 h
  simp [this]
theorem dec5_3 {a0 a1 a2 a3 a4 b0 b1 b2 b3 b4 : Int} (h : (a3 != b3) = true) : false = decide (a0 = b0 ∧ a1 = b1 ∧ a2 = b2 ∧ a3 = b3 ∧ a4 = b4) := by
  have := bne_iff_ne.1 h
  simp [this]
theorem dec5_4 {a0 a1 a2 a3 a4 b0 b1 b2 b3 b4 : Int} (h : (a4 != b4) = true) : false = decide (a0 = b0 ∧ a1 = b1 ∧ a2 = b2 ∧ a3 = b3 ∧ a4 = b4) := by
  have := bne_iff_ne.1 h
  simp [this]
theorem dec5_5 {a0 a1 a2 a3 a4 b0 b1 b2 b3 b4 : Int} (h0 : (a0 != b0) = false) (h1 : (a1 != b1) = false) (h2 : (a2 != b2) = false) (h3 : (a3 != b3) = false) (h4 : (a4 != b4) = false) : true = decide (a0 = b0 ∧ a1 = b1 ∧ a2 = b2 ∧ a3 = b3 ∧ a4 = b4) := by
  simp at h0 h1 h2 h3 h4
  simp [h0, h1, h2, h3, h4]
def eq5 (m n : Mp) : Bool := decide (m.a = n.a ∧ m.b = n.b ∧ m.c = n.c ∧ m.d = n.d ∧ m.e = n.e)
theorem eqMp_of {m n : Mp} (h : m.p = n.p) : eqMp m n = eq5 m n := by
  obtain ⟨p, a, b, c, d, e⟩ := m
  obtain ⟨p', a', b', c', d', e'⟩ := n
  simp only at h
  subst h
  simp [eqMp, eq5]
/-- what is left of a number of places -/
def szL (n : Nat) (left : Int) : Int := if left - n < 0 then -1 else left - n
end Go.Proofs.YtilfamenadaboaaGreat
