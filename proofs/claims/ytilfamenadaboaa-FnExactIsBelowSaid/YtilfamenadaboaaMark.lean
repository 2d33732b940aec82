/- The laws' marks: numbers written into a slice, and looked for. No condition. -/
import Derived.Test.YtilfamenadaboaaPush
namespace Go.Proofs.Ytilfamenadaboaa
set_option linter.unusedSimpArgs false
set_option linter.unusedVariables false
set_option linter.unusedSectionVars false
open Go.RowKit
def marksTo (k : Int) (xs : List Int) (i : Nat) : Prop := ∀ j, j < i → xs[j]? = some (k + j)
def markL (k : Int) (n : Nat) : List Int := (List.range n).map fun (j : Nat) => k + (j : Int)
theorem markL_at (k : Int) {n j : Nat} (h : j < n) : (markL k n)[j]? = some (k + j) := by simp [markL, h]
theorem markL_length (k : Int) (n : Nat) : (markL k n).length = n := by simp [markL]
theorem marksTo.all {k : Int} {xs : List Int} (h : marksTo k xs xs.length) : xs = markL k xs.length := List.ext_getElem? fun j => by
  by_cases hj : j < xs.length
  · rw [h j hj, markL_at k hj]
  · rw [List.getElem?_eq_none (by omega), List.getElem?_eq_none (by rw [markL_length]; omega)]
theorem marksTo.snoc {k : Int} {xs : List Int} {i : Nat} (h : marksTo k xs i) (hi : i < xs.length) : marksTo k (xs.set i (k + i)) (i + 1) := fun j hj => by
  by_cases e : j = i
  · subst e; rw [List.getElem?_set_self hi]
  · rw [List.getElem?_set_ne (Ne.symm e)]; exact h j (by omega)
/-- a slice's own block alone turns -/
def NotOf (A : Option Addr) (k : Nat) : Prop := ∀ a, A = some a → k ≠ a.block
theorem Keep.setCell {S : Nat → Prop} {w w' : World} (h : Keep S w w') {p : Addr} (hp : ¬ S p.block) (u : Value) : Keep S w (w'.setCell p u) :=
  ⟨h.os, h.tape, h.output, by simpa using h.size, fun k hk hs => by rw [heap_setCell_other _ _ _ _ (fun e => hp (e ▸ hs))]; exact h.block k hk hs⟩
end Go.Proofs.Ytilfamenadaboaa
