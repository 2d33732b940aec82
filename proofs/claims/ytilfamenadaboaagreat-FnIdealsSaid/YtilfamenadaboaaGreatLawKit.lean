/- The laws' marks: numbers written into a slice, and looked for. No condition. -/
import Derived.Test.YtilfamenadaboaaGreatBase
import Derived.Test.YtilfamenadaboaaGreatMul
import Derived.Test.YtilfamenadaboaaGreatEq
namespace Go.Proofs.YtilfamenadaboaaGreat
set_option linter.unusedSimpArgs false
set_option linter.unusedVariables false
set_option linter.unusedSectionVars false
open Go.RowKit
def marksTo (k : Int) (xs : List Int) (i : Nat) : Prop := ∀ j, j < i → xs[j]? = some (k + j)
def markL (k : Int) (n : Nat) : List Int := (List.range n).map fun (j : Nat) => k + (j : Int)
theorem markL_at (k : Int) {n j : Nat} (h : j < n) : (markL k n)[j]? = some (k + j) := by simp [markL, h]
theorem markL_length (k : Int) (n : Nat) : (markL k n).length = n := by simp [markL]
theorem marksTo.all {k : Int} {xs : List Int} (h : marksTo k xs xs.length) : xs = markL k xs.length := List.ext_getElem? fun j => by
  by_cases hj : j < xs.length
  · rw [h j hj, markL_at k hj]
  · rw [List.getElem?_eq_none (by omega), List.getElem?_eq_none (by rw [markL_length]; omega)]
theorem marksTo.snoc {k : Int} {xs : List Int} {i : Nat} (h : marksTo k xs i) (hi : i < xs.length) : marksTo k (xs.set i (k + i)) (i + 1) := fun j hj => by
  by_cases e : j = i
  · subst e; rw [List.getElem?_set_self hi]
  · rw [List.getElem?_set_ne (Ne.symm e)]; exact h j (by omega)
/-- a slice's own block alone turns -/
def NotOf (A : Option Addr) (k : Nat) : Prop := ∀ a, A = some a → k ≠ a.block
theorem Keep.setCell {S : Nat → Prop} {w w' : World} (h : Keep S w w') {p : Addr} (hp : ¬ S p.block) (u : Value) : Keep S w (w'.setCell p u) :=
  ⟨h.os, h.tape, h.output, by simpa using h.size, fun k hk hs => by rw [heap_setCell_other _ _ _ _ (fun e => hp (e ▸ hs))]; exact h.block k hk hs⟩
/-! The laws' marks in a list of maps. -/
def markM (k : Int) : Mp := ⟨k, k + 1, k + 1 + 1, k + 1 + 1 + 1, k + 1 + 1 + 1 + 1, k + 1 + 1 + 1 + 1 + 1⟩
def markMs (k : Int) (n : Nat) : List Mp := (List.range n).map fun (j : Nat) => markM (k + (j : Int) * 6)
theorem markMs_at (k : Int) {n j : Nat} (h : j < n) : (markMs k n)[j]? = some (markM (k + (j : Int) * 6)) := by simp [markMs, h]
theorem markMs_length (k : Int) (n : Nat) : (markMs k n).length = n := by simp [markMs]
def mmarksTo (k : Int) (xs : List Mp) (i : Nat) : Prop := ∀ j, j < i → xs[j]? = some (markM (k + (j : Int) * 6))
theorem mmarksTo.all {k : Int} {xs : List Mp} (h : mmarksTo k xs xs.length) : xs = markMs k xs.length := List.ext_getElem? fun j => by
  by_cases hj : j < xs.length
  · rw [h j hj, markMs_at k hj]
  · rw [List.getElem?_eq_none (by omega), List.getElem?_eq_none (by rw [markMs_length]; omega)]
theorem mmarksTo.snoc {k : Int} {xs : List Mp} {i : Nat} (h : mmarksTo k xs i) (hi : i < xs.length) : mmarksTo k (xs.set i (markM (k + (i : Int) * 6))) (i + 1) := fun j hj => by
  by_cases e : j = i
  · subst e; rw [List.getElem?_set_self hi]
  · rw [List.getElem?_set_ne (Ne.symm e)]; exact h j (by omega)
theorem own_off {w : World} {base : Nat} {e : TypeId} {size b o l c n : Nat} {xs : List Value} (h : w.ownsRow base e size (.slice (some ⟨b, o, none⟩) l c) n xs) : o = 0 := by
  rcases h.2 with ⟨h', _⟩ | ⟨g', cap', cur, h', _⟩
  · simp at h'
  · simp at h'; exact h'.1.2
/-! What the laws' walks share: rows of the call's own as they are read, kept and told apart; what is left of a count; marks. -/
theorem Keep.alloc {S : Nat → Prop} {w w' : World} (h : Keep S w w') (o : Obj) : Keep S w (w'.alloc o) := h.trans (kb (Below.alloc (Below.refl _ w') (Nat.le_refl _) o))
theorem apart {A : Option Addr} {n c lo hi lo' hi' B : Nat} (h : ∀ k, (Value.slice A n c).ownBlock = some k → lo ≤ k ∧ k < hi) (hd : hi ≤ lo' ∨ hi' ≤ lo) : ∀ k, k < B → (lo' ≤ k ∧ k < hi') → NotOf A k := fun k _ hk a ha e => by
  subst ha
  have := h a.block rfl
  omega
theorem apart0 {A : Option Addr} {n c lo hi B : Nat} (h : ∀ k, (Value.slice A n c).ownBlock = some k → lo ≤ k ∧ k < hi) (hd : B ≤ lo) : ∀ k, k < B → NotOf A k := fun k hk a ha e => by
  subst ha
  have := h a.block rfl
  omega
theorem szL_ok {n : Nat} {left : Int} (h : ¬ szL n left < 0) (hl : left ≤ 1048576) : n ≤ 1048576 ∧ 0 ≤ szL n left ∧ szL n left ≤ 1048576 := by
  unfold szL at h ⊢
  split at h
  · omega
  · rw [if_neg (by assumption)]; omega
theorem apart1 {A : Option Addr} {n c lo hi k : Nat} (h : ∀ k, (Value.slice A n c).ownBlock = some k → lo ≤ k ∧ k < hi) (hd : hi ≤ k ∨ k < lo) : NotOf A k := fun a ha e => by
  subst ha
  have := h a.block rfl
  omega
/-! The laws' marks in a list of maps, read again. -/
end Go.Proofs.YtilfamenadaboaaGreat
