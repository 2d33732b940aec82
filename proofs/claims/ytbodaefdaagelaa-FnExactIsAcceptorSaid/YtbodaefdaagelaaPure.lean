/- The plain side: maps, lists of maps, words, acceptors, with no program in sight. No condition. -/
namespace Go.Proofs.Ytbodaefdaagelaa
/-! ### Maps: six whole numbers -/
structure Mp where
  p : Int
  a : Int
  b : Int
  c : Int
  d : Int
  e : Int
deriving DecidableEq
def Mp.z : Mp := ⟨0, 0, 0, 0, 0, 0⟩
instance : Inhabited Mp := ⟨Mp.z⟩
/-- the image of a point -/
def Mp.to (m : Mp) : Nat → Int
  | 0 => m.a
  | 1 => m.b
  | 2 => m.c
  | 3 => m.d
  | 4 => m.e
  | _ => 0

/-- a map: 1 to 5 points, images of these in range, the others 0 -/
def IsMp (m : Mp) : Prop := 1 ≤ m.p ∧ m.p ≤ 5 ∧ ∀ i : Nat, i < 5 → ((i : Int) < m.p → 0 ≤ m.to i ∧ m.to i ≤ m.p - 1) ∧ (m.p ≤ (i : Int) → m.to i = 0)
instance (m : Mp) : Decidable (IsMp m) := by unfold IsMp; infer_instance
/-- the code of a list of maps, with maps of as many points beside -/
def lcode (ms ms' : List Mp) : Int := if ∀ m ∈ ms ++ ms', IsMp m then (if 1 ≤ ms.length ∧ ms.length ≤ 6 then (if ∀ m ∈ ms ++ ms', m.p = (ms.headD Mp.z).p then 0 else 2) else 2) else 1
theorem lcode_bad {ms ms' : List Mp} (h : ¬ ∀ m ∈ ms ++ ms', IsMp m) : lcode ms ms' = 1 := by unfold lcode; rw [if_neg h]
theorem lcode_len {ms ms' : List Mp} (h : ∀ m ∈ ms ++ ms', IsMp m) (h2 : ¬ (1 ≤ ms.length ∧ ms.length ≤ 6)) : lcode ms ms' = 2 := by unfold lcode; rw [if_pos h, if_neg h2]
theorem lcode_pts {ms ms' : List Mp} (h : ∀ m ∈ ms ++ ms', IsMp m) (h2 : 1 ≤ ms.length ∧ ms.length ≤ 6) (h3 : ¬ ∀ m ∈ ms ++ ms', m.p = (ms.headD Mp.z).p) : lcode ms ms' = 2 := by unfold lcode; rw [if_pos h, if_pos h2, if_neg h3]
theorem lcode_ok {ms ms' : List Mp} (h : ∀ m ∈ ms ++ ms', IsMp m) (h2 : 1 ≤ ms.length ∧ ms.length ≤ 6) (h3 : ∀ m ∈ ms ++ ms', m.p = (ms.headD Mp.z).p) : lcode ms ms' = 0 := by unfold lcode; rw [if_pos h, if_pos h2, if_pos h3]
/-- what holds of the elements below k -/
def AllTo {α : Type} (P : α → Prop) (xs : List α) (k : Nat) : Prop := ∀ j x, j < k → xs[j]? = some x → P x
theorem AllTo.zero {α : Type} (P : α → Prop) (xs : List α) : AllTo P xs 0 := fun _ _ h => absurd h (Nat.not_lt_zero _)
theorem AllTo.snoc {α : Type} {P : α → Prop} {xs : List α} {k : Nat} (h : AllTo P xs k) {x : α} (hk : xs[k]? = some x) (hp : P x) : AllTo P xs (k + 1) := fun j y hj hy => by
  rcases Nat.lt_succ_iff_lt_or_eq.1 hj with hj | rfl
  · exact h j y hj hy
  · rw [hk] at hy; obtain rfl := Option.some.inj hy; exact hp
theorem AllTo.all {α : Type} {P : α → Prop} {xs : List α} (h : AllTo P xs xs.length) : ∀ x ∈ xs, P x := fun x hx => by
  obtain ⟨j, hj, rfl⟩ := List.mem_iff_getElem.1 hx
  exact h j _ hj (List.getElem?_eq_getElem hj)
theorem AllTo.not {α : Type} {P : α → Prop} {xs : List α} {k : Nat} {x : α} (hk : xs[k]? = some x) (hp : ¬ P x) : ¬ ∀ x ∈ xs, P x := fun h => hp (h x (List.mem_of_getElem? hk))
/-- ascending numbers from 0 to n - 1, up to place k -/
def SetTo (xs : List Int) (n : Int) (k : Nat) : Prop := ∀ j x, j < k → xs[j]? = some x → (0 ≤ x ∧ x ≤ n - 1) ∧ ∀ y, 0 < j → xs[j - 1]? = some y → y < x
def IsSet (xs : List Int) (n : Int) : Prop := SetTo xs n xs.length
open Classical in
noncomputable def isSetB (xs : List Int) (n : Int) : Bool := decide (IsSet xs n)
theorem isSetB_true {xs : List Int} {n : Int} (h : IsSet xs n) : isSetB xs n = true := by simp [isSetB, h]
theorem isSetB_false {xs : List Int} {n : Int} (h : ¬ IsSet xs n) : isSetB xs n = false := by simp [isSetB, h]
theorem SetTo.zero (xs : List Int) (n : Int) : SetTo xs n 0 := fun _ _ h => absurd h (Nat.not_lt_zero _)
theorem SetTo.snoc {xs : List Int} {n : Int} {k : Nat} (h : SetTo xs n k) {x : Int} (hk : xs[k]? = some x) (h1 : 0 ≤ x ∧ x ≤ n - 1) (h2 : ∀ y, 0 < k → xs[k - 1]? = some y → y < x) : SetTo xs n (k + 1) := fun j y hj hy => by
  rcases Nat.lt_succ_iff_lt_or_eq.1 hj with hj | rfl
  · exact h j y hj hy
  · rw [hk] at hy; obtain rfl := Option.some.inj hy; exact ⟨h1, h2⟩
theorem SetTo.range {xs : List Int} {n : Int} {k : Nat} (h : SetTo xs n xs.length) {x : Int} (hk : xs[k]? = some x) : 0 ≤ x ∧ x ≤ n - 1 := (h k x (List.getElem?_eq_some_iff.1 hk).1 hk).1
theorem SetTo.step {xs : List Int} {n : Int} {k : Nat} (h : SetTo xs n xs.length) {x y : Int} (hk : xs[k]? = some x) (h0 : 0 < k) (hy : xs[k - 1]? = some y) : y < x := (h k x (List.getElem?_eq_some_iff.1 hk).1 hk).2 y h0 hy
end Go.Proofs.Ytbodaefdaagelaa
