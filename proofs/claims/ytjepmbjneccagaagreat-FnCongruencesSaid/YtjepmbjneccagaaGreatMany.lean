/- The plain side of congruences: classes, merging, the least congruence, canonical numbers. No condition. -/
import Derived.Test.YtjepmbjneccagaaGreatBase
import Derived.Test.YtjepmbjneccagaaGreatWord
namespace Go.Proofs.YtjepmbjneccagaaGreat
set_option linter.unusedSimpArgs false
set_option linter.unusedVariables false
set_option linter.unusedSectionVars false
open Go.RowKit
/-! ### Classes as lists of numbers -/
def cls (cl : List Int) (i : Nat) : Int := cl.getD i 0
/-- q replaced by p -/
def joinL (cl : List Int) (p q : Int) : List Int := cl.map fun k => if k = q then p else k
theorem joinL_length (cl : List Int) (p q : Int) : (joinL cl p q).length = cl.length := List.length_map _
theorem cls_joinL {cl : List Int} {p q : Int} {i : Nat} (h : i < cl.length) : cls (joinL cl p q) i = if cls cl i = q then p else cls cl i := by
  unfold cls joinL
  rw [List.getD_eq_getElem?_getD, List.getD_eq_getElem?_getD, List.getElem?_map, List.getElem?_eq_getElem h]
  rfl
theorem joinL_rel {cl : List Int} {x y i k : Nat} (hi : i < cl.length) (hk : k < cl.length) :
    cls (joinL cl (cls cl x) (cls cl y)) i = cls (joinL cl (cls cl x) (cls cl y)) k ↔ cls cl i = cls cl k ∨ ((cls cl i = cls cl x ∨ cls cl i = cls cl y) ∧ (cls cl k = cls cl x ∨ cls cl k = cls cl y)) := by
  rw [cls_joinL hi, cls_joinL hk]
  by_cases e1 : cls cl i = cls cl y <;> by_cases e2 : cls cl k = cls cl y <;> simp only [e1, e2, if_true, if_false]
  · simp
  · constructor
    · intro h; exact .inr ⟨.inr trivial, .inl h.symm⟩
    · rintro (h | ⟨_, h | h⟩)
      · exact absurd h.symm e2
      · exact h.symm
      · exact absurd h (by simp)
  · constructor
    · intro h; exact .inr ⟨.inl h, .inr trivial⟩
    · rintro (h | ⟨h | h, _⟩)
      · exact absurd h (by first | exact e1 | simp)
      · exact h
      · exact absurd h (by first | exact e1 | simp)
  · constructor
    · intro h; exact .inl h
    · rintro (h | ⟨h1 | h1, h2 | h2⟩)
      · exact h
      · rw [h1, h2]
      · exact absurd h2 (by first | exact e2 | simp)
      · exact absurd h1 (by first | exact e1 | simp)
      · exact absurd h1 (by first | exact e1 | simp)
/-! ### Congruences -/
/-- an equivalence of the numbers below N -/
structure EqvN (N : Nat) (E : Nat → Nat → Prop) : Prop where
  refl : ∀ i, i < N → E i i
  symm : ∀ i k, i < N → k < N → E i k → E k i
  trans : ∀ i j k, i < N → j < N → k < N → E i j → E j k → E i k
/-- products of alike elements are alike: on the right, or on both sides -/
def StabN (N : Nat) (T : Nat → Nat → Nat) (both : Bool) (E : Nat → Nat → Prop) : Prop :=
  ∀ a b, a < N → b < N → E a b → ∀ c, c < N → E (T a c) (T b c) ∧ (both = true → E (T c a) (T c b))
/-- the least one that holds of the pairs -/
def Gen (N : Nat) (T : Nat → Nat → Nat) (both : Bool) (P : Nat → Nat → Prop) (i k : Nat) : Prop :=
  ∀ E : Nat → Nat → Prop, EqvN N E → StabN N T both E → (∀ x y, x < N → y < N → P x y → E x y) → E i k
def relL (cl : List Int) (i k : Nat) : Prop := cls cl i = cls cl k
theorem relL_eqv (N : Nat) (cl : List Int) : EqvN N (relL cl) := ⟨fun _ _ => rfl, fun _ _ _ _ h => Eq.symm h, fun _ _ _ _ _ _ h k => Eq.trans h k⟩
section
variable {N : Nat} {T : Nat → Nat → Nat} {both : Bool} {P Q : Nat → Nat → Prop}
theorem gen_eqv : EqvN N (Gen N T both P) :=
  ⟨fun i hi E hE _ _ => hE.refl i hi, fun i k hi hk h E hE hS hP => hE.symm i k hi hk (h E hE hS hP), fun i j k hi hj hk h1 h2 E hE hS hP => hE.trans i j k hi hj hk (h1 E hE hS hP) (h2 E hE hS hP)⟩
theorem gen_stab : StabN N T both (Gen N T both P) := fun a b ha hb h c hc =>
  ⟨fun E hE hS hP => (hS a b ha hb (h E hE hS hP) c hc).1, fun hB E hE hS hP => (hS a b ha hb (h E hE hS hP) c hc).2 hB⟩
theorem gen_of {x y : Nat} (hx : x < N) (hy : y < N) (h : P x y) : Gen N T both P x y := fun _ _ _ hP => hP x y hx hy h
/-- what is reached by sound steps, holds of the pairs and is stable, is the least one -/
theorem gen_eq {cl : List Int} (hs : ∀ i k, i < N → k < N → relL cl i k → Gen N T both P i k) (hp : ∀ x y, x < N → y < N → P x y → relL cl x y) (hst : StabN N T both (relL cl)) {i k : Nat} (hi : i < N) (hk : k < N) : relL cl i k ↔ Gen N T both P i k :=
  ⟨hs i k hi hk, fun h => h _ (relL_eqv N cl) hst hp⟩
theorem gen_mono (h : ∀ x y, x < N → y < N → P x y → Gen N T both Q x y) {i k : Nat} (hg : Gen N T both P i k) : Gen N T both Q i k :=
  hg _ gen_eqv gen_stab h
theorem gen_congr (h : ∀ x y, x < N → y < N → P x y → Gen N T both Q x y) (h' : ∀ x y, x < N → y < N → Q x y → Gen N T both P x y) {i k : Nat} : Gen N T both P i k ↔ Gen N T both Q i k := ⟨gen_mono h, gen_mono h'⟩
/-- a stable equivalence is the least one that holds of itself -/
theorem gen_self {E : Nat → Nat → Prop} (hE : EqvN N E) (hS : StabN N T both E) {i k : Nat} (hi : i < N) (hk : k < N) : Gen N T both E i k ↔ E i k :=
  ⟨fun h => h E hE hS fun _ _ _ _ h => h, fun h => gen_of hi hk h⟩
/-- one merging step is sound -/
theorem sound_join {cl : List Int} {x y : Nat} (hl : cl.length = N) (hs : ∀ i k, i < N → k < N → relL cl i k → Gen N T both P i k) (hx : x < N) (hy : y < N) (hg : Gen N T both P x y) :
    ∀ i k, i < N → k < N → relL (joinL cl (cls cl x) (cls cl y)) i k → Gen N T both P i k := fun i k hi hk h => by
  subst hl
  have E := gen_eqv (N := cl.length) (T := T) (both := both) (P := P)
  rcases (joinL_rel hi hk).1 h with h | ⟨h1, h2⟩
  · exact hs i k hi hk h
  · have a1 : Gen cl.length T both P i x := by
      rcases h1 with h1 | h1
      · exact hs i x hi hx h1
      · exact E.trans i y x hi hy hx (hs i y hi hy h1) (E.symm x y hx hy hg)
    have a2 : Gen cl.length T both P k x := by
      rcases h2 with h2 | h2
      · exact hs k x hk hx h2
      · exact E.trans k y x hk hy hx (hs k y hk hy h2) (E.symm x y hx hy hg)
    exact E.trans i x k hi hx hk a1 (E.symm k x hk hx a2)
theorem join_keeps {cl : List Int} {x y i k : Nat} (hi : i < cl.length) (hk : k < cl.length) (h : relL cl i k) : relL (joinL cl (cls cl x) (cls cl y)) i k := (joinL_rel hi hk).2 (.inl h)
theorem join_has {cl : List Int} {x y : Nat} (hx : x < cl.length) (hy : y < cl.length) : relL (joinL cl (cls cl x) (cls cl y)) x y := (joinL_rel hx hy).2 (.inr ⟨.inl rfl, .inr rfl⟩)
theorem join_has' {cl : List Int} {x y : Nat} (hx : x < cl.length) (hy : y < cl.length) : relL (joinL cl (cls cl y) (cls cl x)) x y := (joinL_rel hx hy).2 (.inr ⟨.inr rfl, .inl rfl⟩)
end
/-! ### How many different numbers -/
def dd : List Int → List Int
  | [] => []
  | x :: l => if x ∈ dd l then dd l else x :: dd l
theorem mem_dd {x : Int} : ∀ {l : List Int}, x ∈ dd l ↔ x ∈ l
  | [] => Iff.rfl
  | y :: l => by
    unfold dd
    split
    · rename_i h
      rw [mem_dd, List.mem_cons]
      constructor
      · exact .inr
      · rintro (rfl | h2)
        · exact mem_dd.1 h
        · exact h2
    · rw [List.mem_cons, mem_dd, List.mem_cons]
theorem nodup_dd : ∀ (l : List Int), (dd l).Nodup
  | [] => List.nodup_nil
  | y :: l => by
    unfold dd
    split
    · exact nodup_dd l
    · rename_i h; exact List.nodup_cons.2 ⟨h, nodup_dd l⟩
def dist (cl : List Int) : Nat := (dd cl).length
theorem dist_join {cl : List Int} {p q : Int} (hp : p ∈ cl) (hq : q ∈ cl) (hne : p ≠ q) : dist (joinL cl p q) < dist cl := by
  unfold dist
  have hn : (q :: dd (joinL cl p q)).Nodup := List.nodup_cons.2 ⟨fun h => by
    rw [mem_dd] at h
    unfold joinL at h
    obtain ⟨k, _, e⟩ := List.mem_map.1 h
    split at e
    · exact hne e
    · rename_i h2; exact h2 e, nodup_dd _⟩
  have := hn.length_le_of_subset (l₂ := dd cl) fun x hx => by
    rw [mem_dd]
    rcases List.mem_cons.1 hx with rfl | hx
    · exact hq
    · rw [mem_dd] at hx
      unfold joinL at hx
      obtain ⟨k, hk, rfl⟩ := List.mem_map.1 hx
      split
      · exact hp
      · exact hk
  rw [List.length_cons] at this
  omega
theorem dist_le (cl : List Int) : dist cl ≤ cl.length := by
  unfold dist
  exact (nodup_dd cl).length_le_of_subset fun x hx => mem_dd.1 hx
/-! ### Canonical numbers -/
/-- the first k below i of the same class, or i -/
def firstK (S : Nat → Nat → Bool) (i : Nat) : Nat → Nat → Nat
  | 0, k => k
  | f + 1, k => if k < i ∧ S k i = false then firstK S i f (k + 1) else k
def firstOf (S : Nat → Nat → Bool) (i : Nat) : Nat := firstK S i i 0
theorem firstK_spec (S : Nat → Nat → Bool) (i : Nat) : ∀ f k, k ≤ i → i ≤ k + f → (k ≤ firstK S i f k ∧ firstK S i f k ≤ i) ∧ (∀ j, k ≤ j → j < firstK S i f k → S j i = false) ∧ (firstK S i f k < i → S (firstK S i f k) i = true)
  | 0, k, h1, h2 => ⟨⟨Nat.le_refl _, h1⟩, fun j h3 h4 => by simp only [firstK] at h4; omega, fun h => by simp only [firstK] at h; omega⟩
  | f + 1, k, h1, h2 => by
    unfold firstK
    split
    · rename_i h
      obtain ⟨⟨a1, a2⟩, a3, a4⟩ := firstK_spec S i f (k + 1) (by omega) (by omega)
      refine ⟨⟨by omega, a2⟩, fun j h3 h4 => ?_, a4⟩
      by_cases e : j = k
      · subst e; exact h.2
      · exact a3 j (by omega) h4
    · rename_i h
      refine ⟨⟨Nat.le_refl _, h1⟩, fun j h3 h4 => by omega, fun h5 => ?_⟩
      cases hS : S k i with
      | true => rfl
      | false => exact absurd ⟨h5, hS⟩ h
theorem firstOf_spec (S : Nat → Nat → Bool) (i : Nat) : firstOf S i ≤ i ∧ (∀ j, j < firstOf S i → S j i = false) ∧ (firstOf S i < i → S (firstOf S i) i = true) := by
  obtain ⟨⟨_, a2⟩, a3, a4⟩ := firstK_spec S i i 0 (Nat.zero_le _) (by omega)
  exact ⟨a2, fun j hj => a3 j (Nat.zero_le _) hj, a4⟩
theorem firstOf_eq {S : Nat → Nat → Bool} {i k : Nat} (h1 : k ≤ i) (h2 : ∀ j, j < k → S j i = false) (h3 : k < i → S k i = true) : firstOf S i = k := by
  obtain ⟨a1, a2, a3⟩ := firstOf_spec S i
  rcases Nat.lt_trichotomy (firstOf S i) k with h | h | h
  · have := h2 _ h
    rw [a3 (by omega)] at this
    cases this
  · exact h
  · have := a2 _ h
    rw [h3 (by omega)] at this
    cases this
/-- the numbers of the first n, and the next number -/
def nbTo (S : Nat → Nat → Bool) : Nat → List Int × Int
  | 0 => ([], 0)
  | i + 1 => let r := nbTo S i; if firstOf S i < i then (r.1 ++ [r.1.getD (firstOf S i) 0], r.2) else (r.1 ++ [r.2], r.2 + 1)
def numL (S : Nat → Nat → Bool) (n : Nat) : List Int := (nbTo S n).1
theorem numL_length (S : Nat → Nat → Bool) : ∀ n, (numL S n).length = n
  | 0 => rfl
  | n + 1 => by
    have := numL_length S n
    unfold numL at this ⊢
    unfold nbTo
    split <;> simp [this]
theorem firstOf_congr {S S' : Nat → Nat → Bool} {i : Nat} (h : ∀ k, k < i → S k i = S' k i) : firstOf S i = firstOf S' i := by
  obtain ⟨a1, a2, a3⟩ := firstOf_spec S' i
  refine firstOf_eq a1 (fun j hj => ?_) (fun hlt => ?_)
  · rw [h j (by omega)]; exact a2 j hj
  · rw [h _ hlt]; exact a3 hlt
theorem nbTo_congr {S S' : Nat → Nat → Bool} : ∀ n, (∀ i k, k < i → i < n → S k i = S' k i) → nbTo S n = nbTo S' n
  | 0, _ => rfl
  | n + 1, h => by
    unfold nbTo
    rw [nbTo_congr n (fun i k h1 h2 => h i k h1 (by omega)), firstOf_congr (fun k hk => h n k hk (by omega))]
theorem numL_congr {S S' : Nat → Nat → Bool} {n : Nat} (h : ∀ i k, k < i → i < n → S k i = S' k i) : numL S n = numL S' n := by unfold numL; rw [nbTo_congr n h]
theorem nbTo_next_nonneg (S : Nat → Nat → Bool) : ∀ n, 0 ≤ (nbTo S n).2 ∧ (nbTo S n).2 ≤ n ∧ ∀ x ∈ (nbTo S n).1, 0 ≤ x ∧ x < (nbTo S n).2
  | 0 => ⟨Int.le_refl _, Int.le_refl _, fun x hx => by cases hx⟩
  | n + 1 => by
    obtain ⟨h1, h2, h3⟩ := nbTo_next_nonneg S n
    have hlen := numL_length S n
    unfold numL at hlen
    unfold nbTo
    split
    · rename_i hlt
      refine ⟨h1, by simp only []; omega, fun x hx => ?_⟩
      rcases List.mem_append.1 hx with hx | hx
      · exact h3 x hx
      · rw [List.mem_singleton.1 hx]
        refine h3 _ ?_
        rw [List.getD_eq_getElem?_getD, List.getElem?_eq_getElem (by omega)]
        exact List.getElem_mem _
    · refine ⟨by simp only []; omega, by simp only []; omega, fun x hx => ?_⟩
      rcases List.mem_append.1 hx with hx | hx
      · have := h3 x hx; simp only []; omega
      · rw [List.mem_singleton.1 hx]; simp only []; omega
theorem nbTo_prefix (S : Nat → Nat → Bool) {m n : Nat} (h : m ≤ n) {i : Nat} (hi : i < m) : cls (numL S n) i = cls (numL S m) i := by
  induction n with
  | zero => obtain rfl : m = 0 := by omega
            rfl
  | succ n ih =>
    by_cases e : m = n + 1
    · subst e; rfl
    · rw [← ih (by omega)]
      have hlen := numL_length S n
      unfold numL at hlen
      show (nbTo S (n + 1)).1.getD i 0 = (nbTo S n).1.getD i 0
      rw [nbTo]
      split <;> (show List.getD (_ ++ _) i 0 = _; rw [List.getD_eq_getElem?_getD, List.getElem?_append_left (by omega), List.getD_eq_getElem?_getD])
theorem numL_at (S : Nat → Nat → Bool) {n i : Nat} (hi : i < n) : cls (numL S n) i = if firstOf S i < i then cls (numL S n) (firstOf S i) else (nbTo S i).2 := by
  rw [nbTo_prefix S (m := i + 1) (n := n) (by omega) (by omega)]
  have hlen := numL_length S i
  have hlast : cls (numL S (i + 1)) i = if firstOf S i < i then cls (numL S i) (firstOf S i) else (nbTo S i).2 := by
    unfold numL at hlen ⊢
    unfold cls
    rw [nbTo]
    split
    · simp only []
      rw [List.getD_eq_getElem?_getD, List.getElem?_append_right (by omega)]
      simp [hlen]
    · simp only []
      rw [List.getD_eq_getElem?_getD, List.getElem?_append_right (by omega)]
      simp [hlen]
  rw [hlast]
  split
  · rename_i hlt
    rw [nbTo_prefix S (m := i) (n := n) (by omega) hlt]
  · rfl
/-- the numbers tell the classes -/
theorem numL_rel {S : Nat → Nat → Bool} {n : Nat} (hr : ∀ i, i < n → S i i = true) (hs : ∀ i k, i < n → k < n → S i k = true → S k i = true) (ht : ∀ i j k, i < n → j < n → k < n → S i j = true → S j k = true → S i k = true) :
    ∀ i k, i < n → k < n → (cls (numL S n) i = cls (numL S n) k ↔ S i k = true) := by
  -- each number's first place
  have fst : ∀ i, i < n → firstOf S i ≤ i ∧ S (firstOf S i) i = true := fun i hi => by
    obtain ⟨a1, _, a3⟩ := firstOf_spec S i
    refine ⟨a1, ?_⟩
    by_cases hlt : firstOf S i < i
    · exact a3 hlt
    · have : firstOf S i = i := by omega
      rw [this]; exact hr i hi
  have fst_idem : ∀ i, i < n → firstOf S (firstOf S i) = firstOf S i := fun i hi => by
    obtain ⟨b1, b2⟩ := fst i hi
    obtain ⟨_, a2, _⟩ := firstOf_spec S i
    refine firstOf_eq (Nat.le_refl _) (fun j hj => ?_) (fun h => by omega)
    cases h : S j (firstOf S i) with
    | false => rfl
    | true =>
      have := a2 j hj
      rw [ht j (firstOf S i) i (by omega) (by omega) hi h b2] at this
      cases this
  have same : ∀ i k, i < n → k < n → S i k = true → firstOf S i = firstOf S k := fun i k hi hk h => by
    obtain ⟨b1, b2⟩ := fst k hk
    obtain ⟨a1, a2, a3⟩ := firstOf_spec S k
    obtain ⟨c1, c2, c3⟩ := firstOf_spec S i
    obtain ⟨d1, d2⟩ := fst i hi
    rcases Nat.lt_trichotomy (firstOf S i) (firstOf S k) with hlt | e | hgt
    · have := a2 _ hlt
      rw [ht _ i k (by omega) hi hk d2 h] at this
      cases this
    · exact e
    · have := c2 _ hgt
      rw [ht _ k i (by omega) hk hi b2 (hs i k hi hk h)] at this
      cases this
  have val : ∀ i, i < n → cls (numL S n) i = (nbTo S (firstOf S i)).2 := fun i hi => by
    rw [numL_at S hi]
    split
    · rename_i hlt
      rw [numL_at S (i := firstOf S i) (by omega), fst_idem i hi, if_neg (by omega)]
    · have : firstOf S i = i := by have := (fst i hi).1; omega
      rw [this]
  have mono : ∀ d k, k + d ≤ n → firstOf S k = k → 0 < d → (nbTo S k).2 < (nbTo S (k + d)).2 := fun d => by
    induction d with
    | zero => intro k _ _ h; omega
    | succ d ih =>
      intro k hk hf _
      have step : ∀ m, (nbTo S m).2 ≤ (nbTo S (m + 1)).2 := fun m => by rw [nbTo]; split <;> simp only [] <;> omega
      rcases Nat.eq_zero_or_pos d with rfl | hd
      · rw [nbTo, if_neg (by omega)]
        omega
      · have := ih k (by omega) hf hd
        have := step (k + d)
        rw [show k + (d + 1) = k + d + 1 by omega]
        omega
  intro i k hi hk
  rw [val i hi, val k hk]
  constructor
  · intro e
    have e2 : firstOf S i = firstOf S k := by
      have f1 := (fst i hi).1
      have f2 := (fst k hk).1
      rcases Nat.lt_trichotomy (firstOf S i) (firstOf S k) with hlt | e' | hgt
      · have := mono (firstOf S k - firstOf S i) (firstOf S i) (by omega) (fst_idem i hi) (by omega)
        rw [show firstOf S i + (firstOf S k - firstOf S i) = firstOf S k by omega] at this
        omega
      · exact e'
      · have := mono (firstOf S i - firstOf S k) (firstOf S k) (by omega) (fst_idem k hk) (by omega)
        rw [show firstOf S k + (firstOf S i - firstOf S k) = firstOf S i by omega] at this
        omega
    have g1 := (fst i hi).2
    have g2 := (fst k hk).2
    rw [e2] at g1
    exact ht i (firstOf S k) k hi (by have := (fst k hk).1; omega) hk (hs _ _ (by have := (fst k hk).1; omega) hi g1) g2
  · intro h
    rw [same i k hi hk h]
/-- canonical classes, as far as k -/
def CanTo (cl : List Int) : Nat → Option Int
  | 0 => some 0
  | k + 1 => match CanTo cl k with
    | none => none
    | some nx => if 0 ≤ cls cl k ∧ cls cl k ≤ nx then some (if cls cl k = nx then nx + 1 else nx) else none
def IsCan (cl : List Int) (n : Nat) : Prop := cl.length = n ∧ (CanTo cl n).isSome
theorem canTo_spec {cl : List Int} : ∀ {k : Nat} {nx : Int}, CanTo cl k = some nx → 0 ≤ nx ∧ nx ≤ k ∧ (∀ i, i < k → 0 ≤ cls cl i ∧ cls cl i < nx) ∧ (∀ v : Int, 0 ≤ v → v < nx → ∃ i, i < k ∧ cls cl i = v)
  | 0, nx, h => by
    simp only [CanTo, Option.some.injEq] at h
    subst h
    exact ⟨Int.le_refl _, Int.le_refl _, fun i hi => by omega, fun v h1 h2 => by omega⟩
  | k + 1, nx, h => by
    unfold CanTo at h
    split at h
    · cases h
    · rename_i nx' h'
      obtain ⟨h1, h2, h3, h4⟩ := canTo_spec h'
      split at h
      · rename_i hc
        simp only [Option.some.injEq] at h
        subst h
        refine ⟨by split <;> omega, by split <;> omega, fun i hi => ?_, fun v v1 v2 => ?_⟩
        · by_cases e : i = k
          · subst e; split <;> omega
          · have := h3 i (by omega)
            split <;> omega
        · by_cases e : v < nx'
          · obtain ⟨i, hi, e⟩ := h4 v v1 e
            exact ⟨i, by omega, e⟩
          · split at v2
            · rename_i e2
              exact ⟨k, by omega, by omega⟩
            · omega
      · cases h
theorem canTo_le {cl : List Int} {n : Nat} (h : (CanTo cl n).isSome) : ∀ k, k ≤ n → (CanTo cl k).isSome := by
  induction n with
  | zero => intro k hk; obtain rfl : k = 0 := by omega
            rfl
  | succ n ih =>
    intro k hk
    by_cases e : k = n + 1
    · subst e; exact h
    · refine ih ?_ k (by omega)
      unfold CanTo at h
      split at h
      · cases h
      · rename_i h'; rw [h']; rfl
/-- canonical numbers of their own classes -/
theorem num_can {cl : List Int} {n : Nat} (h : IsCan cl n) : numL (fun k i => decide (cls cl k = cls cl i)) n = cl := by
  have key : ∀ k, k ≤ n → ∃ nx, CanTo cl k = some nx ∧ (nbTo (fun k i => decide (cls cl k = cls cl i)) k) = (cl.take k, nx) := fun k => by
    induction k with
    | zero => intro _; exact ⟨0, rfl, rfl⟩
    | succ k ih =>
      intro hk
      obtain ⟨nx, h1, h2⟩ := ih (by omega)
      obtain ⟨nx', h3⟩ := Option.isSome_iff_exists.1 (canTo_le h.2 (k + 1) hk)
      refine ⟨nx', h3, ?_⟩
      obtain ⟨g1, g2, g3, g4⟩ := canTo_spec h1
      have hl : k < cl.length := by rw [h.1]; omega
      have hck : cl[k]? = some (cls cl k) := by unfold cls; rw [List.getD_eq_getElem?_getD, List.getElem?_eq_getElem hl]; rfl
      unfold CanTo at h3
      rw [h1] at h3
      simp only [] at h3
      split at h3
      · rename_i hc
        simp only [Option.some.injEq] at h3
        rw [nbTo, h2, List.take_add_one, hck]
        obtain ⟨f1, f2, f3⟩ := firstOf_spec (fun k i => decide (cls cl k = cls cl i)) k
        by_cases e : cls cl k = nx
        · rw [if_pos e] at h3
          subst h3
          have : ¬ firstOf (fun k i => decide (cls cl k = cls cl i)) k < k := fun hlt => by
            have h5 := f3 hlt
            simp only [decide_eq_true_eq] at h5
            have := (g3 _ hlt).2
            omega
          rw [if_neg this, e]
          rfl
        · rw [if_neg e] at h3
          subst h3
          obtain ⟨i, hi, e2⟩ := g4 (cls cl k) hc.1 (by omega)
          have hlt : firstOf (fun k i => decide (cls cl k = cls cl i)) k < k := Classical.byContradiction fun hn => by
            have := f2 i (by omega)
            simp only [decide_eq_false_iff_not] at this
            exact this e2
          rw [if_pos hlt]
          have h5 := f3 hlt
          simp only [decide_eq_true_eq] at h5
          have hg : (cl.take k).getD (firstOf (fun k i => decide (cls cl k = cls cl i)) k) 0 = cls cl k := by
            rw [← h5]
            show (cl.take k).getD _ 0 = cl.getD _ 0
            rw [List.getD_eq_getElem?_getD, List.getElem?_take, if_pos hlt, List.getD_eq_getElem?_getD]
          simp only [hg]
          rfl
      · cases h3
  obtain ⟨nx, _, e⟩ := key n (Nat.le_refl _)
  unfold numL
  rw [e]
  exact List.take_of_length_le (by rw [h.1]; exact Nat.le_refl _)
theorem num_isCan {S : Nat → Nat → Bool} (n : Nat) : ∀ m, m ≤ n → CanTo (numL S n) m = some (nbTo S m).2 := fun m => by
  induction m with
  | zero => intro _; rfl
  | succ m ih =>
    intro hm
    rw [CanTo, ih (by omega)]
    obtain ⟨g1, g2, g3⟩ := nbTo_next_nonneg S m
    have hc := numL_at S (n := n) (i := m) (by omega)
    have hp := nbTo_prefix S (m := m) (n := n) (by omega) (i := firstOf S m)
    simp only []
    rw [nbTo]
    split at hc
    · rename_i hlt
      rw [hp hlt] at hc
      have hmem : cls (numL S m) (firstOf S m) ∈ (nbTo S m).1 := by
        have hlen := numL_length S m
        unfold numL at hlen ⊢
        unfold cls
        rw [List.getD_eq_getElem?_getD, List.getElem?_eq_getElem (by omega)]
        exact List.getElem_mem _
      have := g3 _ hmem
      rw [hc, if_pos (by omega), if_neg (by omega), if_pos hlt]
    · rename_i hlt
      rw [hc, if_pos (by omega), if_pos rfl, if_neg hlt]
theorem numL_can (S : Nat → Nat → Bool) (n : Nat) : IsCan (numL S n) n := ⟨numL_length S n, by rw [num_isCan n n (Nat.le_refl _)]; rfl⟩
/-! Numbers of classes as they lie in memory. -/
theorem bwc {w wr : World} (hb : Below w.heap.size w wr) {p : Addr} {v : Value} (h : w.cell? p = some v) : ∀ x : BW wr, x.1.cell? p = some v := fun x => bcell (btrans hb x.2) h
theorem cls_get {cl : List Int} {i : Nat} (h : i < cl.length) : cl[i]? = some (cls cl i) := by
  unfold cls
  rw [List.getD_eq_getElem?_getD, List.getElem?_eq_getElem h]
  rfl
theorem SeeInts.cls {w : World} {A : Option Addr} {cl : List Int} (h : SeeInts w A cl) (h0 : 0 < cl.length) : ∃ b o, A = some ⟨b, o, none⟩ ∧ ∀ i, i < cl.length → w.cell? ⟨b, o + i, none⟩ = some (.int .i64 (cls cl i)) := by
  obtain ⟨b, o, e, g⟩ := h (List.length_pos_iff.1 h0)
  exact ⟨b, o, e, fun i hi => g i _ (cls_get hi)⟩
/-! How many classes there are: 'many'; the first place of a number. -/
theorem can_lt {cl : List Int} {n : Nat} (h : IsCan cl n) {i : Nat} (hi : i < n) : 0 ≤ cls cl i ∧ cls cl i < n := by
  have h1 := num_can h
  have h2 := nbTo_next_nonneg (fun k i => decide (cls cl k = cls cl i)) n
  have h3 : cls cl i ∈ cl := List.mem_of_getElem? (cls_get (by rw [h.1]; exact hi))
  have h4 : cl = (nbTo (fun k i => decide (cls cl k = cls cl i)) n).1 := h1.symm
  have h5 := h2.2.2 (cls cl i) (by rw [← h4]; exact h3)
  omega
/-- the greatest of the first k numbers, -1 of none -/
def Mx (cl : List Int) (k : Nat) (m : Int) : Prop := (k = 0 ∧ m = -1) ∨ (0 < k ∧ (∀ i, i < k → cls cl i ≤ m) ∧ ∃ i, i < k ∧ cls cl i = m)
theorem Mx.zero (cl : List Int) : Mx cl 0 (-1) := .inl ⟨rfl, rfl⟩
theorem Mx.one (cl : List Int) : Mx cl 1 (cls cl 0) := .inr ⟨by decide, fun i hi => (by
  obtain rfl : i = 0 := by omega
  exact Int.le_refl _), 0, by decide, rfl⟩
theorem Mx.keep {cl : List Int} {k : Nat} {m : Int} (h : Mx cl k m) (hk : 0 < k) (hx : cls cl k ≤ m) : Mx cl (k + 1) m := by
  rcases h with ⟨h, _⟩ | ⟨_, h1, i, h2, h3⟩
  · omega
  · exact .inr ⟨by omega, fun j hj => by
      rcases Nat.lt_or_ge j k with h | h
      · exact h1 j h
      · obtain rfl : j = k := by omega
        exact hx, i, by omega, h3⟩
theorem Mx.up {cl : List Int} {k : Nat} {m : Int} (h : Mx cl k m) (hx : m < cls cl k) : Mx cl (k + 1) (cls cl k) :=
  .inr ⟨by omega, fun j hj => by
    rcases Nat.lt_or_ge j k with h' | h'
    · rcases h with ⟨h, _⟩ | ⟨_, h1, _⟩
      · omega
      · have := h1 j h'; omega
    · obtain rfl : j = k := by omega
      exact Int.le_refl _, k, by omega, rfl⟩
theorem Mx.fin {cl : List Int} {N : Nat} {nx m : Int} (hc : CanTo cl N = some nx) (h0 : 0 < N) (h : Mx cl N m) : m + 1 = nx ∧ 1 ≤ nx ∧ nx ≤ N := by
  obtain ⟨h1, h2, h3, h4⟩ := canTo_spec hc
  rcases h with ⟨h, _⟩ | ⟨_, h5, i, h6, h7⟩
  · omega
  · have a := h3 i h6
    have b := h3 0 h0
    obtain ⟨j, hj, e⟩ := h4 (nx - 1) (by omega) (by omega)
    have := h5 j hj
    omega
theorem Mx.rng {cl : List Int} {N k : Nat} {m : Int} (hc : IsCan cl N) (hk : k ≤ N) (h : Mx cl k m) : -1 ≤ m ∧ m < N := by
  rcases h with ⟨h, e⟩ | ⟨_, _, i, h6, h7⟩
  · omega
  · have := can_lt hc (i := i) (by omega)
    omega
set_option maxHeartbeats 2000000 in
theorem many_c (A : Option Addr) (c N : Nat) (cl : List Int) (nx : Int) (w : World) (h : SeeInts w A cl) (hc : IsCan cl N) (hx : CanTo cl N = some nx) (h0 : 0 < N) (hN : N ≤ 300) :
    Calls Tryz.prog 88 #[.slice A N c] w fun e w' => e = .returned (.int .i64 nx) ∧ Below w.heap.size w w' := by
  have hmax : ∃ m, m + 1 = nx ∧ -1 ≤ m ∧ m ≤ 300 ∧ Calls Tryz.prog 118 #[.slice A N c] w fun e w' => e = .returned (.int .i64 m) ∧ Below w.heap.size w w' := by
    obtain ⟨b, o, rfl, g⟩ := h.cls (by rw [hc.1]; exact h0)
    rw [hc.1] at g
    refine ⟨nx - 1, by omega, by have := (canTo_spec hx).1; omega, by have := (canTo_spec hx).2.1; omega, ?_⟩
    have g0 := g 0 h0
    rw [Nat.add_zero] at g0
    have G := Lib.hid g
    have HC := Lib.hid hc
    have HX := Lib.hid hx
    have p0 : (0 : Int) < N := by omega
    have p1 : ¬ (N : Int) < 1 := by omega
    have M1 := Lib.hid (Mx.one cl)
    have HR := Lib.hid (show ∀ m, Mx cl N m → m = nx - 1 from fun m hm => by have := (Mx.fin hx h0 hm).1; omega)
    generalize hx0 : cls cl 0 = x0 at *
    clear hx0 g h hc hx
    go_enter Tryz.func118, Tryz.ntmps118
    go_wp2
    go_loopw [4, 3] (fun iv mv wr => ∃ (k : Nat) (m : Int), 0 < k ∧ k ≤ N ∧ iv = .int .i64 k ∧ mv = .int .i64 m ∧ Hid (Mx cl k m) ∧ Below w.heap.size w wr) (fun iv _ _ => N - (intOf iv).toNat)
    case atStart => exact ⟨1, _, by decide, h0, rfl, rfl, M1, Below.refl _ _⟩
    case round =>
      obtain ⟨k, m, hk0, hk, rfl, rfl, hM, hb⟩ := hrel
      have l0 : (0 : Int) ≤ k := by omega
      by_cases hlt : k < N
      · have l1 : (k : Int) < N := by omega
        have qk := bcell hb (G.out k hlt)
        have hrg := hM.out.rng HC.out hk
        have hck := can_lt HC.out hlt
        by_cases e : m < cls cl k
        · have HN := Lib.hid (hM.out.up e)
          generalize cls cl k = x at *
          go_wp2
          go_roundw
          case rel => exact ⟨k + 1, x, by omega, by omega, by go_num, congrArg (Value.int IntKind.i64) (by omega), HN, hb⟩
          case measure => simp [intOf]; omega
        · have HN := Lib.hid (hM.out.keep hk0 (by omega))
          generalize cls cl k = x at *
          go_wp2
          go_roundw
          case rel => exact ⟨k + 1, m, by omega, by omega, by go_num, congrArg (Value.int IntKind.i64) (by omega), HN, hb⟩
          case measure => simp [intOf]; omega
      · have ek : k = N := by omega
        subst ek
        have HE := Lib.hid (HR.out m hM.out)
        have nlt : ¬ (k : Int) < k := by omega
        clear hlt
        go_wp2
        go_returns
        exact ⟨ret_int HE.out, hb⟩
  obtain ⟨m, h1, h2, h3, h4⟩ := hmax
  have HM := Lib.hid h4
  have H1 := Lib.hid h1
  clear h4 h h1
  go_enter Tryz.func88, Tryz.ntmps88
  go_wp2_with fail
  refine HM.out.mono ?_
  rintro e w2 ⟨rfl, hb2⟩
  go_wp2
  go_returns
  exact ⟨ret_int H1.out, hb2⟩
/-- the first place of a number -/
def fxOf (cl : List Int) (v : Nat) : Nat := (fidx (fun x => decide ((v : Int) = x)) cl).toNat
theorem fx_spec {cl : List Int} {N : Nat} {nx : Int} (hl : cl.length = N) (hx : CanTo cl N = some nx) {v : Nat} (hv : (v : Int) < nx) : fidx (fun x => decide ((v : Int) = x)) cl = (fxOf cl v : Int) ∧ fxOf cl v < N ∧ cls cl (fxOf cl v) = (v : Int) := by
  obtain ⟨i, hi, e⟩ := (canTo_spec hx).2.2.2 (v : Int) (by omega) hv
  have key : ∃ j : Nat, fidx (fun x => decide ((v : Int) = x)) cl = (j : Int) ∧ j < N ∧ cls cl j = (v : Int) := by
    unfold fidx
    cases hf : cl.findIdx? (fun x => decide ((v : Int) = x)) with
    | none =>
      have := List.findIdx?_eq_none_iff.1 hf (cls cl i) (List.mem_of_getElem? (cls_get (by omega)))
      rw [e] at this
      simp at this
    | some j =>
      obtain ⟨h1, h2, _⟩ := List.findIdx?_eq_some_iff_getElem.1 hf
      refine ⟨j, rfl, by omega, ?_⟩
      have h3 := cls_get (cl := cl) (i := j) h1
      rw [List.getElem?_eq_getElem h1] at h3
      rw [Option.some.inj h3] at h2
      exact (of_decide_eq_true h2).symm
  obtain ⟨j, h1, h2, h3⟩ := key
  have e' : fxOf cl v = j := by unfold fxOf; rw [h1]; rfl
  rw [e']
  exact ⟨h1, h2, h3⟩
def qN (cl : List Int) (N : Nat) : Nat := ((CanTo cl N).getD 0).toNat
theorem qN_spec {cl : List Int} {N : Nat} (h : IsCan cl N) (h0 : 0 < N) : CanTo cl N = some (qN cl N : Int) ∧ qN cl N ≤ N ∧ 0 < qN cl N := by
  cases hx : CanTo cl N with
  | none => have := h.2; rw [hx] at this; cases this
  | some nx =>
    have hs := canTo_spec hx
    have h3 := hs.2.2.1 0 h0
    have e : qN cl N = nx.toNat := by unfold qN; rw [hx]; rfl
    rw [e]
    exact ⟨congrArg some (by omega), by omega, by omega⟩
theorem Mx.keep0 {cl : List Int} {N k : Nat} {m : Int} (hc : IsCan cl N) (hk : k < N) (h : Mx cl k m) (hx : ¬ m < cls cl k) : Mx cl (k + 1) m := by
  rcases Nat.eq_zero_or_pos k with rfl | h0
  · rcases h with ⟨_, e⟩ | ⟨h, _⟩
    · have := can_lt hc hk; omega
    · omega
  · exact h.keep h0 (by omega)
set_option maxHeartbeats 2000000 in
theorem l06Number_c (A : Option Addr) (c N : Nat) (cl : List Int) (nx : Int) (w : World) (h : SeeInts w A cl) (hc : IsCan cl N) (hx : CanTo cl N = some nx) (h0 : 0 < N) (hN : N ≤ 300) :
    Calls Tryz.prog 114 #[.slice A N c] w fun e w' => e = .returned (.int .i64 nx) ∧ Below w.heap.size w w' := by
  obtain ⟨b, o, rfl, g⟩ := h.cls (by rw [hc.1]; exact h0)
  rw [hc.1] at g
  have G := Lib.hid g
  have HC := Lib.hid hc
  have HR := Lib.hid (show ∀ m, Mx cl N m → m + 1 = nx from fun m hm => (Mx.fin hx h0 hm).1)
  have M0 := Lib.hid (Mx.zero cl)
  clear g h hc hx
  go_enter Tryz.func114, Tryz.ntmps114
  go_wp2
  go_loopw [4, 3] (fun iv mv wr => ∃ (k : Nat) (m : Int), k ≤ N ∧ iv = .int .i64 k ∧ mv = .int .i64 m ∧ Hid (Mx cl k m) ∧ Below w.heap.size w wr) (fun iv _ _ => N - (intOf iv).toNat)
  case atStart => exact ⟨0, -1, Nat.zero_le _, rfl, rfl, M0, Below.refl _ _⟩
  case round =>
    obtain ⟨k, m, hk, rfl, rfl, hM, hb⟩ := hrel
    have l0 : (0 : Int) ≤ k := by omega
    have hrg := hM.out.rng HC.out hk
    by_cases hlt : k < N
    · have l1 : (k : Int) < N := by omega
      have qk := bcell hb (G.out k hlt)
      have hck := can_lt HC.out hlt
      by_cases e : m < cls cl k
      · have HN := Lib.hid (hM.out.up e)
        generalize cls cl k = x at *
        go_wp2
        go_roundw
        case rel => exact ⟨k + 1, x, by omega, by go_num, congrArg (Value.int IntKind.i64) (by omega), HN, hb⟩
        case measure => simp [intOf]; omega
      · have HN := Lib.hid (hM.out.keep0 HC.out hlt e)
        generalize cls cl k = x at *
        go_wp2
        go_roundw
        case rel => exact ⟨k + 1, m, by omega, by go_num, congrArg (Value.int IntKind.i64) (by omega), HN, hb⟩
        case measure => simp [intOf]; omega
    · have ek : k = N := by omega
      subst ek
      have HE := Lib.hid (HR.out m hM.out)
      have nlt : ¬ (k : Int) < k := by omega
      clear hlt
      go_wp2
      go_returns
      exact ⟨ret_int HE.out, hb⟩
end Go.Proofs.YtjepmbjneccagaaGreat
