/- The plain side: maps, lists of maps, words, acceptors, with no program in sight. No condition. -/
namespace Go.Proofs.Ytbodaefdaagelaa
set_option linter.unusedSimpArgs false
set_option linter.unusedVariables false
set_option linter.unusedSectionVars false
/-! ### Maps: six whole numbers -/
structure Mp where
  p : Int
  a : Int
  b : Int
  c : Int
  d : Int
  e : Int
deriving DecidableEq
def Mp.z : Mp := ⟨0, 0, 0, 0, 0, 0⟩
instance : Inhabited Mp := ⟨Mp.z⟩
/-- the image of a point -/
def Mp.to (m : Mp) : Nat → Int
  | 0 => m.a
  | 1 => m.b
  | 2 => m.c
  | 3 => m.d
  | 4 => m.e
  | _ => 0

/-- a map: 1 to 5 points, images of these in range, the others 0 -/
def IsMp (m : Mp) : Prop := 1 ≤ m.p ∧ m.p ≤ 5 ∧ ∀ i : Nat, i < 5 → ((i : Int) < m.p → 0 ≤ m.to i ∧ m.to i ≤ m.p - 1) ∧ (m.p ≤ (i : Int) → m.to i = 0)
instance (m : Mp) : Decidable (IsMp m) := by unfold IsMp; infer_instance
/-- the code of a list of maps, with maps of as many points beside -/
def lcode (ms ms' : List Mp) : Int := if ∀ m ∈ ms ++ ms', IsMp m then (if 1 ≤ ms.length ∧ ms.length ≤ 6 then (if ∀ m ∈ ms ++ ms', m.p = (ms.headD Mp.z).p then 0 else 2) else 2) else 1
theorem lcode_bad {ms ms' : List Mp} (h : ¬ ∀ m ∈ ms ++ ms', IsMp m) : lcode ms ms' = 1 := by unfold lcode; rw [if_neg h]
theorem lcode_len {ms ms' : List Mp} (h : ∀ m ∈ ms ++ ms', IsMp m) (h2 : ¬ (1 ≤ ms.length ∧ ms.length ≤ 6)) : lcode ms ms' = 2 := by unfold lcode; rw [if_pos h, if_neg h2]
theorem lcode_pts {ms ms' : List Mp} (h : ∀ m ∈ ms ++ ms', IsMp m) (h2 : 1 ≤ ms.length ∧ ms.length ≤ 6) (h3 : ¬ ∀ m ∈ ms ++ ms', m.p = (ms.headD Mp.z).p) : lcode ms ms' = 2 := by unfold lcode; rw [if_pos h, if_pos h2, if_neg h3]
theorem lcode_ok {ms ms' : List Mp} (h : ∀ m ∈ ms ++ ms', IsMp m) (h2 : 1 ≤ ms.length ∧ ms.length ≤ 6) (h3 : ∀ m ∈ ms ++ ms', m.p = (ms.headD Mp.z).p) : lcode ms ms' = 0 := by unfold lcode; rw [if_pos h, if_pos h2, if_pos h3]
/-- what holds of the elements below k -/
def AllTo {α : Type} (P : α → Prop) (xs : List α) (k : Nat) : Prop := ∀ j x, j < k → xs[j]? = some x → P x
theorem AllTo.zero {α : Type} (P : α → Prop) (xs : List α) : AllTo P xs 0 := fun _ _ h => absurd h (Nat.not_lt_zero _)
theorem AllTo.snoc {α : Type} {P : α → Prop} {xs : List α} {k : Nat} (h : AllTo P xs k) {x : α} (hk : xs[k]? = some x) (hp : P x) : AllTo P xs (k + 1) := fun j y hj hy => by
  rcases Nat.lt_succ_iff_lt_or_eq.1 hj with hj | rfl
  · exact h j y hj hy
  · rw [hk] at hy; obtain rfl := Option.some.inj hy; exact hp
theorem AllTo.all {α : Type} {P : α → Prop} {xs : List α} (h : AllTo P xs xs.length) : ∀ x ∈ xs, P x := fun x hx => by
  obtain ⟨j, hj, rfl⟩ := List.mem_iff_getElem.1 hx
  exact h j _ hj (List.getElem?_eq_getElem hj)
theorem AllTo.not {α : Type} {P : α → Prop} {xs : List α} {k : Nat} {x : α} (hk : xs[k]? = some x) (hp : ¬ P x) : ¬ ∀ x ∈ xs, P x := fun h => hp (h x (List.mem_of_getElem? hk))
/-- ascending numbers from 0 to n - 1, up to place k -/
def SetTo (xs : List Int) (n : Int) (k : Nat) : Prop := ∀ j x, j < k → xs[j]? = some x → (0 ≤ x ∧ x ≤ n - 1) ∧ ∀ y, 0 < j → xs[j - 1]? = some y → y < x
def IsSet (xs : List Int) (n : Int) : Prop := SetTo xs n xs.length
open Classical in
noncomputable def isSetB (xs : List Int) (n : Int) : Bool := decide (IsSet xs n)
theorem isSetB_true {xs : List Int} {n : Int} (h : IsSet xs n) : isSetB xs n = true := by simp [isSetB, h]
theorem isSetB_false {xs : List Int} {n : Int} (h : ¬ IsSet xs n) : isSetB xs n = false := by simp [isSetB, h]
theorem SetTo.zero (xs : List Int) (n : Int) : SetTo xs n 0 := fun _ _ h => absurd h (Nat.not_lt_zero _)
theorem SetTo.snoc {xs : List Int} {n : Int} {k : Nat} (h : SetTo xs n k) {x : Int} (hk : xs[k]? = some x) (h1 : 0 ≤ x ∧ x ≤ n - 1) (h2 : ∀ y, 0 < k → xs[k - 1]? = some y → y < x) : SetTo xs n (k + 1) := fun j y hj hy => by
  rcases Nat.lt_succ_iff_lt_or_eq.1 hj with hj | rfl
  · exact h j y hj hy
  · rw [hk] at hy; obtain rfl := Option.some.inj hy; exact ⟨h1, h2⟩
theorem SetTo.range {xs : List Int} {n : Int} {k : Nat} (h : SetTo xs n xs.length) {x : Int} (hk : xs[k]? = some x) : 0 ≤ x ∧ x ≤ n - 1 := (h k x (List.getElem?_eq_some_iff.1 hk).1 hk).1
theorem SetTo.step {xs : List Int} {n : Int} {k : Nat} (h : SetTo xs n xs.length) {x y : Int} (hk : xs[k]? = some x) (h0 : 0 < k) (hy : xs[k - 1]? = some y) : y < x := (h k x (List.getElem?_eq_some_iff.1 hk).1 hk).2 y h0 hy
/-! ### Words, products -/
def Mp.at (m : Mp) (p : Int) : Int := m.to p.toNat
def Mp.set (m : Mp) (i : Nat) (v : Int) : Mp :=
  match i with
  | 0 => { m with a := v }
  | 1 => { m with b := v }
  | 2 => { m with c := v }
  | 3 => { m with d := v }
  | 4 => { m with e := v }
  | _ => m
theorem Mp.set_p (m : Mp) (i : Nat) (v : Int) : (m.set i v).p = m.p := by unfold Mp.set; split <;> rfl
theorem Mp.set_to (m : Mp) {i : Nat} (h : i < 5) (v : Int) (j : Nat) : (m.set i v).to j = if j = i then v else m.to j := by
  rcases (by omega : i = 0 ∨ i = 1 ∨ i = 2 ∨ i = 3 ∨ i = 4) with rfl | rfl | rfl | rfl | rfl <;>
    (rcases (by omega : j = 0 ∨ j = 1 ∨ j = 2 ∨ j = 3 ∨ j = 4 ∨ 5 ≤ j) with rfl | rfl | rfl | rfl | rfl | h5 <;> try rfl) <;>
    (obtain ⟨k, rfl⟩ : ∃ k, j = k + 5 := ⟨j - 5, by omega⟩; rw [if_neg (by omega)]; rfl)
theorem Mp.ext' {m n : Mp} (hp : m.p = n.p) (h : ∀ i, i < 5 → m.to i = n.to i) : m = n := by
  obtain ⟨p, a, b, c, d, e⟩ := m
  obtain ⟨p', a', b', c', d', e'⟩ := n
  have h0 := h 0 (by decide)
  have h1 := h 1 (by decide)
  have h2 := h 2 (by decide)
  have h3 := h 3 (by decide)
  have h4 := h 4 (by decide)
  simp only [Mp.to] at h0 h1 h2 h3 h4
  simp only at hp
  subst hp h0 h1 h2 h3 h4
  rfl
/-- a map by its points and images -/
def mkM (p : Int) (f : Nat → Int) : Mp := ⟨p, f 0, f 1, f 2, f 3, f 4⟩
theorem mkM_to (p : Int) (f : Nat → Int) {i : Nat} (h : i < 5) : (mkM p f).to i = f i := by
  rcases (by omega : i = 0 ∨ i = 1 ∨ i = 2 ∨ i = 3 ∨ i = 4) with rfl | rfl | rfl | rfl | rfl <;> rfl
/-- the identity of n points, filled up to k -/
def idTo (n : Int) (k : Nat) : Mp := mkM n fun i => if i < k then (i : Int) else 0
def idM (n : Int) : Mp := idTo n n.toNat
theorem idTo_zero (n : Int) : idTo n 0 = ⟨n, 0, 0, 0, 0, 0⟩ := rfl
theorem idTo_succ (n : Int) {k : Nat} (h : k < 5) : (idTo n k).set k (k : Int) = idTo n (k + 1) := Mp.ext' (Mp.set_p _ _ _) fun i hi => by
  rw [Mp.set_to _ h]
  unfold idTo
  rw [mkM_to _ _ hi, mkM_to _ _ hi]
  by_cases e : i = k
  · subst e; rw [if_pos rfl, if_pos (by omega)]
  · rw [if_neg e]
    by_cases hlt : i < k
    · rw [if_pos hlt, if_pos (by omega)]
    · rw [if_neg hlt, if_neg (by omega)]
/-- the product f g, made up to k -/
def mulTo (f g : Mp) (k : Nat) : Mp := mkM f.p fun i => if i < k then g.at (f.to i) else f.to i
def mulM (f g : Mp) : Mp := mulTo f g f.p.toNat
theorem mulTo_zero (f g : Mp) : mulTo f g 0 = f := Mp.ext' rfl fun i hi => by
  unfold mulTo
  rw [mkM_to _ _ hi, if_neg (by omega)]
theorem mulTo_to (f g : Mp) {k : Nat} (h : k < 5) : (mulTo f g k).to k = f.to k := by
  unfold mulTo
  rw [mkM_to _ _ h, if_neg (by omega)]
theorem mulTo_p (f g : Mp) (k : Nat) : (mulTo f g k).p = f.p := rfl
theorem mulTo_succ (f g : Mp) {k : Nat} (h : k < 5) : (mulTo f g k).set k (g.at (f.to k)) = mulTo f g (k + 1) := Mp.ext' (Mp.set_p _ _ _) fun i hi => by
  rw [Mp.set_to _ h]
  unfold mulTo
  rw [mkM_to _ _ hi, mkM_to _ _ hi]
  by_cases e : i = k
  · subst e; rw [if_pos rfl, if_pos (by omega)]
  · rw [if_neg e]
    by_cases hlt : i < k
    · rw [if_pos hlt, if_pos (by omega)]
    · rw [if_neg hlt, if_neg (by omega)]
/-- a map of n points -/
def MpN (m : Mp) (n : Int) : Prop := IsMp m ∧ m.p = n
theorem MpN.at {m : Mp} {n p : Int} (h : MpN m n) (h0 : 0 ≤ p) (h1 : p < n) : 0 ≤ m.at p ∧ m.at p < n := by
  obtain ⟨⟨b1, b2, h3⟩, rfl⟩ := h
  have := (h3 p.toNat (by omega)).1 (by omega)
  unfold Mp.at
  omega
theorem mulM_MpN {f g : Mp} {n : Int} (hf : MpN f n) (hg : MpN g n) : MpN (mulM f g) n := by
  obtain ⟨⟨b1, b2, h3⟩, rfl⟩ := hf
  refine ⟨⟨b1, b2, fun i hi => ?_⟩, rfl⟩
  unfold mulM mulTo
  rw [mkM_to _ _ hi]
  have h4 := h3 i hi
  show ((i : Int) < f.p → _) ∧ (f.p ≤ (i : Int) → _)
  constructor
  · intro hlt
    rw [if_pos (by omega)]
    have := hg.at (h4.1 hlt).1 (by have := (h4.1 hlt).2; omega)
    show _ ∧ _ ≤ f.p - 1
    omega
  · intro hge
    rw [if_neg (by omega)]
    exact h4.2 hge
theorem mulM_at {f g : Mp} {n p : Int} (hf : MpN f n) (h0 : 0 ≤ p) (h1 : p < n) : (mulM f g).at p = g.at (f.at p) := by
  obtain ⟨⟨b1, b2, h3⟩, rfl⟩ := hf
  show (mulM f g).to p.toNat = g.at (f.to p.toNat)
  unfold mulM mulTo
  rw [mkM_to _ _ (by omega), if_pos (by omega)]
theorem idM_MpN {n : Int} (h1 : 1 ≤ n) (h2 : n ≤ 5) : MpN (idM n) n := by
  refine ⟨⟨h1, h2, fun i hi => ?_⟩, rfl⟩
  unfold idM idTo
  rw [mkM_to _ _ hi]
  show ((i : Int) < n → _ ∧ _ ≤ n - 1) ∧ (n ≤ (i : Int) → _)
  constructor
  · intro hlt; rw [if_pos (by omega)]; omega
  · intro hge; rw [if_neg (by omega)]
theorem idM_at {n p : Int} (h2 : n ≤ 5) (h0 : 0 ≤ p) (h1 : p < n) : (idM n).at p = p := by
  show (idM n).to p.toNat = p
  unfold idM idTo
  rw [mkM_to _ _ (by omega), if_pos (by omega)]
  omega
/-- the map of a list by its number -/
def nth (ms : List Mp) (k : Int) : Mp := ms.getD k.toNat Mp.z
/-- where a word leads a point -/
def runW (ms : List Mp) (word : List Int) (p : Int) : Int := word.foldl (fun p k => (nth ms k).at p) p
/-- the map of a word -/
def mapW (ms : List Mp) (word : List Int) : Mp := word.foldl (fun f k => mulM f (nth ms k)) (idM (ms.headD Mp.z).p)
/-- a right list of maps of n points -/
structure RightL (ms : List Mp) (n : Int) : Prop where
  pos : 0 < ms.length
  six : ms.length ≤ 6
  all : ∀ m ∈ ms, MpN m n
theorem RightL.nth {ms : List Mp} {n k : Int} (h : RightL ms n) (h0 : 0 ≤ k) (h1 : k < ms.length) : MpN (nth ms k) n := by
  have hk : k.toNat < ms.length := by omega
  show MpN (ms.getD k.toNat Mp.z) n
  rw [List.getD_eq_getElem?_getD, List.getElem?_eq_getElem hk]
  exact h.all _ (List.getElem_mem hk)
theorem RightL.head {ms : List Mp} {n : Int} (h : RightL ms n) : (ms.headD Mp.z).p = n ∧ MpN (ms.headD Mp.z) n := by
  cases ms with
  | nil => exact absurd h.pos (by simp)
  | cons m ms => exact ⟨(h.all m (by simp)).2, h.all m (by simp)⟩
theorem RightL.bounds {ms : List Mp} {n : Int} (h : RightL ms n) : 1 ≤ n ∧ n ≤ 5 := by
  obtain ⟨e, hm⟩ := h.head
  exact ⟨by have := hm.1.1; omega, by have := hm.1.2.1; omega⟩
/-- numbers of maps of a list of l maps -/
def InL (l : Nat) (word : List Int) : Prop := ∀ k ∈ word, 0 ≤ k ∧ k ≤ (l : Int) - 1
instance (l : Nat) (word : List Int) : Decidable (InL l word) := by unfold InL; infer_instance
def isWordB (l : Nat) (word : List Int) (most : Int) : Bool := decide ((word.length : Int) ≤ most ∧ InL l word)
theorem runW_lt {ms : List Mp} {n : Int} (h : RightL ms n) : ∀ (word : List Int) (p : Int), InL ms.length word → 0 ≤ p → p < n → 0 ≤ runW ms word p ∧ runW ms word p < n
  | [], p, _, h0, h1 => ⟨h0, h1⟩
  | k :: word, p, hw, h0, h1 => by
    have hk := hw k (by simp)
    have := (h.nth hk.1 (by omega)).at h0 h1
    exact runW_lt h word _ (fun j hj => hw j (by simp [hj])) this.1 this.2
theorem mapW_aux {ms : List Mp} {n : Int} (h : RightL ms n) : ∀ (word : List Int) (f : Mp), InL ms.length word → MpN f n → MpN (word.foldl (fun f k => mulM f (nth ms k)) f) n ∧ ∀ p, 0 ≤ p → p < n → (word.foldl (fun f k => mulM f (nth ms k)) f).at p = runW ms word (f.at p)
  | [], f, _, hf => ⟨hf, fun p _ _ => rfl⟩
  | k :: word, f, hw, hf => by
    have hk := hw k (by simp)
    have hm := h.nth hk.1 (by omega)
    obtain ⟨r1, r2⟩ := mapW_aux h word (mulM f (nth ms k)) (fun j hj => hw j (by simp [hj])) (mulM_MpN hf hm)
    refine ⟨r1, fun p h0 h1 => ?_⟩
    rw [List.foldl_cons, r2 p h0 h1, mulM_at hf h0 h1]
    rfl
theorem mapW_MpN {ms : List Mp} {n : Int} (h : RightL ms n) {word : List Int} (hw : InL ms.length word) : MpN (mapW ms word) n := by
  unfold mapW
  rw [h.head.1]
  exact (mapW_aux h word _ hw (idM_MpN h.bounds.1 h.bounds.2)).1
theorem mapW_at {ms : List Mp} {n : Int} (h : RightL ms n) {word : List Int} (hw : InL ms.length word) {p : Int} (h0 : 0 ≤ p) (h1 : p < n) : (mapW ms word).at p = runW ms word p := by
  unfold mapW
  rw [h.head.1, (mapW_aux h word _ hw (idM_MpN h.bounds.1 h.bounds.2)).2 p h0 h1, idM_at h.bounds.2 h0 h1]
end Go.Proofs.Ytbodaefdaagelaa
