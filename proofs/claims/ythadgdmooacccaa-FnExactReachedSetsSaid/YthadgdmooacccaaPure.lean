/- The plain side: maps, lists of maps, words, acceptors, with no program in sight. No condition. -/
namespace Go.Proofs.Ythadgdmooacccaa
set_option linter.unusedSimpArgs false
set_option linter.unusedVariables false
set_option linter.unusedSectionVars false
/-! ### Maps: six whole numbers -/
structure Mp where
  p : Int
  a : Int
  b : Int
  c : Int
  d : Int
  e : Int
deriving DecidableEq
def Mp.z : Mp := ⟨0, 0, 0, 0, 0, 0⟩
instance : Inhabited Mp := ⟨Mp.z⟩
/-- the image of a point -/
def Mp.to (m : Mp) : Nat → Int
  | 0 => m.a
  | 1 => m.b
  | 2 => m.c
  | 3 => m.d
  | 4 => m.e
  | _ => 0

/-- a map: 1 to 5 points, images of these in range, the others 0 -/
def IsMp (m : Mp) : Prop := 1 ≤ m.p ∧ m.p ≤ 5 ∧ ∀ i : Nat, i < 5 → ((i : Int) < m.p → 0 ≤ m.to i ∧ m.to i ≤ m.p - 1) ∧ (m.p ≤ (i : Int) → m.to i = 0)
instance (m : Mp) : Decidable (IsMp m) := by unfold IsMp; infer_instance
/-- the code of a list of maps, with maps of as many points beside -/
def lcode (ms ms' : List Mp) : Int := if ∀ m ∈ ms ++ ms', IsMp m then (if 1 ≤ ms.length ∧ ms.length ≤ 6 then (if ∀ m ∈ ms ++ ms', m.p = (ms.headD Mp.z).p then 0 else 2) else 2) else 1
theorem lcode_bad {ms ms' : List Mp} (h : ¬ ∀ m ∈ ms ++ ms', IsMp m) : lcode ms ms' = 1 := by unfold lcode; rw [if_neg h]
theorem lcode_len {ms ms' : List Mp} (h : ∀ m ∈ ms ++ ms', IsMp m) (h2 : ¬ (1 ≤ ms.length ∧ ms.length ≤ 6)) : lcode ms ms' = 2 := by unfold lcode; rw [if_pos h, if_neg h2]
theorem lcode_pts {ms ms' : List Mp} (h : ∀ m ∈ ms ++ ms', IsMp m) (h2 : 1 ≤ ms.length ∧ ms.length ≤ 6) (h3 : ¬ ∀ m ∈ ms ++ ms', m.p = (ms.headD Mp.z).p) : lcode ms ms' = 2 := by unfold lcode; rw [if_pos h, if_pos h2, if_neg h3]
theorem lcode_ok {ms ms' : List Mp} (h : ∀ m ∈ ms ++ ms', IsMp m) (h2 : 1 ≤ ms.length ∧ ms.length ≤ 6) (h3 : ∀ m ∈ ms ++ ms', m.p = (ms.headD Mp.z).p) : lcode ms ms' = 0 := by unfold lcode; rw [if_pos h, if_pos h2, if_pos h3]
/-- what holds of the elements below k -/
def AllTo {α : Type} (P : α → Prop) (xs : List α) (k : Nat) : Prop := ∀ j x, j < k → xs[j]? = some x → P x
theorem AllTo.zero {α : Type} (P : α → Prop) (xs : List α) : AllTo P xs 0 := fun _ _ h => absurd h (Nat.not_lt_zero _)
theorem AllTo.snoc {α : Type} {P : α → Prop} {xs : List α} {k : Nat} (h : AllTo P xs k) {x : α} (hk : xs[k]? = some x) (hp : P x) : AllTo P xs (k + 1) := fun j y hj hy => by
  rcases Nat.lt_succ_iff_lt_or_eq.1 hj with hj | rfl
  · exact h j y hj hy
  · rw [hk] at hy; obtain rfl := Option.some.inj hy; exact hp
theorem AllTo.all {α : Type} {P : α → Prop} {xs : List α} (h : AllTo P xs xs.length) : ∀ x ∈ xs, P x := fun x hx => by
  obtain ⟨j, hj, rfl⟩ := List.mem_iff_getElem.1 hx
  exact h j _ hj (List.getElem?_eq_getElem hj)
theorem AllTo.not {α : Type} {P : α → Prop} {xs : List α} {k : Nat} {x : α} (hk : xs[k]? = some x) (hp : ¬ P x) : ¬ ∀ x ∈ xs, P x := fun h => hp (h x (List.mem_of_getElem? hk))
/-- ascending numbers from 0 to n - 1, up to place k -/
def SetTo (xs : List Int) (n : Int) (k : Nat) : Prop := ∀ j x, j < k → xs[j]? = some x → (0 ≤ x ∧ x ≤ n - 1) ∧ ∀ y, 0 < j → xs[j - 1]? = some y → y < x
def IsSet (xs : List Int) (n : Int) : Prop := SetTo xs n xs.length
open Classical in
noncomputable def isSetB (xs : List Int) (n : Int) : Bool := decide (IsSet xs n)
theorem isSetB_true {xs : List Int} {n : Int} (h : IsSet xs n) : isSetB xs n = true := by simp [isSetB, h]
theorem isSetB_false {xs : List Int} {n : Int} (h : ¬ IsSet xs n) : isSetB xs n = false := by simp [isSetB, h]
theorem SetTo.zero (xs : List Int) (n : Int) : SetTo xs n 0 := fun _ _ h => absurd h (Nat.not_lt_zero _)
theorem SetTo.snoc {xs : List Int} {n : Int} {k : Nat} (h : SetTo xs n k) {x : Int} (hk : xs[k]? = some x) (h1 : 0 ≤ x ∧ x ≤ n - 1) (h2 : ∀ y, 0 < k → xs[k - 1]? = some y → y < x) : SetTo xs n (k + 1) := fun j y hj hy => by
  rcases Nat.lt_succ_iff_lt_or_eq.1 hj with hj | rfl
  · exact h j y hj hy
  · rw [hk] at hy; obtain rfl := Option.some.inj hy; exact ⟨h1, h2⟩
theorem SetTo.range {xs : List Int} {n : Int} {k : Nat} (h : SetTo xs n xs.length) {x : Int} (hk : xs[k]? = some x) : 0 ≤ x ∧ x ≤ n - 1 := (h k x (List.getElem?_eq_some_iff.1 hk).1 hk).1
theorem SetTo.step {xs : List Int} {n : Int} {k : Nat} (h : SetTo xs n xs.length) {x y : Int} (hk : xs[k]? = some x) (h0 : 0 < k) (hy : xs[k - 1]? = some y) : y < x := (h k x (List.getElem?_eq_some_iff.1 hk).1 hk).2 y h0 hy
/-! ### Words, products -/
def Mp.at (m : Mp) (p : Int) : Int := m.to p.toNat
def Mp.set (m : Mp) (i : Nat) (v : Int) : Mp :=
  match i with
  | 0 => { m with a := v }
  | 1 => { m with b := v }
  | 2 => { m with c := v }
  | 3 => { m with d := v }
  | 4 => { m with e := v }
  | _ => m
theorem Mp.set_p (m : Mp) (i : Nat) (v : Int) : (m.set i v).p = m.p := by unfold Mp.set; split <;> rfl
theorem Mp.set_to (m : Mp) {i : Nat} (h : i < 5) (v : Int) (j : Nat) : (m.set i v).to j = if j = i then v else m.to j := by
  rcases (by omega : i = 0 ∨ i = 1 ∨ i = 2 ∨ i = 3 ∨ i = 4) with rfl | rfl | rfl | rfl | rfl <;>
    (rcases (by omega : j = 0 ∨ j = 1 ∨ j = 2 ∨ j = 3 ∨ j = 4 ∨ 5 ≤ j) with rfl | rfl | rfl | rfl | rfl | h5 <;> try rfl) <;>
    (obtain ⟨k, rfl⟩ : ∃ k, j = k + 5 := ⟨j - 5, by omega⟩; rw [if_neg (by omega)]; rfl)
theorem Mp.ext' {m n : Mp} (hp : m.p = n.p) (h : ∀ i, i < 5 → m.to i = n.to i) : m = n := by
  obtain ⟨p, a, b, c, d, e⟩ := m
  obtain ⟨p', a', b', c', d', e'⟩ := n
  have h0 := h 0 (by decide)
  have h1 := h 1 (by decide)
  have h2 := h 2 (by decide)
  have h3 := h 3 (by decide)
  have h4 := h 4 (by decide)
  simp only [Mp.to] at h0 h1 h2 h3 h4
  simp only at hp
  subst hp h0 h1 h2 h3 h4
  rfl
/-- a map by its points and images -/
def mkM (p : Int) (f : Nat → Int) : Mp := ⟨p, f 0, f 1, f 2, f 3, f 4⟩
theorem mkM_to (p : Int) (f : Nat → Int) {i : Nat} (h : i < 5) : (mkM p f).to i = f i := by
  rcases (by omega : i = 0 ∨ i = 1 ∨ i = 2 ∨ i = 3 ∨ i = 4) with rfl | rfl | rfl | rfl | rfl <;> rfl
/-- the identity of n points, filled up to k -/
def idTo (n : Int) (k : Nat) : Mp := mkM n fun i => if i < k then (i : Int) else 0
def idM (n : Int) : Mp := idTo n n.toNat
theorem idTo_zero (n : Int) : idTo n 0 = ⟨n, 0, 0, 0, 0, 0⟩ := rfl
theorem idTo_succ (n : Int) {k : Nat} (h : k < 5) : (idTo n k).set k (k : Int) = idTo n (k + 1) := Mp.ext' (Mp.set_p _ _ _) fun i hi => by
  rw [Mp.set_to _ h]
  unfold idTo
  rw [mkM_to _ _ hi, mkM_to _ _ hi]
  by_cases e : i = k
  · subst e; rw [if_pos rfl, if_pos (by omega)]
  · rw [if_neg e]
    by_cases hlt : i < k
    · rw [if_pos hlt, if_pos (by omega)]
    · rw [if_neg hlt, if_neg (by omega)]
/-- the product f g, made up to k -/
def mulTo (f g : Mp) (k : Nat) : Mp := mkM f.p fun i => if i < k then g.at (f.to i) else f.to i
def mulM (f g : Mp) : Mp := mulTo f g f.p.toNat
theorem mulTo_zero (f g : Mp) : mulTo f g 0 = f := Mp.ext' rfl fun i hi => by
  unfold mulTo
  rw [mkM_to _ _ hi, if_neg (by omega)]
theorem mulTo_to (f g : Mp) {k : Nat} (h : k < 5) : (mulTo f g k).to k = f.to k := by
  unfold mulTo
  rw [mkM_to _ _ h, if_neg (by omega)]
theorem mulTo_p (f g : Mp) (k : Nat) : (mulTo f g k).p = f.p := rfl
theorem mulTo_succ (f g : Mp) {k : Nat} (h : k < 5) : (mulTo f g k).set k (g.at (f.to k)) = mulTo f g (k + 1) := Mp.ext' (Mp.set_p _ _ _) fun i hi => by
  rw [Mp.set_to _ h]
  unfold mulTo
  rw [mkM_to _ _ hi, mkM_to _ _ hi]
  by_cases e : i = k
  · subst e; rw [if_pos rfl, if_pos (by omega)]
  · rw [if_neg e]
    by_cases hlt : i < k
    · rw [if_pos hlt, if_pos (by omega)]
    · rw [if_neg hlt, if_neg (by omega)]
/-- a map of n points -/
def MpN (m : Mp) (n : Int) : Prop := IsMp m ∧ m.p = n
theorem MpN.at {m : Mp} {n p : Int} (h : MpN m n) (h0 : 0 ≤ p) (h1 : p < n) : 0 ≤ m.at p ∧ m.at p < n := by
  obtain ⟨⟨b1, b2, h3⟩, rfl⟩ := h
  have := (h3 p.toNat (by omega)).1 (by omega)
  unfold Mp.at
  omega
theorem mulM_MpN {f g : Mp} {n : Int} (hf : MpN f n) (hg : MpN g n) : MpN (mulM f g) n := by
  obtain ⟨⟨b1, b2, h3⟩, rfl⟩ := hf
  refine ⟨⟨b1, b2, fun i hi => ?_⟩, rfl⟩
  unfold mulM mulTo
  rw [mkM_to _ _ hi]
  have h4 := h3 i hi
  show ((i : Int) < f.p → _) ∧ (f.p ≤ (i : Int) → _)
  constructor
  · intro hlt
    rw [if_pos (by omega)]
    have := hg.at (h4.1 hlt).1 (by have := (h4.1 hlt).2; omega)
    show _ ∧ _ ≤ f.p - 1
    omega
  · intro hge
    rw [if_neg (by omega)]
    exact h4.2 hge
theorem mulM_at {f g : Mp} {n p : Int} (hf : MpN f n) (h0 : 0 ≤ p) (h1 : p < n) : (mulM f g).at p = g.at (f.at p) := by
  obtain ⟨⟨b1, b2, h3⟩, rfl⟩ := hf
  show (mulM f g).to p.toNat = g.at (f.to p.toNat)
  unfold mulM mulTo
  rw [mkM_to _ _ (by omega), if_pos (by omega)]
theorem idM_MpN {n : Int} (h1 : 1 ≤ n) (h2 : n ≤ 5) : MpN (idM n) n := by
  refine ⟨⟨h1, h2, fun i hi => ?_⟩, rfl⟩
  unfold idM idTo
  rw [mkM_to _ _ hi]
  show ((i : Int) < n → _ ∧ _ ≤ n - 1) ∧ (n ≤ (i : Int) → _)
  constructor
  · intro hlt; rw [if_pos (by omega)]; omega
  · intro hge; rw [if_neg (by omega)]
theorem idM_at {n p : Int} (h2 : n ≤ 5) (h0 : 0 ≤ p) (h1 : p < n) : (idM n).at p = p := by
  show (idM n).to p.toNat = p
  unfold idM idTo
  rw [mkM_to _ _ (by omega), if_pos (by omega)]
  omega
/-- the map of a list by its number -/
def nth (ms : List Mp) (k : Int) : Mp := ms.getD k.toNat Mp.z
/-- where a word leads a point -/
def runW (ms : List Mp) (word : List Int) (p : Int) : Int := word.foldl (fun p k => (nth ms k).at p) p
/-- the map of a word -/
def mapW (ms : List Mp) (word : List Int) : Mp := word.foldl (fun f k => mulM f (nth ms k)) (idM (ms.headD Mp.z).p)
/-- a right list of maps of n points -/
structure RightL (ms : List Mp) (n : Int) : Prop where
  pos : 0 < ms.length
  six : ms.length ≤ 6
  all : ∀ m ∈ ms, MpN m n
theorem RightL.nth {ms : List Mp} {n k : Int} (h : RightL ms n) (h0 : 0 ≤ k) (h1 : k < ms.length) : MpN (nth ms k) n := by
  have hk : k.toNat < ms.length := by omega
  show MpN (ms.getD k.toNat Mp.z) n
  rw [List.getD_eq_getElem?_getD, List.getElem?_eq_getElem hk]
  exact h.all _ (List.getElem_mem hk)
theorem RightL.head {ms : List Mp} {n : Int} (h : RightL ms n) : (ms.headD Mp.z).p = n ∧ MpN (ms.headD Mp.z) n := by
  cases ms with
  | nil => exact absurd h.pos (by simp)
  | cons m ms => exact ⟨(h.all m (by simp)).2, h.all m (by simp)⟩
theorem RightL.bounds {ms : List Mp} {n : Int} (h : RightL ms n) : 1 ≤ n ∧ n ≤ 5 := by
  obtain ⟨e, hm⟩ := h.head
  exact ⟨by have := hm.1.1; omega, by have := hm.1.2.1; omega⟩
/-- numbers of maps of a list of l maps -/
def InL (l : Nat) (word : List Int) : Prop := ∀ k ∈ word, 0 ≤ k ∧ k ≤ (l : Int) - 1
instance (l : Nat) (word : List Int) : Decidable (InL l word) := by unfold InL; infer_instance
def isWordB (l : Nat) (word : List Int) (most : Int) : Bool := decide ((word.length : Int) ≤ most ∧ InL l word)
theorem runW_lt {ms : List Mp} {n : Int} (h : RightL ms n) : ∀ (word : List Int) (p : Int), InL ms.length word → 0 ≤ p → p < n → 0 ≤ runW ms word p ∧ runW ms word p < n
  | [], p, _, h0, h1 => ⟨h0, h1⟩
  | k :: word, p, hw, h0, h1 => by
    have hk := hw k (by simp)
    have := (h.nth hk.1 (by omega)).at h0 h1
    exact runW_lt h word _ (fun j hj => hw j (by simp [hj])) this.1 this.2
theorem mapW_aux {ms : List Mp} {n : Int} (h : RightL ms n) : ∀ (word : List Int) (f : Mp), InL ms.length word → MpN f n → MpN (word.foldl (fun f k => mulM f (nth ms k)) f) n ∧ ∀ p, 0 ≤ p → p < n → (word.foldl (fun f k => mulM f (nth ms k)) f).at p = runW ms word (f.at p)
  | [], f, _, hf => ⟨hf, fun p _ _ => rfl⟩
  | k :: word, f, hw, hf => by
    have hk := hw k (by simp)
    have hm := h.nth hk.1 (by omega)
    obtain ⟨r1, r2⟩ := mapW_aux h word (mulM f (nth ms k)) (fun j hj => hw j (by simp [hj])) (mulM_MpN hf hm)
    refine ⟨r1, fun p h0 h1 => ?_⟩
    rw [List.foldl_cons, r2 p h0 h1, mulM_at hf h0 h1]
    rfl
theorem mapW_MpN {ms : List Mp} {n : Int} (h : RightL ms n) {word : List Int} (hw : InL ms.length word) : MpN (mapW ms word) n := by
  unfold mapW
  rw [h.head.1]
  exact (mapW_aux h word _ hw (idM_MpN h.bounds.1 h.bounds.2)).1
theorem mapW_at {ms : List Mp} {n : Int} (h : RightL ms n) {word : List Int} (hw : InL ms.length word) {p : Int} (h0 : 0 ≤ p) (h1 : p < n) : (mapW ms word).at p = runW ms word p := by
  unfold mapW
  rw [h.head.1, (mapW_aux h word _ hw (idM_MpN h.bounds.1 h.bounds.2)).2 p h0 h1, idM_at h.bounds.2 h0 h1]
/-! The plain side of 'search': from a list of points on by maps, in the order of words. -/
/-- a list of points with its first word -/
abbrev Pw := List Int × List Int
/-- one map's step: the next list behind the queue, if it is not met yet -/
def grow1 (by_ : Mp → List Int → List Int) (now : Pw) (q : List Pw) (kf : Nat × Mp) : List Pw :=
  if q.any (fun m => decide (m.1 = by_ kf.2 now.1)) then q else q ++ [(by_ kf.2 now.1, now.2 ++ [(kf.1 : Int)])]
/-- the queue when the first k maps have been taken from 'now' -/
def growTo (by_ : Mp → List Int → List Int) (ms : List Mp) (now : Pw) (q : List Pw) : Nat → List Pw
  | 0 => q
  | k + 1 => match ms[k]? with
    | some f => grow1 by_ now (growTo by_ ms now q k) (k, f)
    | none => growTo by_ ms now q k
/-- the queue ahead of round i -/
def bfs (by_ : Mp → List Int → List Int) (ms : List Mp) (start : List Int) : Nat → List Pw
  | 0 => [(start, [])]
  | i + 1 => match (bfs by_ ms start i)[i]? with
    | some now => growTo by_ ms now (bfs by_ ms start i) ms.length
    | none => bfs by_ ms start i
section
variable {by_ : Mp → List Int → List Int} {ms : List Mp} {start : List Int}
theorem grow1_prefix (now : Pw) (q : List Pw) (kf : Nat × Mp) : ∃ t, grow1 by_ now q kf = q ++ t := by
  unfold grow1
  split
  · exact ⟨[], by simp⟩
  · exact ⟨_, rfl⟩
theorem growTo_prefix (now : Pw) (q : List Pw) : ∀ k, ∃ t, growTo by_ ms now q k = q ++ t
  | 0 => ⟨[], by simp [growTo]⟩
  | k + 1 => by
    obtain ⟨t, ht⟩ := growTo_prefix now q k
    unfold growTo
    split
    · obtain ⟨t', ht'⟩ := grow1_prefix (by_ := by_) now (growTo by_ ms now q k) (k, ‹Mp›)
      exact ⟨t ++ t', by rw [ht', ht, List.append_assoc]⟩
    · exact ⟨t, ht⟩
theorem bfs_prefix (i : Nat) : ∃ t, bfs by_ ms start (i + 1) = bfs by_ ms start i ++ t := by
  show ∃ t, (match (bfs by_ ms start i)[i]? with
    | some now => growTo by_ ms now (bfs by_ ms start i) ms.length
    | none => bfs by_ ms start i) = _
  split
  · exact growTo_prefix _ _ _
  · exact ⟨[], by simp⟩
theorem bfs_prefix_le {i j : Nat} (h : i ≤ j) : ∃ t, bfs by_ ms start j = bfs by_ ms start i ++ t := by
  induction j with
  | zero => obtain rfl : i = 0 := by omega
            exact ⟨[], by simp⟩
  | succ j ih =>
    rcases Nat.lt_or_ge j i with hlt | hge
    · obtain rfl : i = j + 1 := by omega
      exact ⟨[], by simp⟩
    · obtain ⟨t, ht⟩ := ih hge
      obtain ⟨t', ht'⟩ := bfs_prefix (by_ := by_) (ms := ms) (start := start) j
      exact ⟨t ++ t', by rw [ht', ht, List.append_assoc]⟩
theorem bfs_get {i j k : Nat} (h : i ≤ j) {x : Pw} (hk : (bfs by_ ms start i)[k]? = some x) : (bfs by_ ms start j)[k]? = some x := by
  obtain ⟨t, ht⟩ := bfs_prefix_le (by_ := by_) (ms := ms) (start := start) h
  rw [ht, List.getElem?_append_left (List.getElem?_eq_some_iff.1 hk).1]
  exact hk
theorem bfs_take {i j : Nat} (h : i ≤ j) : (bfs by_ ms start j).take (bfs by_ ms start i).length = bfs by_ ms start i := by
  obtain ⟨t, ht⟩ := bfs_prefix_le (by_ := by_) (ms := ms) (start := start) h
  rw [ht, List.take_left']
  rfl
/-! ### What the queue holds -/
/-- lists of a finite universe, each once -/
structure Fine (U : List (List Int)) (q : List Pw) : Prop where
  mem : ∀ m ∈ q, m.1 ∈ U
  nodup : (q.map Prod.fst).Nodup
theorem Fine.length {U : List (List Int)} {q : List Pw} (h : Fine U q) : q.length ≤ U.length := by
  have := h.nodup.length_le_of_subset (fun x hx => by
    obtain ⟨m, hm, rfl⟩ := List.mem_map.1 hx
    exact h.mem m hm)
  simpa using this
/-- the words of a queue are no longer than the queue -/
def Short (q : List Pw) : Prop := ∀ m ∈ q, m.2.length ≤ q.length
theorem grow1_fine {U : List (List Int)} {now : Pw} {q : List Pw} {kf : Nat × Mp} (h : Fine U q) (hn : by_ kf.2 now.1 ∈ U) : Fine U (grow1 by_ now q kf) := by
  unfold grow1
  split
  · exact h
  · rename_i hno
    refine ⟨fun m hm => ?_, ?_⟩
    · rcases List.mem_append.1 hm with hm | hm
      · exact h.mem m hm
      · rw [List.mem_singleton.1 hm]; exact hn
    · rw [List.map_append, List.nodup_append]
      refine ⟨h.nodup, by simp, fun a ha b hb => ?_⟩
      rw [List.map_cons, List.map_nil, List.mem_singleton] at hb
      subst hb
      intro e
      obtain ⟨m, hm, rfl⟩ := List.mem_map.1 ha
      exact hno (List.any_eq_true.2 ⟨m, hm, by simpa using e⟩)
theorem growTo_fine {U : List (List Int)} {now : Pw} {q : List Pw} (h : Fine U q) (hn : ∀ f ∈ ms, by_ f now.1 ∈ U) : ∀ k, Fine U (growTo by_ ms now q k)
  | 0 => h
  | k + 1 => by
    unfold growTo
    split
    · rename_i f hf
      exact grow1_fine (growTo_fine h hn k) (hn f (List.mem_of_getElem? hf))
    · exact growTo_fine h hn k
theorem bfs_fine {U : List (List Int)} (h0 : start ∈ U) (hU : ∀ f ∈ ms, ∀ p ∈ U, by_ f p ∈ U) : ∀ i, Fine U (bfs by_ ms start i)
  | 0 => ⟨fun m hm => by rw [List.mem_singleton.1 hm]; exact h0, by simp [bfs]⟩
  | i + 1 => by
    have ih := bfs_fine h0 hU i
    unfold bfs
    split
    · rename_i now hnow
      exact growTo_fine ih (fun f hf => hU f hf _ (ih.mem now (List.mem_of_getElem? hnow))) _
    · exact ih
theorem grow1_words {now : Pw} {q : List Pw} {kf : Nat × Mp} {L : Nat} (h : ∀ m ∈ q, m.2.length ≤ L) (hn : now.2.length < L) : ∀ m ∈ grow1 by_ now q kf, m.2.length ≤ L := by
  unfold grow1
  split
  · exact h
  · intro m hm
    rcases List.mem_append.1 hm with hm | hm
    · exact h m hm
    · rw [List.mem_singleton.1 hm]; simp; omega
theorem growTo_words {now : Pw} {q : List Pw} {L : Nat} (h : ∀ m ∈ q, m.2.length ≤ L) (hn : now.2.length < L) : ∀ k, ∀ m ∈ growTo by_ ms now q k, m.2.length ≤ L
  | 0 => h
  | k + 1 => by
    unfold growTo
    split
    · exact grow1_words (growTo_words h hn k) hn
    · exact growTo_words h hn k
theorem bfs_words : ∀ i, ∀ m ∈ bfs by_ ms start i, m.2.length ≤ i
  | 0 => fun m hm => by rw [List.mem_singleton.1 hm]; simp
  | i + 1 => by
    have ih := bfs_words i
    unfold bfs
    split
    · rename_i now hnow
      exact growTo_words (fun m hm => Nat.le_succ_of_le (ih m hm)) (Nat.lt_succ_of_le (ih now (List.mem_of_getElem? hnow))) _
    · exact fun m hm => Nat.le_succ_of_le (ih m hm)
theorem growTo_succ {now : Pw} {q : List Pw} {k : Nat} {f : Mp} (hf : ms[k]? = some f) : growTo by_ ms now q (k + 1) = grow1 by_ now (growTo by_ ms now q k) (k, f) := by
  show (match ms[k]? with
    | some f => grow1 by_ now (growTo by_ ms now q k) (k, f)
    | none => growTo by_ ms now q k) = _
  rw [hf]
theorem bfs_succ {i : Nat} {now : Pw} (h : (bfs by_ ms start i)[i]? = some now) : bfs by_ ms start (i + 1) = growTo by_ ms now (bfs by_ ms start i) ms.length := by
  show (match (bfs by_ ms start i)[i]? with
    | some now => growTo by_ ms now (bfs by_ ms start i) ms.length
    | none => bfs by_ ms start i) = _
  rw [h]
end
/-! The plain side of searches in the order of words: states of any kind, the first words that lead to them, and that these are least. -/
section
variable {σ τ : Type} [DecidableEq σ] [DecidableEq τ]
/-- one letter's step -/
def g1 (st : Nat → σ → σ) (now : σ × List Int) (q : List (σ × List Int)) (j : Nat) : List (σ × List Int) :=
  if q.any (fun m => decide (m.1 = st j now.1)) then q else q ++ [(st j now.1, now.2 ++ [(j : Int)])]
def gTo (st : Nat → σ → σ) (now : σ × List Int) (q : List (σ × List Int)) : Nat → List (σ × List Int)
  | 0 => q
  | k + 1 => g1 st now (gTo st now q k) k
/-- the queue ahead of round i -/
def gb (st : Nat → σ → σ) (L : Nat) (start : σ) : Nat → List (σ × List Int)
  | 0 => [(start, [])]
  | i + 1 => match (gb st L start i)[i]? with
    | some now => gTo st now (gb st L start i) L
    | none => gb st L start i
/-- the whole queue, of at most 1000 states -/
def gF (st : Nat → σ → σ) (L : Nat) (start : σ) : List (σ × List Int) := gb st L start 1000
theorem gb_succ {st : Nat → σ → σ} {L : Nat} {start : σ} {i : Nat} {now : σ × List Int} (h : (gb st L start i)[i]? = some now) : gb st L start (i + 1) = gTo st now (gb st L start i) L := by
  show (match (gb st L start i)[i]? with
    | some now => gTo st now (gb st L start i) L
    | none => gb st L start i) = _
  rw [h]
theorem gb_stop {st : Nat → σ → σ} {L : Nat} {start : σ} {i : Nat} (h : (gb st L start i)[i]? = none) : gb st L start (i + 1) = gb st L start i := by
  show (match (gb st L start i)[i]? with
    | some now => gTo st now (gb st L start i) L
    | none => gb st L start i) = _
  rw [h]
theorem g1_hit {st : Nat → σ → σ} {now : σ × List Int} {q : List (σ × List Int)} {j : Nat} (h : q.any (fun m => decide (m.1 = st j now.1)) = true) : g1 st now q j = q := by unfold g1; rw [h]; rfl
theorem g1_new {st : Nat → σ → σ} {now : σ × List Int} {q : List (σ × List Int)} {j : Nat} (h : q.any (fun m => decide (m.1 = st j now.1)) = false) : g1 st now q j = q ++ [(st j now.1, now.2 ++ [(j : Int)])] := by unfold g1; rw [h]; rfl
variable {st : Nat → σ → σ} {L : Nat} {start : σ}
theorem g1_prefix (now : σ × List Int) (q : List (σ × List Int)) (j : Nat) : ∃ t, g1 st now q j = q ++ t := by
  unfold g1
  split
  · exact ⟨[], by simp⟩
  · exact ⟨_, rfl⟩
theorem gTo_prefix (now : σ × List Int) (q : List (σ × List Int)) : ∀ k, ∃ t, gTo st now q k = q ++ t
  | 0 => ⟨[], by simp [gTo]⟩
  | k + 1 => by
    obtain ⟨t, ht⟩ := gTo_prefix now q k
    obtain ⟨t', ht'⟩ := g1_prefix (st := st) now (gTo st now q k) k
    exact ⟨t ++ t', by show g1 st now (gTo st now q k) k = _; rw [ht', ht, List.append_assoc]⟩
theorem gb_prefix (i : Nat) : ∃ t, gb st L start (i + 1) = gb st L start i ++ t := by
  cases h : (gb st L start i)[i]? with
  | some now => rw [gb_succ h]; exact gTo_prefix _ _ _
  | none => exact ⟨[], by rw [gb_stop h]; simp⟩
theorem gb_prefix_le {i j : Nat} (h : i ≤ j) : ∃ t, gb st L start j = gb st L start i ++ t := by
  induction j with
  | zero => obtain rfl : i = 0 := by omega
            exact ⟨[], by simp⟩
  | succ j ih =>
    rcases Nat.lt_or_ge j i with hlt | hge
    · obtain rfl : i = j + 1 := by omega
      exact ⟨[], by simp⟩
    · obtain ⟨t, ht⟩ := ih hge
      obtain ⟨t', ht'⟩ := gb_prefix (st := st) (L := L) (start := start) j
      exact ⟨t ++ t', by rw [ht', ht, List.append_assoc]⟩
theorem gb_get {i j k : Nat} (h : i ≤ j) {x : σ × List Int} (hk : (gb st L start i)[k]? = some x) : (gb st L start j)[k]? = some x := by
  obtain ⟨t, ht⟩ := gb_prefix_le (st := st) (L := L) (start := start) h
  rw [ht, List.getElem?_append_left (List.getElem?_eq_some_iff.1 hk).1]
  exact hk
/-! ### States of a finite universe, each once -/
structure FineG (U : List σ) (q : List (σ × List Int)) : Prop where
  mem : ∀ m ∈ q, m.1 ∈ U
  nodup : (q.map Prod.fst).Nodup
end
theorem FineG.length {σ : Type} {U : List σ} {q : List (σ × List Int)} (h : FineG U q) : q.length ≤ U.length := by
  have := h.nodup.length_le_of_subset (fun x hx => by
    obtain ⟨m, hm, rfl⟩ := List.mem_map.1 hx
    exact h.mem m hm)
  simpa using this
section
variable {σ τ : Type} [DecidableEq σ] [DecidableEq τ] {st : Nat → σ → σ} {L : Nat} {start : σ}
theorem g1_fine {U : List σ} {now : σ × List Int} {q : List (σ × List Int)} {j : Nat} (h : FineG U q) (hn : st j now.1 ∈ U) : FineG U (g1 st now q j) := by
  unfold g1
  split
  · exact h
  · rename_i hno
    refine ⟨fun m hm => ?_, ?_⟩
    · rcases List.mem_append.1 hm with hm | hm
      · exact h.mem m hm
      · rw [List.mem_singleton.1 hm]; exact hn
    · rw [List.map_append, List.nodup_append]
      refine ⟨h.nodup, by simp, fun a ha b hb => ?_⟩
      rw [List.map_cons, List.map_nil, List.mem_singleton] at hb
      subst hb
      intro e
      obtain ⟨m, hm, rfl⟩ := List.mem_map.1 ha
      exact hno (List.any_eq_true.2 ⟨m, hm, by simpa using e⟩)
theorem gTo_fine {U : List σ} {now : σ × List Int} {q : List (σ × List Int)} (h : FineG U q) : ∀ k, (∀ j, j < k → st j now.1 ∈ U) → FineG U (gTo st now q k)
  | 0, _ => h
  | k + 1, hn => g1_fine (gTo_fine h k fun j hj => hn j (by omega)) (hn k (by omega))
/-- a finite universe of at most 1000 states -/
structure Univ (st : Nat → σ → σ) (L : Nat) (start : σ) (U : List σ) : Prop where
  start : start ∈ U
  step : ∀ j, j < L → ∀ s ∈ U, st j s ∈ U
  len : U.length ≤ 1000
theorem gb_fine {U : List σ} (h : Univ st L start U) : ∀ i, FineG U (gb st L start i)
  | 0 => ⟨fun m hm => by rw [List.mem_singleton.1 hm]; exact h.start, by simp [gb]⟩
  | i + 1 => by
    have ih := gb_fine h i
    cases hn : (gb st L start i)[i]? with
    | some now => rw [gb_succ hn]; exact gTo_fine ih L fun j hj => h.step j hj _ (ih.mem now (List.mem_of_getElem? hn))
    | none => rw [gb_stop hn]; exact ih
theorem gb_length {U : List σ} (h : Univ st L start U) (i : Nat) : (gb st L start i).length ≤ 1000 := Nat.le_trans (gb_fine h i).length h.len
theorem gb_end {U : List σ} (h : Univ st L start U) : (gb st L start 1000)[1000]? = none := List.getElem?_eq_none (gb_length h 1000)
/-- what a search that has ended at N has seen is the whole queue -/
theorem gb_same {N : Nat} (h : (gb st L start N)[N]? = none) : ∀ j, N ≤ j → gb st L start j = gb st L start N
  | 0, hj => by obtain rfl : N = 0 := by omega
                rfl
  | j + 1, hj => by
    rcases Nat.lt_or_ge j N with hlt | hge
    · obtain rfl : N = j + 1 := by omega
      rfl
    · have e := gb_same h j hge
      have h2 : (gb st L start j)[j]? = none := by
        rw [e]
        exact List.getElem?_eq_none (Nat.le_trans (List.getElem?_eq_none_iff.1 h) hge)
      rw [gb_stop h2, e]
theorem gF_of_end {U : List σ} (hU : Univ st L start U) {N : Nat} (h : (gb st L start N)[N]? = none) : gF st L start = gb st L start N := by
  rcases Nat.le_total N 1000 with hle | hge
  · exact gb_same h 1000 hle
  · exact (gb_same (gb_end hU) N hge).symm
theorem gF_get {U : List σ} (hU : Univ st L start U) {i : Nat} {m : σ × List Int} (h : (gb st L start i)[i]? = some m) : (gF st L start)[i]? = some m := by
  have hi : i < 1000 := Nat.lt_of_lt_of_le (List.getElem?_eq_some_iff.1 h).1 (gb_length hU i)
  exact gb_get (by omega) h
end
/-! ### Words -/
def run {σ : Type} (st : Nat → σ → σ) (s : σ) (w : List Int) : σ := w.foldl (fun s k => st k.toNat s) s
theorem run_snoc {σ : Type} {st : Nat → σ → σ} (s : σ) (w : List Int) (k : Int) : run st s (w ++ [k]) = st k.toNat (run st s w) := by unfold run; rw [List.foldl_append]; rfl
section
variable {σ τ : Type} [DecidableEq σ] [DecidableEq τ] {st : Nat → σ → σ} {L : Nat} {start : σ}
/-- the place of a word in the order of words of at most six letters -/
def key (w : List Int) : Nat := w.foldl (fun n k => n * 7 + (k.toNat + 1)) 0
theorem key_snoc (w : List Int) (k : Int) : key (w ++ [k]) = key w * 7 + (k.toNat + 1) := by unfold key; rw [List.foldl_append]; rfl
theorem key_nil : key [] = 0 := rfl
theorem snoc_or (w : List Int) : w = [] ∨ ∃ u k, w = u ++ [k] := by
  rcases List.eq_nil_or_concat w with h | ⟨u, k, h⟩
  · exact .inl h
  · exact .inr ⟨u, k, by rw [h]; simp⟩
theorem InL_snoc {l : Nat} {u : List Int} {k : Int} (h : InL l (u ++ [k])) : InL l u ∧ 0 ≤ k ∧ k ≤ (l : Int) - 1 := ⟨fun j hj => h j (by simp [hj]), h k (by simp)⟩
theorem InL_snoc' {l : Nat} {u : List Int} {k : Int} (h : InL l u) (h0 : 0 ≤ k) (h1 : k ≤ (l : Int) - 1) : InL l (u ++ [k]) := fun j hj => by
  rcases List.mem_append.1 hj with hj | hj
  · exact h j hj
  · rw [List.mem_singleton.1 hj]; exact ⟨h0, h1⟩
theorem key_inj {l : Nat} (hl : l ≤ 6) : ∀ (n : Nat) (u v : List Int), u.length ≤ n → InL l u → InL l v → key u = key v → u = v
  | 0, u, v, hn, hu, hv, e => by
    obtain rfl : u = [] := List.eq_nil_of_length_eq_zero (by omega)
    rcases snoc_or v with rfl | ⟨v', k, rfl⟩
    · rfl
    · rw [key_snoc, key_nil] at e; omega
  | n + 1, u, v, hn, hu, hv, e => by
    rcases snoc_or u with rfl | ⟨u', j, rfl⟩
    · rcases snoc_or v with rfl | ⟨v', k, rfl⟩
      · rfl
      · rw [key_snoc, key_nil] at e; omega
    · rcases snoc_or v with rfl | ⟨v', k, rfl⟩
      · rw [key_snoc, key_nil] at e; omega
      · obtain ⟨hu', j0, j1⟩ := InL_snoc hu
        obtain ⟨hv', k0, k1⟩ := InL_snoc hv
        rw [key_snoc, key_snoc] at e
        have e1 : j = k := by omega
        have e2 : key u' = key v' := by omega
        rw [key_inj hl n u' v' (by simp at hn; omega) hu' hv' e2, e1]
/-- what holds of the queue in round i behind k letters -/
structure InOrd (st : Nat → σ → σ) (L : Nat) (start : σ) (i k : Nat) (q : List (σ × List Int)) : Prop where
  first : q[0]? = some (start, [])
  inc : ∀ (x y : Nat) (mx my : σ × List Int), x < y → q[x]? = some mx → q[y]? = some my → key mx.2 < key my.2
  bnd : ∀ now, q[i]? = some now → ∀ m ∈ q, key m.2 < key now.2 * 7 + k + 1
  clo : ∀ (j : Nat) (mj : σ × List Int) (a : Nat), q[j]? = some mj → a < L → (j < i ∨ j = i ∧ a < k) → ∃ m ∈ q, m.1 = st a mj.1 ∧ key m.2 ≤ key mj.2 * 7 + (a + 1)
  snd : ∀ m ∈ q, m.1 = run st start m.2 ∧ InL L m.2
theorem InOrd.step {i k : Nat} {q : List (σ × List Int)} {now : σ × List Int} (h : InOrd st L start i k q) (hn : q[i]? = some now) (hk : k < L) : InOrd st L start i (k + 1) (g1 st now q k) := by
  cases ha : q.any (fun m => decide (m.1 = st k now.1))
  · rw [g1_new ha]
    have hkey : key (now.2 ++ [(k : Int)]) = key now.2 * 7 + (k + 1) := by rw [key_snoc]; simp
    have get : ∀ x mx, (q ++ [(st k now.1, now.2 ++ [(k : Int)])])[x]? = some mx → q[x]? = some mx ∨ (x = q.length ∧ mx = (st k now.1, now.2 ++ [(k : Int)])) := fun x mx hx => by
      rcases Nat.lt_or_ge x q.length with hlt | hge
      · rw [List.getElem?_append_left hlt] at hx; exact .inl hx
      · rw [List.getElem?_append_right hge] at hx
        have hl := (List.getElem?_eq_some_iff.1 hx).1
        simp at hl
        have e : x - q.length = 0 := by omega
        rw [e] at hx
        exact .inr ⟨by omega, (Option.some.inj hx).symm⟩
    have hi : i < q.length := (List.getElem?_eq_some_iff.1 hn).1
    refine ⟨?_, fun x y mx my hxy hx hy => ?_, fun now' hn' m hm => ?_, fun j mj a hj haL hja => ?_, fun m hm => ?_⟩
    · rw [List.getElem?_append_left (by omega)]; exact h.first
    · rcases get x mx hx with hx | ⟨rfl, rfl⟩
      · rcases get y my hy with hy | ⟨rfl, rfl⟩
        · exact h.inc x y mx my hxy hx hy
        · have := h.bnd now hn mx (List.mem_of_getElem? hx)
          show key mx.2 < key (now.2 ++ [(k : Int)])
          omega
      · rcases get y my hy with hy | ⟨rfl, rfl⟩
        · have := (List.getElem?_eq_some_iff.1 hy).1; omega
        · omega
    · rw [List.getElem?_append_left hi, hn] at hn'
      obtain rfl := Option.some.inj hn'
      rcases List.mem_append.1 hm with hm | hm
      · have := h.bnd now hn m hm; omega
      · rw [List.mem_singleton.1 hm]
        show key (now.2 ++ [(k : Int)]) < _
        omega
    · rcases get j mj hj with hj' | ⟨rfl, rfl⟩
      · by_cases e : j = i ∧ a = k
        · obtain ⟨rfl, rfl⟩ := e
          rw [hn] at hj'
          obtain rfl := Option.some.inj hj'
          exact ⟨_, List.mem_append_right _ (List.mem_singleton.2 rfl), rfl, by show key (now.2 ++ [(a : Int)]) ≤ _; omega⟩
        · obtain ⟨m, hm, e1, e2⟩ := h.clo j mj a hj' haL (by omega)
          exact ⟨m, List.mem_append_left _ hm, e1, e2⟩
      · omega
    · rcases List.mem_append.1 hm with hm | hm
      · exact h.snd m hm
      · rw [List.mem_singleton.1 hm]
        obtain ⟨e1, e2⟩ := h.snd now (List.mem_of_getElem? hn)
        exact ⟨by show st k now.1 = run st start (now.2 ++ [(k : Int)]); rw [run_snoc, ← e1]; simp, InL_snoc' e2 (by omega) (by omega)⟩
  · rw [g1_hit ha]
    refine ⟨h.first, h.inc, fun now' hn' m hm => ?_, fun j mj a hj haL hja => ?_, h.snd⟩
    · have := h.bnd now' hn' m hm; omega
    · by_cases e : j = i ∧ a = k
      · obtain ⟨rfl, rfl⟩ := e
        rw [hn] at hj
        obtain rfl := Option.some.inj hj
        obtain ⟨m, hm, e1⟩ := List.any_eq_true.1 ha
        have := h.bnd now hn m hm
        exact ⟨m, hm, by simpa using e1, by omega⟩
      · exact h.clo j mj a hj haL (by omega)
theorem InOrd.to {i : Nat} {q : List (σ × List Int)} {now : σ × List Int} (h : InOrd st L start i 0 q) (hn : q[i]? = some now) : ∀ k, k ≤ L → InOrd st L start i k (gTo st now q k)
  | 0, _ => h
  | k + 1, hk => by
    have h2 := InOrd.to h hn k (by omega)
    refine h2.step ?_ (by omega)
    obtain ⟨t, ht⟩ := gTo_prefix (st := st) now q k
    rw [ht, List.getElem?_append_left (List.getElem?_eq_some_iff.1 hn).1]
    exact hn
theorem gb_ord (hL : L ≤ 6) : ∀ i, InOrd st L start i 0 (gb st L start i)
  | 0 => by
    have one : ∀ x (m : σ × List Int), (gb st L start 0)[x]? = some m → x = 0 ∧ m = (start, []) := fun x m hx => by
      have hl := (List.getElem?_eq_some_iff.1 hx).1
      simp [gb] at hl
      subst hl
      exact ⟨rfl, by simpa [gb] using hx.symm⟩
    refine ⟨rfl, fun x y mx my hxy hx hy => ?_, fun now hn m hm => ?_, fun j mj a hj haL hja => by omega, fun m hm => ?_⟩
    · have := (one x mx hx).1; have := (one y my hy).1; omega
    · have e := (one 0 now hn).2
      rw [List.mem_singleton.1 hm, e]
      show 0 < 0 * 7 + 0 + 1
      omega
    · rw [List.mem_singleton.1 hm]
      exact ⟨rfl, fun k hk => absurd hk (by simp)⟩
  | i + 1 => by
    have ih := gb_ord hL i
    cases hn : (gb st L start i)[i]? with
    | some now =>
      have h2 := ih.to hn L (Nat.le_refl _)
      have hn2 : (gTo st now (gb st L start i) L)[i]? = some now := by
        obtain ⟨t, ht⟩ := gTo_prefix (st := st) now (gb st L start i) L
        rw [ht, List.getElem?_append_left (List.getElem?_eq_some_iff.1 hn).1]
        exact hn
      rw [gb_succ hn]
      refine ⟨h2.first, h2.inc, fun now' hn' m hm => ?_, fun j mj a hj haL hja => h2.clo j mj a hj haL (by omega), h2.snd⟩
      have e1 := h2.inc i (i + 1) now now' (by omega) hn2 hn'
      have e2 := h2.bnd now hn2 m hm
      omega
    | none =>
      rw [gb_stop hn]
      have hl := List.getElem?_eq_none_iff.1 hn
      refine ⟨ih.first, ih.inc, fun now' hn' m hm => ?_, fun j mj a hj haL hja => ?_, ih.snd⟩
      · have := (List.getElem?_eq_some_iff.1 hn').1; omega
      · have := (List.getElem?_eq_some_iff.1 hj).1
        exact ih.clo j mj a hj haL (by omega)
theorem gF_ord (hL : L ≤ 6) : InOrd st L start 1000 0 (gF st L start) := gb_ord hL 1000
/-- each word's state is met, with a word that is no later -/
theorem gF_all {U : List σ} (hU : Univ st L start U) (hL : L ≤ 6) : ∀ (n : Nat) (u : List Int), u.length ≤ n → InL L u → ∃ m ∈ gF st L start, m.1 = run st start u ∧ key m.2 ≤ key u
  | 0, u, hn, hu => by
    obtain rfl : u = [] := List.eq_nil_of_length_eq_zero (by omega)
    exact ⟨_, List.mem_of_getElem? (gF_ord (st := st) (start := start) hL).first, rfl, Nat.le_refl _⟩
  | n + 1, u, hn, hu => by
    rcases snoc_or u with rfl | ⟨u', k, rfl⟩
    · exact ⟨_, List.mem_of_getElem? (gF_ord (st := st) (start := start) hL).first, rfl, Nat.le_refl _⟩
    · obtain ⟨hu', k0, k1⟩ := InL_snoc hu
      obtain ⟨m, hm, e1, e2⟩ := gF_all hU hL n u' (by simp at hn; omega) hu'
      obtain ⟨j, hj, hjm⟩ := List.mem_iff_getElem.1 hm
      have hg := (gb_end hU)
      have hl := List.getElem?_eq_none_iff.1 hg
      obtain ⟨m2, hm2, e3, e4⟩ := (gF_ord (st := st) (start := start) hL).clo j m k.toNat (by rw [List.getElem?_eq_getElem hj]; exact congrArg some hjm) (by omega) (.inl (Nat.lt_of_lt_of_le hj hl))
      exact ⟨m2, hm2, by rw [e3, run_snoc, e1], by rw [key_snoc]; omega⟩
theorem gF_snd (hL : L ≤ 6) {m : σ × List Int} (hm : m ∈ gF st L start) : m.1 = run st start m.2 ∧ InL L m.2 := (gb_ord hL 1000).snd m hm
/-- a least word with a property -/
def Least (L : Nat) (P : List Int → Bool) (w : List Int) : Prop := InL L w ∧ P w = true ∧ ∀ u, InL L u → P u = true → key w ≤ key u
theorem Least.one {P : List Int → Bool} (hL : L ≤ 6) {w w' : List Int} (h : Least L P w) (h' : Least L P w') : w = w' :=
  key_inj hL _ w w' (Nat.le_refl _) h.1 h'.1 (Nat.le_antisymm (h.2.2 w' h'.1 h'.2.1) (h'.2.2 w h.1 h.2.1))
/-- the first word to a state that is such, and a code -/
def fw (st : Nat → σ → σ) (L : Nat) (start : σ) (P : σ → Bool) : List Int × Int :=
  match (gF st L start).find? (fun m => P m.1) with
  | some m => (m.2, 0)
  | none => ([], 4)
theorem fw_some {P : σ → Bool} {m : σ × List Int} (h : (gF st L start).find? (fun m => P m.1) = some m) : fw st L start P = (m.2, 0) := by unfold fw; rw [h]
theorem fw_none {P : σ → Bool} (h : (gF st L start).find? (fun m => P m.1) = none) : fw st L start P = ([], 4) := by unfold fw; rw [h]
theorem fw_least {U : List σ} (hU : Univ st L start U) (hL : L ≤ 6) (P : σ → Bool) : (∃ w, fw st L start P = (w, 0) ∧ Least L (fun u => P (run st start u)) w) ∨ (fw st L start P = ([], 4) ∧ ∀ u, InL L u → P (run st start u) = false) := by
  cases h : (gF st L start).find? (fun m => P m.1) with
  | some m =>
    refine .inl ⟨m.2, fw_some h, ?_⟩
    have hm := List.mem_of_find?_eq_some h
    obtain ⟨e1, e2⟩ := gF_snd hL hm
    have hp := List.find?_some h
    refine ⟨e2, by show P (run st start m.2) = true; rw [← e1]; simpa using hp, fun u hu hpu => ?_⟩
    obtain ⟨m2, hm2, e3, e4⟩ := gF_all hU hL _ u (Nat.le_refl _) hu
    obtain ⟨i, hi, hmi⟩ := List.mem_iff_getElem.1 hm
    obtain ⟨j, hj, hmj⟩ := List.mem_iff_getElem.1 hm2
    rcases Nat.lt_trichotomy i j with hij | rfl | hij
    · have := (gF_ord (st := st) (start := start) hL).inc i j m m2 hij (by rw [List.getElem?_eq_getElem hi]; exact congrArg some hmi) (by rw [List.getElem?_eq_getElem hj]; exact congrArg some hmj)
      omega
    · rw [hmi] at hmj; subst hmj; exact e4
    · exfalso
      have hno := (List.find?_eq_some_iff_getElem.1 h)
      obtain ⟨_, i', hi', e5, hall⟩ := hno
      have : i' = i := by
        have nd := (gb_fine hU 1000).nodup
        have := List.getElem_inj (h₀ := by simpa using hi') (h₁ := by simpa using hi) (xs := (gF st L start).map Prod.fst) nd
        rw [List.getElem_map, List.getElem_map, e5, hmi] at this
        exact this.1 rfl
      subst this
      have h7 := hall j hij
      rw [hmj] at h7
      simp at h7
      rw [e3] at h7
      have hpu' : P (run st start u) = true := hpu
      rw [h7] at hpu'
      cases hpu'
  | none =>
    refine .inr ⟨fw_none h, fun u hu => ?_⟩
    obtain ⟨m2, hm2, e3, e4⟩ := gF_all hU hL _ u (Nat.le_refl _) hu
    have := List.find?_eq_none.1 h m2 hm2
    rw [← e3]
    simpa using this
/-- two systems whose words have alike properties have the same first word -/
theorem fw_eq {st' : Nat → τ → τ} {start' : τ} {U : List σ} {U' : List τ} (hU : Univ st L start U) (hU' : Univ st' L start' U') (hL : L ≤ 6) {P : σ → Bool} {P' : τ → Bool}
    (h : ∀ u, InL L u → P (run st start u) = P' (run st' start' u)) : fw st L start P = fw st' L start' P' := by
  rcases fw_least hU hL P with ⟨w, e1, h1⟩ | ⟨e1, h1⟩ <;> rcases fw_least hU' hL P' with ⟨w', e2, h2⟩ | ⟨e2, h2⟩
  · rw [e1, e2]
    have : Least L (fun u => P (run st start u)) w' := ⟨h2.1, by show P (run st start w') = true; rw [h w' h2.1]; exact h2.2.1, fun u hu hp => h2.2.2 u hu (by show P' (run st' start' u) = true; rw [← h u hu]; exact hp)⟩
    rw [h1.one hL this]
  · have h3 := h1.2.1
    have h4 := h2 w h1.1
    rw [← h w h1.1] at h4
    have h3' : P (run st start w) = true := h3
    rw [h3'] at h4
    cases h4
  · have h3 : P' (run st' start' w') = true := h2.2.1
    have h4 := h1 w' h2.1
    rw [h w' h2.1, h3] at h4
    cases h4
  · rw [e1, e2]
end
theorem run_in {σ : Type} {st : Nat → σ → σ} {L : Nat} {start : σ} {U : List σ} (hU : Univ st L start U) : ∀ (n : Nat) (u : List Int), u.length ≤ n → InL L u → run st start u ∈ U
  | 0, u, hn, hu => by
    obtain rfl : u = [] := List.eq_nil_of_length_eq_zero (by omega)
    exact hU.start
  | n + 1, u, hn, hu => by
    rcases snoc_or u with rfl | ⟨u', k, rfl⟩
    · exact hU.start
    · obtain ⟨hu', k0, k1⟩ := InL_snoc hu
      rw [run_snoc]
      exact hU.step _ (by omega) _ (run_in hU n u' (by simp at hn; omega) hu')
section
variable {σ τ : Type} [DecidableEq σ] [DecidableEq τ] {st : Nat → σ → σ} {L : Nat} {start : σ}
/-- states under an encoding that tells them apart -/
theorem gb_map {st' : Nat → τ → τ} {start' : τ} {U : List σ} (hU : Univ st L start U) (φ : σ → τ) (h0 : φ start = start') (hs : ∀ j, j < L → ∀ s ∈ U, φ (st j s) = st' j (φ s)) (hi : ∀ s ∈ U, ∀ t ∈ U, φ s = φ t → s = t) :
    ∀ i, gb st' L start' i = (gb st L start i).map (fun m => (φ m.1, m.2))
  | 0 => by simp [gb, h0]
  | i + 1 => by
    have ih := gb_map hU φ h0 hs hi i
    have hf := gb_fine hU i
    cases hn : (gb st L start i)[i]? with
    | none =>
      have hn' : (gb st' L start' i)[i]? = none := by rw [ih, List.getElem?_map, hn]; rfl
      rw [gb_stop hn, gb_stop hn', ih]
    | some now =>
      have hn' : (gb st' L start' i)[i]? = some (φ now.1, now.2) := by rw [ih, List.getElem?_map, hn]; rfl
      rw [gb_succ hn, gb_succ hn', ih]
      have hnow := hf.mem now (List.mem_of_getElem? hn)
      have key : ∀ k, k ≤ L → gTo st' (φ now.1, now.2) ((gb st L start i).map (fun m => (φ m.1, m.2))) k = (gTo st now (gb st L start i) k).map (fun m => (φ m.1, m.2)) := by
        intro k
        induction k with
        | zero => intro _; rfl
        | succ k ihk =>
          intro hk
          have e := ihk (by omega)
          have hf2 := gTo_fine (st := st) (now := now) hf k (fun j hj => hU.step j (by omega) _ hnow)
          show g1 st' (φ now.1, now.2) _ k = (g1 st now (gTo st now (gb st L start i) k) k).map _
          rw [e]
          have hany : ((gTo st now (gb st L start i) k).map (fun m => (φ m.1, m.2))).any (fun m => decide (m.1 = st' k (φ now.1))) = (gTo st now (gb st L start i) k).any (fun m => decide (m.1 = st k now.1)) := by
            rw [List.any_map, Bool.eq_iff_iff, List.any_eq_true, List.any_eq_true]
            constructor
            · rintro ⟨m, hm, e1⟩
              refine ⟨m, hm, ?_⟩
              simp only [Function.comp_apply, decide_eq_true_eq] at e1 ⊢
              rw [← hs k (by omega) _ hnow] at e1
              exact hi _ (hf2.mem m hm) _ (hU.step k (by omega) _ hnow) e1
            · rintro ⟨m, hm, e1⟩
              refine ⟨m, hm, ?_⟩
              simp only [Function.comp_apply, decide_eq_true_eq] at e1 ⊢
              rw [e1, hs k (by omega) _ hnow]
          unfold g1
          simp only [hany]
          split
          · rfl
          · rw [List.map_append, List.map_cons, List.map_nil, hs k (by omega) _ hnow]
      exact key L (Nat.le_refl _)
end
/-! ### The words are short -/
section
variable {σ : Type} [DecidableEq σ] {st : Nat → σ → σ} {L : Nat} {start : σ}
theorem gTo_words {now : σ × List Int} {q : List (σ × List Int)} {B : Nat} (h : ∀ m ∈ q, m.2.length ≤ B) (hn : now.2.length < B) : ∀ k, ∀ m ∈ gTo st now q k, m.2.length ≤ B
  | 0 => h
  | k + 1 => fun m hm => by
    have ih := gTo_words h hn k
    have hm' : m ∈ g1 st now (gTo st now q k) k := hm
    unfold g1 at hm'
    split at hm'
    · exact ih m hm'
    · rcases List.mem_append.1 hm' with hm' | hm'
      · exact ih m hm'
      · rw [List.mem_singleton.1 hm']; simp; omega
theorem gb_words : ∀ i, ∀ m ∈ gb st L start i, m.2.length ≤ i
  | 0 => fun m hm => by rw [List.mem_singleton.1 hm]; simp
  | i + 1 => by
    have ih := gb_words i
    cases hn : (gb st L start i)[i]? with
    | some now => rw [gb_succ hn]; exact gTo_words (fun m hm => Nat.le_succ_of_le (ih m hm)) (Nat.lt_succ_of_le (ih now (List.mem_of_getElem? hn))) L
    | none => rw [gb_stop hn]; exact fun m hm => Nat.le_succ_of_le (ih m hm)
end
/-! ### 'search's queue is such a one -/
def stp (by_ : Mp → List Int → List Int) (ms : List Mp) (j : Nat) (p : List Int) : List Int := by_ (ms.getD j Mp.z) p
theorem growTo_g {by_ : Mp → List Int → List Int} {ms : List Mp} (now : Pw) (q : List Pw) : ∀ k, k ≤ ms.length → growTo by_ ms now q k = gTo (stp by_ ms) now q k
  | 0, _ => rfl
  | k + 1, hk => by
    have hk' : k < ms.length := by omega
    rw [growTo_succ (List.getElem?_eq_getElem hk'), growTo_g now q k (by omega)]
    have e : stp by_ ms k now.1 = by_ ms[k] now.1 := by
      unfold stp
      rw [List.getD_eq_getElem?_getD, List.getElem?_eq_getElem hk']
      rfl
    show grow1 by_ now _ (k, ms[k]) = g1 (stp by_ ms) now _ k
    unfold grow1 g1
    rw [e]
theorem bfs_g {by_ : Mp → List Int → List Int} {ms : List Mp} {start : List Int} : ∀ i, bfs by_ ms start i = gb (stp by_ ms) ms.length start i
  | 0 => rfl
  | i + 1 => by
    have ih := bfs_g (by_ := by_) (ms := ms) (start := start) i
    cases hn : (gb (stp by_ ms) ms.length start i)[i]? with
    | none =>
      rw [gb_stop hn, ← ih]
      show (match (bfs by_ ms start i)[i]? with
        | some now => growTo by_ ms now (bfs by_ ms start i) ms.length
        | none => bfs by_ ms start i) = _
      rw [ih, hn]
    | some now => rw [gb_succ hn, bfs_succ (by rw [ih]; exact hn), ih, growTo_g _ _ _ (Nat.le_refl _)]
theorem gF_length {σ : Type} [DecidableEq σ] {st : Nat → σ → σ} {L : Nat} {start : σ} {U : List σ} (h : Univ st L start U) : (gF st L start).length ≤ 1000 := gb_length h 1000
attribute [irreducible] gF
end Go.Proofs.Ythadgdmooacccaa
