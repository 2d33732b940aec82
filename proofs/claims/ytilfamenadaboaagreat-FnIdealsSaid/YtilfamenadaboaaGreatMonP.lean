/- The plain side of monoids: products, the queue of all elements, the elements in order. No condition. -/
import Derived.Test.YtilfamenadaboaaGreatPure
namespace Go.Proofs.YtilfamenadaboaaGreat
set_option linter.unusedSimpArgs false
set_option linter.unusedVariables false
set_option linter.unusedSectionVars false
/-! ### Products -/
theorem MpN.to_lt {f : Mp} {n : Int} (h : MpN f n) (i : Nat) : 0 ≤ f.to i ∧ f.to i < 5 := by
  obtain ⟨⟨b1, b2, h3⟩, rfl⟩ := h
  by_cases hi : i < 5
  · have := h3 i hi
    by_cases hlt : (i : Int) < f.p
    · have := this.1 hlt; omega
    · have := this.2 (by omega); omega
  · obtain ⟨k, rfl⟩ : ∃ k, i = k + 5 := ⟨i - 5, by omega⟩
    exact ⟨Int.le_refl 0, (by decide : (0 : Int) < 5)⟩
theorem MpN.ext {f g : Mp} {n : Int} (hf : MpN f n) (hg : MpN g n) (h : ∀ p, 0 ≤ p → p < n → f.at p = g.at p) : f = g := by
  obtain ⟨⟨b1, b2, h3⟩, rfl⟩ := hf
  obtain ⟨⟨c1, c2, h4⟩, e⟩ := hg
  refine Mp.ext' e.symm fun i hi => ?_
  by_cases hlt : (i : Int) < f.p
  · have := h i (by omega) hlt
    exact this
  · rw [(h3 i hi).2 (by omega), (h4 i hi).2 (by omega)]
theorem mulM_assoc {f g k : Mp} {n : Int} (hf : MpN f n) (hg : MpN g n) (hk : MpN k n) : mulM (mulM f g) k = mulM f (mulM g k) := by
  refine MpN.ext (mulM_MpN (mulM_MpN hf hg) hk) (mulM_MpN hf (mulM_MpN hg hk)) fun p h0 h1 => ?_
  have := hf.at h0 h1
  rw [mulM_at (mulM_MpN hf hg) h0 h1, mulM_at hf h0 h1, mulM_at hf h0 h1, mulM_at hg this.1 this.2]
theorem MpN.le {f : Mp} {n : Int} (h : MpN f n) : 1 ≤ n ∧ n ≤ 5 := by
  obtain ⟨⟨b1, b2, _⟩, rfl⟩ := h
  exact ⟨b1, b2⟩
theorem mulM_id_left {f : Mp} {n : Int} (hf : MpN f n) : mulM (idM n) f = f := by
  have hi := idM_MpN hf.le.1 hf.le.2
  refine MpN.ext (mulM_MpN hi hf) hf fun p h0 h1 => ?_
  rw [mulM_at hi h0 h1, idM_at hf.le.2 h0 h1]
theorem mulM_id_right {f : Mp} {n : Int} (hf : MpN f n) : mulM f (idM n) = f := by
  have hi := idM_MpN hf.le.1 hf.le.2
  refine MpN.ext (mulM_MpN hf hi) hf fun p h0 h1 => ?_
  have := hf.at h0 h1
  rw [mulM_at hf h0 h1, idM_at hf.le.2 this.1 this.2]
/-! ### The number of a map -/
def Mp.num (f : Mp) : Int := (((f.a * 5 + f.b) * 5 + f.c) * 5 + f.d) * 5 + f.e
theorem MpN.digs {f : Mp} {n : Int} (h : MpN f n) : (0 ≤ f.a ∧ f.a < 5) ∧ (0 ≤ f.b ∧ f.b < 5) ∧ (0 ≤ f.c ∧ f.c < 5) ∧ (0 ≤ f.d ∧ f.d < 5) ∧ 0 ≤ f.e ∧ f.e < 5 := ⟨h.to_lt 0, h.to_lt 1, h.to_lt 2, h.to_lt 3, h.to_lt 4⟩
theorem MpN.num_lt {f : Mp} {n : Int} (h : MpN f n) : 0 ≤ f.num ∧ f.num < 3125 := by
  have := h.digs
  unfold Mp.num
  omega
theorem num_inj {f g : Mp} {n : Int} (hf : MpN f n) (hg : MpN g n) (e : f.num = g.num) : f = g := by
  have h1 := hf.digs
  have h2 := hg.digs
  unfold Mp.num at e
  obtain ⟨_, rfl⟩ := hf
  obtain ⟨_, e2⟩ := hg
  obtain ⟨p, a, b, c, d, e1⟩ := f
  obtain ⟨p', a', b', c', d', e1'⟩ := g
  simp only at h1 h2 e e2
  obtain rfl : a = a' := by omega
  obtain rfl : b = b' := by omega
  obtain rfl : c = c' := by omega
  obtain rfl : d = d' := by omega
  obtain rfl : e1 = e1' := by omega
  rw [e2]
/-! ### Ascending lists of maps -/
def AscM (l : List Mp) : Prop := l.Pairwise fun f g => f.num < g.num
theorem AscM.nil : AscM [] := List.Pairwise.nil
theorem AscM.nodup {l : List Mp} (h : AscM l) : l.Nodup := h.imp fun hab e => by subst e; omega
theorem AscM.lt {l : List Mp} (h : AscM l) {i j : Nat} {f g : Mp} (hi : l[i]? = some f) (hj : l[j]? = some g) (hij : i < j) : f.num < g.num := by
  obtain ⟨h1, rfl⟩ := List.getElem?_eq_some_iff.1 hi
  obtain ⟨h2, rfl⟩ := List.getElem?_eq_some_iff.1 hj
  exact List.pairwise_iff_getElem.1 h i j h1 h2 hij
theorem AscM.idx {l : List Mp} (h : AscM l) {i j : Nat} {f : Mp} (hi : l[i]? = some f) (hj : l[j]? = some f) : i = j := by
  rcases Nat.lt_trichotomy i j with hlt | rfl | hlt
  · have := h.lt hi hj hlt; omega
  · rfl
  · have := h.lt hj hi hlt; omega
theorem AscM.ext : ∀ {l l' : List Mp}, AscM l → AscM l' → (∀ f, f ∈ l ↔ f ∈ l') → l = l'
  | [], [], _, _, _ => rfl
  | [], g :: l', _, _, h => absurd ((h g).2 (by simp)) (by simp)
  | f :: l, [], _, _, h => absurd ((h f).1 (by simp)) (by simp)
  | f :: l, g :: l', h1, h2, h => by
    obtain ⟨a1, a2⟩ := List.pairwise_cons.1 h1
    obtain ⟨b1, b2⟩ := List.pairwise_cons.1 h2
    have e : f = g := by
      rcases List.mem_cons.1 ((h f).1 (by simp)) with e | hf
      · exact e
      · rcases List.mem_cons.1 ((h g).2 (by simp)) with e | hg
        · exact e.symm
        · have := a1 g hg; have := b1 f hf; omega
    subst e
    rw [AscM.ext a2 b2 fun k => ?_]
    constructor
    · intro hk
      rcases List.mem_cons.1 ((h k).1 (List.mem_cons_of_mem _ hk)) with e | hk'
      · subst e; have := a1 k hk; omega
      · exact hk'
    · intro hk
      rcases List.mem_cons.1 ((h k).2 (List.mem_cons_of_mem _ hk)) with e | hk'
      · subst e; have := b1 k hk; omega
      · exact hk'
/-- how many elements lie below -/
def below (l : List Mp) (f : Mp) : Nat := (l.takeWhile fun g => decide (g.num < f.num)).length
theorem below_le (l : List Mp) (f : Mp) : below l f ≤ l.length := by
  unfold below
  exact (List.takeWhile_prefix _).length_le
theorem below_of {l : List Mp} {f : Mp} {k : Nat} (hk : k ≤ l.length) (h1 : ∀ i g, i < k → l[i]? = some g → g.num < f.num) (h2 : ∀ g, l[k]? = some g → ¬ g.num < f.num) : below l f = k := by
  unfold below
  induction l generalizing k with
  | nil => simp at hk; subst hk; rfl
  | cons g l ih =>
    cases k with
    | zero =>
      have := h2 g (by simp)
      rw [List.takeWhile_cons, if_neg (by simpa using this)]
      rfl
    | succ k =>
      have := h1 0 g (by omega) (by simp)
      rw [List.takeWhile_cons, if_pos (by simpa using this), List.length_cons]
      rw [ih (k := k) (by simpa using hk) (fun i x hi hx => h1 (i + 1) x (by omega) (by simpa using hx)) (fun x hx => h2 x (by simpa using hx))]
theorem below_lt {l : List Mp} {f : Mp} : ∀ {i : Nat} {g : Mp}, i < below l f → l[i]? = some g → g.num < f.num := by
  unfold below
  induction l with
  | nil => intro i g _ h; simp at h
  | cons x l ih =>
    intro i g hi hg
    by_cases hx : x.num < f.num
    · rw [List.takeWhile_cons, if_pos (by simpa using hx), List.length_cons] at hi
      cases i with
      | zero => simp at hg; subst hg; exact hx
      | succ i => exact ih (i := i) (by omega) (by simpa using hg)
    · rw [List.takeWhile_cons, if_neg (by simpa using hx)] at hi
      simp at hi
theorem below_ge {l : List Mp} {f : Mp} : ∀ {g : Mp}, l[below l f]? = some g → ¬ g.num < f.num := by
  unfold below
  induction l with
  | nil => intro g h; simp at h
  | cons x l ih =>
    intro g hg
    by_cases hx : x.num < f.num
    · rw [List.takeWhile_cons, if_pos (by simpa using hx), List.length_cons] at hg
      exact ih (by simpa using hg)
    · rw [List.takeWhile_cons, if_neg (by simpa using hx)] at hg
      simp at hg
      subst hg
      exact hx
theorem AscM.ge {l : List Mp} (h : AscM l) {f : Mp} {i : Nat} {g : Mp} (hi : below l f ≤ i) (hg : l[i]? = some g) : f.num ≤ g.num := by
  have hl : below l f < l.length := Nat.lt_of_le_of_lt hi (List.getElem?_eq_some_iff.1 hg).1
  have hb := below_ge (l := l) (f := f) (List.getElem?_eq_getElem hl)
  rcases Nat.lt_or_eq_of_le hi with hlt | rfl
  · have := h.lt (List.getElem?_eq_getElem hl) hg hlt
    omega
  · rw [List.getElem?_eq_getElem hl] at hg
    obtain rfl := Option.some.inj hg
    omega
/-- f put into an ascending list -/
def putM (l : List Mp) (f : Mp) : List Mp := if l[below l f]? = some f then l else l.take (below l f) ++ f :: l.drop (below l f)
theorem mem_below {l : List Mp} (h : AscM l) {f : Mp} : f ∈ l ↔ l[below l f]? = some f := by
  constructor
  · intro hf
    obtain ⟨i, hi, e⟩ := List.mem_iff_getElem.1 hf
    have hi' : l[i]? = some f := by rw [List.getElem?_eq_getElem hi, e]
    rcases Nat.lt_trichotomy i (below l f) with hlt | rfl | hgt
    · have := below_lt hlt hi'; omega
    · exact hi'
    · have hl : below l f < l.length := by omega
      have hb := below_ge (l := l) (f := f) (List.getElem?_eq_getElem hl)
      have := h.lt (List.getElem?_eq_getElem hl) hi' hgt
      omega
  · exact fun hf => List.mem_of_getElem? hf
theorem mem_putM {l : List Mp} {f g : Mp} : g ∈ putM l f ↔ g ∈ l ∨ g = f := by
  unfold putM
  split
  · rename_i hf
    constructor
    · exact fun h => .inl h
    · rintro (h | rfl)
      · exact h
      · exact List.mem_of_getElem? hf
  · rw [List.mem_append, List.mem_cons]
    constructor
    · rintro (h | rfl | h)
      · exact .inl (List.mem_of_mem_take h)
      · exact .inr rfl
      · exact .inl (List.mem_of_mem_drop h)
    · rintro (h | rfl)
      · rw [← List.take_append_drop (below l f) l, List.mem_append] at h
        rcases h with h | h
        · exact .inl h
        · exact .inr (.inr h)
      · exact .inr (.inl rfl)
theorem AscM.put {l : List Mp} (h : AscM l) {n : Int} (hl : ∀ g ∈ l, MpN g n) {f : Mp} (hf : MpN f n) : AscM (putM l f) := by
  unfold putM
  split
  · exact h
  · rename_i hno
    unfold AscM
    rw [List.pairwise_append, List.pairwise_cons]
    have hlo : ∀ g ∈ l.take (below l f), g.num < f.num := fun g hg => by
      obtain ⟨i, hi, e⟩ := List.mem_iff_getElem.1 hg
      have hi2 : i < below l f := by have := hi; rw [List.length_take] at this; omega
      exact below_lt hi2 (by rw [← e, List.getElem_take, List.getElem?_eq_getElem])
    have hhi : ∀ g ∈ l.drop (below l f), f.num < g.num := fun g hg => by
      obtain ⟨i, hi, e⟩ := List.mem_iff_getElem.1 hg
      have hg' : l[below l f + i]? = some g := by rw [← e, List.getElem_drop, List.getElem?_eq_getElem]
      have hge := h.ge (f := f) (Nat.le_add_right _ _) hg'
      have hne : f ≠ g := by
        rintro rfl
        exact hno ((mem_below h).1 (List.mem_of_getElem? hg'))
      have : f.num ≠ g.num := fun e => hne (num_inj hf (hl g (List.mem_of_getElem? hg')) e)
      omega
    refine ⟨h.sublist (List.take_sublist _ _), ⟨hhi, h.sublist (List.drop_sublist _ _)⟩, fun a ha b hb => ?_⟩
    rcases List.mem_cons.1 hb with rfl | hb
    · exact hlo a ha
    · have := hlo a ha; have := hhi b hb; omega
/-- the maps of a list in order, each once -/
def sortM (l : List Mp) : List Mp := l.foldl putM []
theorem foldl_put : ∀ (l acc : List Mp) {n : Int}, AscM acc → (∀ g ∈ acc, MpN g n) → (∀ g ∈ l, MpN g n) → AscM (l.foldl putM acc) ∧ ∀ f, f ∈ l.foldl putM acc ↔ f ∈ acc ∨ f ∈ l
  | [], acc, n, h, _, _ => ⟨h, fun f => by simp⟩
  | g :: l, acc, n, h, h1, h2 => by
    have hg := h2 g (by simp)
    obtain ⟨r1, r2⟩ := foldl_put l (putM acc g) (n := n) (h.put h1 hg) (fun f hf => by
      rcases mem_putM.1 hf with hf | rfl
      · exact h1 f hf
      · exact hg) (fun f hf => h2 f (by simp [hf]))
    refine ⟨r1, fun f => ?_⟩
    rw [List.foldl_cons, r2 f, mem_putM, List.mem_cons]
    constructor
    · rintro ((h | h) | h)
      · exact .inl h
      · exact .inr (.inl h)
      · exact .inr (.inr h)
    · rintro (h | h | h)
      · exact .inl (.inl h)
      · exact .inl (.inr h)
      · exact .inr h
theorem sortM_asc {l : List Mp} {n : Int} (h : ∀ g ∈ l, MpN g n) : AscM (sortM l) := (foldl_put l [] AscM.nil (by simp) h).1
theorem mem_sortM {l : List Mp} {n : Int} (h : ∀ g ∈ l, MpN g n) {f : Mp} : f ∈ sortM l ↔ f ∈ l := by
  have := (foldl_put l [] AscM.nil (by simp) h).2 f
  unfold sortM
  simpa using this
theorem length_same {α : Type} {l l' : List α} (h : l.Nodup) (h' : l'.Nodup) (hm : ∀ x, x ∈ l ↔ x ∈ l') : l.length = l'.length :=
  Nat.le_antisymm (h.length_le_of_subset fun x hx => (hm x).1 hx) (h'.length_le_of_subset fun x hx => (hm x).2 hx)
theorem sortM_length {l : List Mp} {n : Int} (h : ∀ g ∈ l, MpN g n) (hd : l.Nodup) : (sortM l).length = l.length :=
  length_same (sortM_asc h).nodup hd fun _ => mem_sortM h
/-! ### The queue of a monoid's elements -/
section
variable {σ : Type} [DecidableEq σ] {st : Nat → σ → σ} {L : Nat} {start : σ}
structure FineP (P : σ → Prop) (q : List (σ × List Int)) : Prop where
  mem : ∀ m ∈ q, P m.1
  nodup : (q.map Prod.fst).Nodup
theorem g1_fineP {P : σ → Prop} {now : σ × List Int} {q : List (σ × List Int)} {j : Nat} (h : FineP P q) (hn : P (st j now.1)) : FineP P (g1 st now q j) := by
  unfold g1
  split
  · exact h
  · rename_i hno
    refine ⟨fun m hm => ?_, ?_⟩
    · rcases List.mem_append.1 hm with hm | hm
      · exact h.mem m hm
      · rw [List.mem_singleton.1 hm]; exact hn
    · rw [List.map_append, List.nodup_append]
      refine ⟨h.nodup, by simp, fun a ha b hb => ?_⟩
      rw [List.map_cons, List.map_nil, List.mem_singleton] at hb
      subst hb
      intro e
      obtain ⟨m, hm, rfl⟩ := List.mem_map.1 ha
      exact hno (List.any_eq_true.2 ⟨m, hm, by simpa using e⟩)
theorem gTo_fineP {P : σ → Prop} {now : σ × List Int} {q : List (σ × List Int)} (h : FineP P q) : ∀ k, (∀ j, j < k → P (st j now.1)) → FineP P (gTo st now q k)
  | 0, _ => h
  | k + 1, hn => g1_fineP (gTo_fineP h k fun j hj => hn j (by omega)) (hn k (by omega))
theorem gb_fineP {P : σ → Prop} (h0 : P start) (hs : ∀ j, j < L → ∀ s, P s → P (st j s)) : ∀ i, FineP P (gb st L start i)
  | 0 => ⟨fun m hm => by rw [List.mem_singleton.1 hm]; exact h0, by simp [gb]⟩
  | i + 1 => by
    have ih := gb_fineP h0 hs i
    cases hn : (gb st L start i)[i]? with
    | some now => rw [gb_succ hn]; exact gTo_fineP ih L fun j hj => hs j hj _ (ih.mem now (List.mem_of_getElem? hn))
    | none => rw [gb_stop hn]; exact ih
/-- a queue that has ended at N stays as it is -/
theorem gb_len_le {i j : Nat} (h : i ≤ j) : (gb st L start i).length ≤ (gb st L start j).length := by
  obtain ⟨t, ht⟩ := gb_prefix_le (st := st) (L := L) (start := start) h
  rw [ht, List.length_append]
  omega
end
/-- the step by a letter -/
def mst (ms : List Mp) (j : Nat) (g : Mp) : Mp := mulM g (ms.getD j Mp.z)
/-- the queue ahead of round i -/
def monB (ms : List Mp) (n : Int) (i : Nat) : List (Mp × List Int) := gb (mst ms) ms.length (idM n) i
/-- the whole queue; more than 300 elements are too many -/
def monQ (ms : List Mp) (n : Int) : List (Mp × List Int) := monB ms n 301
/-- the elements in order -/
def els (ms : List Mp) (n : Int) : List Mp := sortM ((monQ ms n).map Prod.fst)
theorem getD_MpN {ms : List Mp} {n : Int} (h : RightL ms n) {j : Nat} (hj : j < ms.length) : MpN (ms.getD j Mp.z) n := by
  rw [List.getD_eq_getElem?_getD, List.getElem?_eq_getElem hj]
  exact h.all _ (List.getElem_mem hj)
theorem monB_fine {ms : List Mp} {n : Int} (h : RightL ms n) (i : Nat) : FineP (fun g => MpN g n) (monB ms n i) :=
  gb_fineP (P := fun g => MpN g n) (idM_MpN h.bounds.1 h.bounds.2) (fun j hj s hs => mulM_MpN hs (getD_MpN h hj)) i
theorem monQ_MpN {ms : List Mp} {n : Int} (h : RightL ms n) : ∀ g ∈ (monQ ms n).map Prod.fst, MpN g n := fun g hg => by
  obtain ⟨m, hm, rfl⟩ := List.mem_map.1 hg
  exact (monB_fine h 301).mem m hm
theorem els_asc {ms : List Mp} {n : Int} (h : RightL ms n) : AscM (els ms n) := sortM_asc (monQ_MpN h)
theorem mem_els {ms : List Mp} {n : Int} (h : RightL ms n) {f : Mp} : f ∈ els ms n ↔ f ∈ (monQ ms n).map Prod.fst := mem_sortM (monQ_MpN h)
theorem els_MpN {ms : List Mp} {n : Int} (h : RightL ms n) : ∀ f ∈ els ms n, MpN f n := fun f hf => monQ_MpN h f ((mem_els h).1 hf)
theorem els_length {ms : List Mp} {n : Int} (h : RightL ms n) : (els ms n).length = (monQ ms n).length := by
  rw [els, sortM_length (monQ_MpN h) (monB_fine h 301).nodup, List.length_map]
/-- a queue that ends with at most 300 elements is the whole queue -/
theorem monQ_of_end {ms : List Mp} {n : Int} {N : Nat} (h : (monB ms n N)[N]? = none) (hN : (monB ms n N).length ≤ 300) : monQ ms n = monB ms n N := by
  have hl := List.getElem?_eq_none_iff.1 h
  rcases Nat.le_total N 301 with hle | hge
  · exact gb_same h 301 hle
  · have h2 : (monB ms n 301).length ≤ (monB ms n N).length := gb_len_le hge
    have h3 : (monB ms n 301)[301]? = none := List.getElem?_eq_none (by omega)
    exact (gb_same h3 N hge).symm
/-- a queue that has grown too long is too long -/
theorem monQ_big {ms : List Mp} {n : Int} {i : Nat} (h : 300 < (monB ms n i).length) (hi : i ≤ 301) : 300 < (monQ ms n).length := Nat.lt_of_lt_of_le h (gb_len_le hi)
theorem monQ_end {ms : List Mp} {n : Int} (h : (monQ ms n).length ≤ 300) : (monB ms n 301)[301]? = none := List.getElem?_eq_none (by unfold monQ at h; omega)
theorem id_mem {ms : List Mp} {n : Int} (h : RightL ms n) : idM n ∈ els ms n := by
  rw [mem_els h]
  obtain ⟨t, ht⟩ := gb_prefix_le (st := mst ms) (L := ms.length) (start := idM n) (Nat.zero_le 301)
  have : monQ ms n = [(idM n, [])] ++ t := ht
  rw [this]
  simp
/-- a letter more leads from elements to elements -/
theorem els_step {ms : List Mp} {n : Int} (h : RightL ms n) (hs : (monQ ms n).length ≤ 300) {f : Mp} (hf : f ∈ els ms n) {j : Nat} (hj : j < ms.length) : mst ms j f ∈ els ms n := by
  rw [mem_els h] at hf ⊢
  obtain ⟨m, hm, rfl⟩ := List.mem_map.1 hf
  obtain ⟨i, hi, e⟩ := List.mem_iff_getElem.1 hm
  have hi' : (gb (mst ms) ms.length (idM n) 301)[i]? = some m := (List.getElem?_eq_getElem hi).trans (congrArg some e)
  have hi2 : i < (gb (mst ms) ms.length (idM n) 301).length := hi
  have hs2 : (gb (mst ms) ms.length (idM n) 301).length ≤ 300 := hs
  obtain ⟨m2, hm2, e2, _⟩ := (gb_ord (st := mst ms) (start := idM n) h.six 301).clo i m j hi' hj (.inl (by omega))
  exact List.mem_map.2 ⟨m2, hm2, e2⟩
theorem els_word {ms : List Mp} {n : Int} (h : RightL ms n) {f : Mp} (hf : f ∈ els ms n) : ∃ u, InL ms.length u ∧ f = run (mst ms) (idM n) u := by
  rw [mem_els h] at hf
  obtain ⟨m, hm, rfl⟩ := List.mem_map.1 hf
  obtain ⟨e1, e2⟩ := (gb_ord (st := mst ms) (start := idM n) h.six 301).snd m hm
  exact ⟨m.2, e2, e1⟩
theorem els_run {ms : List Mp} {n : Int} (h : RightL ms n) (hs : (monQ ms n).length ≤ 300) {f : Mp} (hf : f ∈ els ms n) : ∀ u, InL ms.length u → run (mst ms) f u ∈ els ms n := by
  intro u
  induction u generalizing f with
  | nil => intro _; exact hf
  | cons k u ih =>
    intro hu
    have hk := hu k (by simp)
    exact ih (els_step h hs hf (by omega)) fun j hj => hu j (by simp [hj])
theorem run_mul {ms : List Mp} {n : Int} (h : RightL ms n) : ∀ (u : List Int), InL ms.length u → ∀ {f g : Mp}, MpN f n → MpN g n → run (mst ms) (mulM f g) u = mulM f (run (mst ms) g u) ∧ MpN (run (mst ms) g u) n
  | [], _, f, g, hf, hg => ⟨rfl, hg⟩
  | k :: u, hu, f, g, hf, hg => by
    have hk := hu k (by simp)
    have hm := getD_MpN h (j := k.toNat) (by omega)
    have := run_mul h u (fun j hj => hu j (by simp [hj])) hf (mulM_MpN hg hm)
    rw [← mulM_assoc hf hg hm] at this
    exact this
/-- products of elements are elements -/
theorem els_mul {ms : List Mp} {n : Int} (h : RightL ms n) (hs : (monQ ms n).length ≤ 300) {f g : Mp} (hf : f ∈ els ms n) (hg : g ∈ els ms n) : mulM f g ∈ els ms n := by
  obtain ⟨u, hu, rfl⟩ := els_word h hg
  have hfN := els_MpN h f hf
  have := (run_mul h u hu hfN (idM_MpN h.bounds.1 h.bounds.2)).1
  rw [mulM_id_right hfN] at this
  rw [← this]
  exact els_run h hs hf u hu
/-- the place of a map among the elements -/
def placeOf (l : List Mp) (f : Mp) : Option Nat := if l[below l f]? = some f then some (below l f) else none
attribute [irreducible] monQ els
end Go.Proofs.YtilfamenadaboaaGreat
