/- The plain law of ideals: sets of places are products put in order; the meet of all ideals is the ideal of an element with the least rank. No condition. -/
import Derived.Test.YtilfamenadaboaaGreatIdeals
import Derived.Test.YtilfamenadaboaaGreatIdlS
import Derived.Test.YtilfamenadaboaaGreatBits
namespace Go.Proofs.YtilfamenadaboaaGreat
set_option linter.unusedSimpArgs false
set_option linter.unusedVariables false
set_option linter.unusedSectionVars false
section
variable {l : List Mp} {n : Int}
open Classical in
theorem Clo.filtered (hc : Clo l n) {L : List Mp} {R : Nat → Prop} (hL : ∀ g ∈ L, g ∈ l) (h : ∀ q g, l[q]? = some g → (R q ↔ g ∈ L)) : l.filter (inSetB l R) = sortM L := by
  obtain ⟨s1, s2, _, _⟩ := hc.sorted hL
  refine AscM.ext (hc.asc.sublist List.filter_sublist) s1 fun g => ?_
  rw [s2, List.mem_filter]
  constructor
  · rintro ⟨h1, h2⟩
    obtain ⟨q, hq, e⟩ := List.mem_iff_getElem.1 h1
    have hq' : l[q]? = some g := by rw [List.getElem?_eq_getElem hq, e]
    rw [inSetB_at hc.asc hq', decide_eq_true_eq] at h2
    exact (h q g hq').1 h2
  · intro h1
    have h2 := hL g h1
    refine ⟨h2, ?_⟩
    obtain ⟨q, hq, e⟩ := List.mem_iff_getElem.1 h2
    have hq' : l[q]? = some g := by rw [List.getElem?_eq_getElem hq, e]
    rw [inSetB_at hc.asc hq', decide_eq_true_eq]
    exact (h q g hq').2 h1
theorem idx_of {l : List Mp} {g : Mp} (h : g ∈ l) : ∃ q : Nat, q < l.length ∧ l[q]? = some g := by
  obtain ⟨q, hq, e⟩ := List.mem_iff_getElem.1 h
  exact ⟨q, hq, by rw [List.getElem?_eq_getElem hq, e]⟩
theorem mpl_eq (hc : Clo l n) {i k q : Nat} {f h g : Mp} (hi : l[i]? = some f) (hk : l[k]? = some h) (hq : l[q]? = some g) : q = mpl l i k ↔ g = mulM f h := by
  have hlt := fun {j : Nat} {x : Mp} (hj : l[j]? = some x) => (List.getElem?_eq_some_iff.1 hj).1
  obtain ⟨f', h', e1, e2, e3, _⟩ := mpl_at hc (hlt hi) (hlt hk)
  rw [hi] at e1
  rw [hk] at e2
  obtain rfl := Option.some.inj e1
  obtain rfl := Option.some.inj e2
  have e4 := plc_at hc.asc hq
  have e5 := plc_eq hc.asc (f := g) (g := mulM f h) (List.mem_of_getElem? hq)
  rw [e4, e3] at e5
  rw [← e5]
  omega
theorem rightTo_iff (hc : Clo l n) {i q : Nat} {f g : Mp} (hi : l[i]? = some f) (hq : l[q]? = some g) : rightTo l.length (mpl l) l.length 0 i q ↔ g ∈ l.map (fun h => mulM f h) := by
  rw [List.mem_map]
  constructor
  · rintro ⟨k, hk, _, e⟩
    obtain ⟨h, hh⟩ := el hk
    exact ⟨h, List.mem_of_getElem? hh, ((mpl_eq hc hi hh hq).1 e).symm⟩
  · rintro ⟨h, hh, e⟩
    obtain ⟨k, hk, hk'⟩ := idx_of hh
    exact ⟨k, hk, .inl (List.getElem?_eq_some_iff.1 hi).1, (mpl_eq hc hi hk' hq).2 e.symm⟩
theorem leftTo_iff (hc : Clo l n) {k q : Nat} {f g : Mp} (hk : l[k]? = some f) (hq : l[q]? = some g) : leftTo l.length (mpl l) l.length 0 k q ↔ g ∈ l.map (fun h => mulM h f) := by
  rw [List.mem_map]
  constructor
  · rintro ⟨i, hi, _, e⟩
    obtain ⟨h, hh⟩ := el hi
    exact ⟨h, List.mem_of_getElem? hh, ((mpl_eq hc hh hk hq).1 e).symm⟩
  · rintro ⟨h, hh, e⟩
    obtain ⟨i, hi, hi'⟩ := idx_of hh
    exact ⟨i, hi, .inl hi, (mpl_eq hc hi' hk hq).2 e.symm⟩
theorem mem_right (hc : Clo l n) {f g : Mp} (hf : f ∈ l) : g ∈ rightM l f ↔ ∃ y ∈ l, g = mulM f y := by
  unfold rightM
  rw [(hc.sorted (hc.rights hf)).2.1, List.mem_map]
  constructor <;> (rintro ⟨y, h1, h2⟩; exact ⟨y, h1, h2.symm⟩)
theorem mem_left (hc : Clo l n) {f g : Mp} (hf : f ∈ l) : g ∈ leftM l f ↔ ∃ x ∈ l, g = mulM x f := by
  unfold leftM
  rw [(hc.sorted (hc.lefts hf)).2.1, List.mem_map]
  constructor <;> (rintro ⟨y, h1, h2⟩; exact ⟨y, h1, h2.symm⟩)
theorem mem_flat (hc : Clo l n) {f g : Mp} (hf : f ∈ l) : g ∈ (leftM l f).flatMap (rightM l) ↔ ∃ x ∈ l, ∃ y ∈ l, g = mulM (mulM x f) y := by
  rw [List.mem_flatMap]
  constructor
  · rintro ⟨h, h1, h2⟩
    obtain ⟨y, hy, e⟩ := (mem_right hc (hc.left hf h h1)).1 h2
    obtain ⟨x, hx, rfl⟩ := (mem_left hc hf).1 h1
    exact ⟨x, hx, y, hy, e⟩
  · rintro ⟨x, hx, y, hy, e⟩
    exact ⟨mulM x f, (mem_left hc hf).2 ⟨x, hx, rfl⟩, (mem_right hc (hc.mul x hx f hf)).2 ⟨y, hy, e⟩⟩
theorem bothTo_iff (hc : Clo l n) {i q : Nat} {f g : Mp} (hi : l[i]? = some f) (hq : l[q]? = some g) :
    bothTo l.length (rightTo l.length (mpl l) l.length 0) (leftTo l.length (mpl l) l.length 0) l.length 0 i q ↔ g ∈ (leftM l f).flatMap (rightM l) := by
  have hf := (hc.get hi)
  rw [mem_flat hc hf.1]
  constructor
  · rintro ⟨k, hk, _, hr, hl⟩
    obtain ⟨h, hh⟩ := el hk
    rw [rightTo_iff hc hi hh, List.mem_map] at hr
    rw [leftTo_iff hc hh hq, List.mem_map] at hl
    obtain ⟨y, hy, rfl⟩ := hr
    obtain ⟨x, hx, rfl⟩ := hl
    exact ⟨x, hx, y, hy, (mulM_assoc (hc.all x hx) hf.2 (hc.all y hy)).symm⟩
  · rintro ⟨x, hx, y, hy, rfl⟩
    obtain ⟨k, hk, hk'⟩ := idx_of (hc.mul f hf.1 y hy)
    refine ⟨k, hk, .inl (List.getElem?_eq_some_iff.1 hi).1, ?_, ?_⟩
    · rw [rightTo_iff hc hi hk', List.mem_map]
      exact ⟨y, hy, rfl⟩
    · rw [leftTo_iff hc hk' hq, List.mem_map]
      exact ⟨x, hx, (mulM_assoc (hc.all x hx) hf.2 (hc.all y hy)).symm⟩
theorem right_law (hc : Clo l n) {i : Nat} {f : Mp} (hi : l[i]? = some f) : l.filter (inSetB l (rightTo l.length (mpl l) l.length 0 i)) = rightM l f :=
  hc.filtered (hc.rights (hc.get hi).1) fun _ _ hq => rightTo_iff hc hi hq
theorem left_law (hc : Clo l n) {i : Nat} {f : Mp} (hi : l[i]? = some f) : l.filter (inSetB l (leftTo l.length (mpl l) l.length 0 i)) = leftM l f :=
  hc.filtered (hc.lefts (hc.get hi).1) fun _ _ hq => leftTo_iff hc hi hq
theorem both_law (hc : Clo l n) {i : Nat} {f : Mp} (hi : l[i]? = some f) : l.filter (inSetB l (bothTo l.length (rightTo l.length (mpl l) l.length 0) (leftTo l.length (mpl l) l.length 0) l.length 0 i)) = idealM l f :=
  hc.filtered (hc.flat (hc.get hi).1) fun _ _ hq => bothTo_iff hc hi hq
end
/-! ### Ranks -/
def Mp.ato (f : Mp) (p : Nat) : Nat := (f.to p).toNat
def imP (n : Int) (f : Mp) : List Nat := (List.range 5).filter fun q => (List.range n.toNat).any fun p => f.ato p == q
theorem movedTo_bit (f : Mp) (S : Nat) : ∀ k q, (movedTo f S k).testBit q = true ↔ ∃ p, p < k ∧ S.testBit p = true ∧ f.ato p = q
  | 0, q => by simp [movedTo]
  | k + 1, q => by
    have ih := movedTo_bit f S k q
    unfold movedTo
    split
    · rename_i h
      rw [Nat.testBit_or, Bool.or_eq_true, ih, Nat.one_shiftLeft, Nat.testBit_two_pow, decide_eq_true_eq]
      constructor
      · rintro (⟨p, h1, h2, h3⟩ | h1)
        · exact ⟨p, by omega, h2, h3⟩
        · exact ⟨k, by omega, h, h1⟩
      · rintro ⟨p, h1, h2, h3⟩
        by_cases e : p = k
        · subst e; exact .inr h3
        · exact .inl ⟨p, by omega, h2, h3⟩
    · rename_i h
      rw [ih]
      constructor
      · rintro ⟨p, h1, h2, h3⟩; exact ⟨p, by omega, h2, h3⟩
      · rintro ⟨p, h1, h2, h3⟩
        have : p ≠ k := fun e => h (e ▸ h2)
        exact ⟨p, by omega, h2, h3⟩
theorem onesB_len : ∀ S, S < 32 → onesB S = ((List.range 5).filter S.testBit).length := by decide
section
variable {f g b u : Mp} {n : Int}
theorem MpN.toNat (h : MpN f n) : f.p.toNat = n.toNat ∧ n.toNat ≤ 5 := by
  have := h.le
  have := h.2
  omega
theorem rank_len (hf : MpN f n) : rankN n f = ((imP n f).length : Int) := by
  have h5 := hf.toNat
  have hl := movedB_lt hf (2 ^ n.toNat - 1)
  have h32 : 2 ^ n.toNat ≤ 2 ^ 5 := Nat.pow_le_pow_right (by decide) h5.2
  unfold rankN
  rw [onesB_len _ (by omega)]
  unfold imP
  congr 2
  refine List.filter_congr fun q _ => ?_
  rw [Bool.eq_iff_iff, List.any_eq_true]
  unfold movedB
  rw [movedTo_bit, h5.1]
  constructor
  · rintro ⟨p, h1, _, h3⟩; exact ⟨p, List.mem_range.2 h1, by simpa using h3⟩
  · rintro ⟨p, h1, h3⟩
    have := List.mem_range.1 h1
    exact ⟨p, this, by rw [Nat.testBit_two_pow_sub_one]; exact decide_eq_true this, by simpa using h3⟩
theorem MpN.ato (h : MpN f n) {p : Nat} (hp : p < n.toNat) : f.ato p < n.toNat := by
  have := h.at (p := (p : Int)) (by omega) (by omega)
  unfold Mp.at at this
  rw [Int.toNat_natCast] at this
  unfold Mp.ato
  omega
theorem mem_imP (h : MpN f n) {q : Nat} : q ∈ imP n f ↔ ∃ p, p < n.toNat ∧ f.ato p = q := by
  unfold imP
  rw [List.mem_filter, List.any_eq_true]
  constructor
  · rintro ⟨_, p, h1, h2⟩; exact ⟨p, List.mem_range.1 h1, by simpa using h2⟩
  · rintro ⟨p, h1, h2⟩
    have h3 := h.ato h1
    have h4 := h.toNat
    exact ⟨List.mem_range.2 (by omega), p, List.mem_range.2 h1, by simpa using h2⟩
theorem imP_nodup (n : Int) (f : Mp) : (imP n f).Nodup := List.Pairwise.filter _ List.nodup_range
theorem ato_mul (hf : MpN f n) (hg : MpN g n) {p : Nat} (hp : p < n.toNat) : (mulM f g).ato p = g.ato (f.ato p) := by
  have h := mulM_at (g := g) hf (p := (p : Int)) (by omega) (by omega)
  unfold Mp.at at h
  rw [Int.toNat_natCast] at h
  unfold Mp.ato
  rw [h]
theorem rank_mul_right (hf : MpN f n) (hg : MpN g n) : rankN n (mulM f g) ≤ rankN n g := by
  have hm := mulM_MpN hf hg
  rw [rank_len hm, rank_len hg]
  have := (imP_nodup n (mulM f g)).length_le_of_subset (l₂ := imP n g) fun q hq => by
    obtain ⟨p, hp, e⟩ := (mem_imP hm).1 hq
    rw [ato_mul hf hg hp] at e
    exact (mem_imP hg).2 ⟨_, hf.ato hp, e⟩
  omega
theorem rank_mul_left (hf : MpN f n) (hg : MpN g n) : rankN n (mulM f g) ≤ rankN n f := by
  have hm := mulM_MpN hf hg
  rw [rank_len hm, rank_len hf]
  have := (imP_nodup n (mulM f g)).length_le_of_subset (l₂ := (imP n f).map g.ato) fun q hq => by
    obtain ⟨p, hp, e⟩ := (mem_imP hm).1 hq
    rw [ato_mul hf hg hp] at e
    exact List.mem_map.2 ⟨_, (mem_imP hf).2 ⟨p, hp, rfl⟩, e⟩
  rw [List.length_map] at this
  omega
theorem sub_of_len {a b : List Nat} (ha : a.Nodup) (hab : ∀ x ∈ a, x ∈ b) (hl : b.length ≤ a.length) : ∀ x ∈ b, x ∈ a := fun x hx => Classical.byContradiction fun hn => by
  have := (List.nodup_cons.2 ⟨hn, ha⟩).length_le_of_subset (l₂ := b) fun y hy => by
    rcases List.mem_cons.1 hy with rfl | hy
    · exact hx
    · exact hab y hy
  simp at this
  omega
theorem inj_of_onto {A : List Nat} {v : Nat → Nat} (hA : A.Nodup) (h : ∀ x ∈ A, ∃ y ∈ A, v y = x) : ∀ p ∈ A, ∀ q ∈ A, v p = v q → p = q := fun p hp q hq e => Classical.byContradiction fun hn => by
  have := hA.length_le_of_subset (l₂ := (A.erase p).map v) fun x hx => by
    obtain ⟨y, hy, rfl⟩ := h x hx
    by_cases hyp : y = p
    · subst hyp
      exact List.mem_map.2 ⟨q, (List.mem_erase_of_ne (fun h => hn h.symm)).2 hq, e.symm⟩
    · exact List.mem_map.2 ⟨y, (List.mem_erase_of_ne hyp).2 hy, rfl⟩
  rw [List.length_map, List.length_erase_of_mem hp] at this
  have := List.length_pos_of_mem hp
  omega
/-- a map's points moved on k times -/
def itN (u : Mp) : Nat → Nat → Nat
  | 0, x => x
  | k + 1, x => u.ato (itN u k x)
theorem itN_add (u : Mp) (m x : Nat) : ∀ i, itN u (i + m) x = itN u i (itN u m x)
  | 0 => by rw [Nat.zero_add]; rfl
  | i + 1 => by
    rw [show i + 1 + m = (i + m) + 1 by omega]
    show u.ato _ = u.ato _
    rw [itN_add u m x i]
def pwM (b u : Mp) : Nat → Mp
  | 0 => b
  | k + 1 => mulM (pwM b u k) u
theorem pw_at (hb : MpN b n) (hu : MpN u n) : ∀ k, MpN (pwM b u k) n ∧ ∀ p, p < n.toNat → (pwM b u k).ato p = itN u k (b.ato p)
  | 0 => ⟨hb, fun _ _ => rfl⟩
  | k + 1 => by
    obtain ⟨h1, h2⟩ := pw_at hb hu k
    refine ⟨mulM_MpN h1 hu, fun p hp => ?_⟩
    show (mulM (pwM b u k) u).ato p = u.ato _
    rw [ato_mul h1 hu hp, h2 p hp]
theorem ato_ext (hf : MpN f n) (hg : MpN g n) (h : ∀ p, p < n.toNat → f.ato p = g.ato p) : f = g := MpN.ext hf hg fun p h0 h1 => by
  have h2 := hf.at h0 h1
  have h3 := hg.at h0 h1
  have := h p.toNat (by omega)
  unfold Mp.ato at this
  unfold Mp.at at h2 h3 ⊢
  omega
variable {l : List Mp}
/-- an element with the least rank lies in all ideals -/
theorem least_in (hc : Clo l n) (hb : b ∈ l) (hf : f ∈ l) (hr : rankN n b ≤ rankN n (mulM (mulM b f) b)) : ∃ x ∈ l, ∃ y ∈ l, b = mulM (mulM x f) y := by
  have bN := hc.all b hb
  have fN := hc.all f hf
  obtain ⟨u, hu⟩ : ∃ u, u = mulM f b := ⟨_, rfl⟩
  have uN : MpN u n := by rw [hu]; exact mulM_MpN fN bN
  have um : u ∈ l := by rw [hu]; exact hc.mul f hf b hb
  have ec : mulM (mulM b f) b = mulM b u := by rw [hu, mulM_assoc bN fN bN]
  rw [ec] at hr
  have cN := mulM_MpN bN uN
  rw [rank_len bN, rank_len cN] at hr
  have into : ∀ y, y < n.toNat → u.ato y ∈ imP n b := fun y hy => (mem_imP bN).2 ⟨f.ato y, fN.ato hy, by rw [hu, ato_mul fN bN hy]⟩
  have sub : ∀ x ∈ imP n (mulM b u), x ∈ imP n b := fun x hx => by
    obtain ⟨p, hp, e⟩ := (mem_imP cN).1 hx
    rw [ato_mul bN uN hp] at e
    rw [← e]
    exact into _ (bN.ato hp)
  have sup := sub_of_len (imP_nodup n (mulM b u)) sub (by omega)
  have lt : ∀ x ∈ imP n b, x < n.toNat := fun x hx => by
    obtain ⟨p, hp, rfl⟩ := (mem_imP bN).1 hx
    exact bN.ato hp
  have inj := inj_of_onto (v := u.ato) (imP_nodup n b) fun x hx => by
    obtain ⟨p, hp, e⟩ := (mem_imP cN).1 (sup x hx)
    rw [ato_mul bN uN hp] at e
    exact ⟨b.ato p, (mem_imP bN).2 ⟨p, hp, rfl⟩, e⟩
  have itin : ∀ k x, x ∈ imP n b → itN u k x ∈ imP n b := fun k x hx => by
    induction k with
    | zero => exact hx
    | succ k ih => exact into _ (lt _ ih)
  have itinj : ∀ k x y, x ∈ imP n b → y ∈ imP n b → itN u k x = itN u k y → x = y := fun k x y hx hy e => by
    induction k with
    | zero => exact e
    | succ k ih => exact ih (inj _ (itin k x hx) _ (itin k y hy) e)
  have pm : ∀ k, pwM b u k ∈ l := fun k => by
    induction k with
    | zero => exact hb
    | succ k ih => exact hc.mul _ ih u um
  have hex : ∃ i j, i < j ∧ pwM b u i = pwM b u j := Classical.byContradiction fun hn => by
    have hnd : ((List.range (l.length + 1)).map (pwM b u)).Nodup := List.pairwise_map.2 (List.Pairwise.imp (fun hij e => hn ⟨_, _, hij, e⟩) List.pairwise_lt_range)
    have := hnd.length_le_of_subset (l₂ := l) fun x hx => by
      obtain ⟨k, _, rfl⟩ := List.mem_map.1 hx
      exact pm k
    rw [List.length_map, List.length_range] at this
    omega
  obtain ⟨i, j, hij, e⟩ := hex
  obtain ⟨m, rfl⟩ : ∃ m, j = i + (m + 1) := ⟨j - i - 1, by omega⟩
  have eb : b = pwM b u (m + 1) := ato_ext bN (pw_at bN uN (m + 1)).1 fun p hp => by
    rw [(pw_at bN uN (m + 1)).2 p hp]
    have hm : b.ato p ∈ imP n b := (mem_imP bN).2 ⟨p, hp, rfl⟩
    refine itinj i _ _ hm (itin _ _ hm) ?_
    rw [← itN_add, ← (pw_at bN uN i).2 p hp, ← (pw_at bN uN (i + (m + 1))).2 p hp, e]
  refine ⟨pwM b u m, pm m, b, hb, ?_⟩
  rw [mulM_assoc (hc.all _ (pm m)) fN bN, ← hu]
  exact eb
/-- an element with the least rank, as the reference picks it -/
def leastM (n : Int) (l : List Mp) : Mp := l.tail.foldl (fun b f => if rankN n f < rankN n b then f else b) (l.headD Mp.z)
theorem fold_least (n : Int) : ∀ (l : List Mp) (b : Mp), (l.foldl (fun b f => if rankN n f < rankN n b then f else b) b = b ∨ l.foldl (fun b f => if rankN n f < rankN n b then f else b) b ∈ l) ∧ rankN n (l.foldl (fun b f => if rankN n f < rankN n b then f else b) b) ≤ rankN n b ∧ ∀ g ∈ l, rankN n (l.foldl (fun b f => if rankN n f < rankN n b then f else b) b) ≤ rankN n g
  | [], b => ⟨.inl rfl, Int.le_refl _, fun g hg => by cases hg⟩
  | f :: l, b => by
    rw [List.foldl_cons]
    by_cases hlt : rankN n f < rankN n b
    · rw [if_pos hlt]
      obtain ⟨h1, h2, h3⟩ := fold_least n l f
      refine ⟨.inr ?_, by omega, fun g hg => ?_⟩
      · rcases h1 with h1 | h1
        · rw [h1]; simp
        · exact List.mem_cons_of_mem _ h1
      · rcases List.mem_cons.1 hg with rfl | hg
        · exact h2
        · exact h3 g hg
    · rw [if_neg hlt]
      obtain ⟨h1, h2, h3⟩ := fold_least n l b
      refine ⟨?_, h2, fun g hg => ?_⟩
      · rcases h1 with h1 | h1
        · exact .inl h1
        · exact .inr (List.mem_cons_of_mem _ h1)
      · rcases List.mem_cons.1 hg with rfl | hg
        · omega
        · exact h3 g hg
theorem leastM_spec (n : Int) (h : 0 < l.length) : leastM n l ∈ l ∧ ∀ g ∈ l, rankN n (leastM n l) ≤ rankN n g := by
  cases l with
  | nil => simp at h
  | cons a l =>
    obtain ⟨h1, h2, h3⟩ := fold_least n l a
    refine ⟨?_, fun g hg => ?_⟩
    · show l.foldl _ a ∈ a :: l
      rcases h1 with h1 | h1
      · rw [h1]; simp
      · exact List.mem_cons_of_mem _ h1
    · show rankN n (l.foldl _ a) ≤ _
      rcases List.mem_cons.1 hg with rfl | hg
      · exact h2
      · exact h3 g hg
/-- the meet of all ideals -/
theorem meet_law (hc : Clo l n) (h : 0 < l.length) {R : Nat → Nat → Prop} (hR : R = bothTo l.length (rightTo l.length (mpl l) l.length 0) (leftTo l.length (mpl l) l.length 0) l.length 0) :
    l.filter (inSetB l fun q => R 0 q ∧ ∀ i, i < l.length → R i q) = idealM l (leastM n l) := by
  subst hR
  obtain ⟨hb, hmin⟩ := leastM_spec n h
  generalize leastM n l = b at *
  refine hc.filtered (hc.flat hb) fun q g hq => ?_
  rw [mem_flat hc hb]
  have bN := hc.all b hb
  constructor
  · rintro ⟨_, h2⟩
    obtain ⟨i, hi, hi'⟩ := idx_of hb
    exact (mem_flat hc hb).1 ((bothTo_iff hc hi' hq).1 (h2 i hi))
  · rintro ⟨x, hx, y, hy, rfl⟩
    have key : ∀ i, i < l.length → bothTo l.length (rightTo l.length (mpl l) l.length 0) (leftTo l.length (mpl l) l.length 0) l.length 0 i q := fun i hi => by
      obtain ⟨f, hf⟩ := el hi
      have fm := (hc.get hf).1
      have fN := hc.all f fm
      obtain ⟨x2, hx2, y2, hy2, e⟩ := least_in hc hb fm (hmin _ (hc.mul _ (hc.mul b hb f fm) b hb))
      rw [bothTo_iff hc hf hq, mem_flat hc fm]
      refine ⟨mulM x x2, hc.mul x hx x2 hx2, mulM y2 y, hc.mul y2 hy2 y hy, ?_⟩
      have xN := hc.all x hx
      have yN := hc.all y hy
      have x2N := hc.all x2 hx2
      have y2N := hc.all y2 hy2
      rw [show mulM (mulM x b) y = mulM (mulM x (mulM (mulM x2 f) y2)) y by rw [← e], mulM_assoc xN x2N fN, ← mulM_assoc (mulM_MpN xN (mulM_MpN x2N fN)) y2N yN, mulM_assoc xN (mulM_MpN x2N fN) y2N]
    exact ⟨key 0 h, key⟩
end
end Go.Proofs.YtilfamenadaboaaGreat
