/- Why an acceptor accepts infinitely many words: paths, and counts of paths, with no program in sight. No condition. -/
import Derived.Test.YtbodaefdaagelaaCountP
import Derived.Test.YtbodaefdaagelaaPoints
namespace Go.Proofs.Ytbodaefdaagelaa
set_option linter.unusedSimpArgs false
set_option linter.unusedVariables false
set_option linter.unusedSectionVars false
open Go.RowKit
def Wd (ms : List Mp) (k : Nat) (p q : Int) : Prop := ∃ u : List Int, u.length = k ∧ InL ms.length u ∧ run (stS ms) p u = q
theorem run_app {σ : Type} (st : Nat → σ → σ) (s : σ) (u v : List Int) : run st s (u ++ v) = run st (run st s u) v := by unfold run; rw [List.foldl_append]
theorem InL_app {l : Nat} {u v : List Int} (h : InL l u) (h' : InL l v) : InL l (u ++ v) := fun k hk => (List.mem_append.1 hk).elim (h k) (h' k)
theorem InL_take {l : Nat} {u : List Int} (h : InL l u) (i : Nat) : InL l (u.take i) := fun k hk => h k (List.mem_of_mem_take hk)
theorem InL_drop {l : Nat} {u : List Int} (h : InL l u) (i : Nat) : InL l (u.drop i) := fun k hk => h k (List.mem_of_mem_drop hk)
section
variable {ms : List Mp} {n : Int}
theorem Wd.nil (p : Int) : Wd ms 0 p p := ⟨[], rfl, fun k hk => (by cases hk), rfl⟩
theorem Wd.trans {k l : Nat} {p q r : Int} (h : Wd ms k p q) (h' : Wd ms l q r) : Wd ms (k + l) p r := by
  obtain ⟨u, h1, h2, rfl⟩ := h
  obtain ⟨v, h3, h4, rfl⟩ := h'
  exact ⟨u ++ v, by rw [List.length_append]; omega, InL_app h2 h4, run_app _ _ _ _⟩
theorem Wd.one {m : Mp} (hm : m ∈ ms) (p : Int) : Wd ms 1 p (m.at p) := by
  obtain ⟨j, hj, rfl⟩ := List.mem_iff_getElem.1 hm
  refine ⟨[(j : Int)], rfl, fun k hk => ?_, ?_⟩
  · rw [List.mem_singleton.1 hk]; omega
  · show stS ms (j : Int).toNat p = _
    unfold stS
    rw [Int.toNat_natCast, List.getD_eq_getElem?_getD, List.getElem?_eq_getElem hj]
    rfl
theorem Wd.succ {k : Nat} {p q : Int} : Wd ms (k + 1) p q ↔ ∃ r, Wd ms k p r ∧ ∃ m ∈ ms, m.at r = q := by
  constructor
  · rintro ⟨u, h1, h2, rfl⟩
    rcases snoc_or u with rfl | ⟨v, x, rfl⟩
    · simp at h1
    · obtain ⟨h3, x0, x1⟩ := InL_snoc h2
      have hx : x.toNat < ms.length := by omega
      refine ⟨run (stS ms) p v, ⟨v, by simp at h1; omega, h3, rfl⟩, ms[x.toNat], List.getElem_mem hx, ?_⟩
      rw [run_snoc]
      unfold stS
      rw [List.getD_eq_getElem?_getD, List.getElem?_eq_getElem hx]
      rfl
  · rintro ⟨r, h1, m, hm, rfl⟩
    exact h1.trans (Wd.one hm r)
theorem Wd.rng {k : Nat} {p q : Int} (hr : RightL ms n) (h0 : 0 ≤ p) (h1 : p < n) (h : Wd ms k p q) : 0 ≤ q ∧ q < n := by
  obtain ⟨u, _, h3, rfl⟩ := h
  exact ptsU_mem.1 (run_in (univS hr h0 h1) u.length u (Nat.le_refl _) h3)
theorem mem_reach {p q : Int} (hr : RightL ms n) (h0 : 0 ≤ p) (h1 : p < n) : q ∈ reachL ms p ↔ ∃ k, Wd ms k p q := by
  rw [reach_eq hr h0 h1]
  unfold reachS
  rw [List.mem_map]
  constructor
  · rintro ⟨m, hm, rfl⟩
    obtain ⟨e, hi⟩ := gF_snd hr.six hm
    exact ⟨_, m.2, rfl, hi, e.symm⟩
  · rintro ⟨k, u, _, hu, rfl⟩
    obtain ⟨m, hm, e, _⟩ := gF_all (univS hr h0 h1) hr.six u.length u (Nat.le_refl _) hu
    exact ⟨m, hm, e⟩
theorem pigeon {p : Int} (hr : RightL ms n) (h0 : 0 ≤ p) (h1 : p < n) {u : List Int} (hu : InL ms.length u) (hl : n.toNat ≤ u.length) : ∃ i j, i < j ∧ j ≤ u.length ∧ run (stS ms) p (u.take i) = run (stS ms) p (u.take j) := by
  refine Classical.byContradiction fun H => ?_
  have nd : ((List.range (u.length + 1)).map fun i => run (stS ms) p (u.take i)).Nodup := by
    rw [List.Nodup, List.pairwise_map]
    refine List.Pairwise.imp_of_mem (fun {a b} _ hb hlt e => H ⟨a, b, hlt, ?_, e⟩) List.pairwise_lt_range
    have := List.mem_range.1 hb
    omega
  have hle := nd.length_le_of_subset (l₂ := ptsU n) (fun x hx => by
    obtain ⟨i, _, rfl⟩ := List.mem_map.1 hx
    exact run_in (univS hr h0 h1) (u.take i).length _ (Nat.le_refl _) (InL_take hu i))
  unfold ptsU at hle
  simp only [List.length_map, List.length_range] at hle
  omega
theorem short {p : Int} (hr : RightL ms n) (h0 : 0 ≤ p) (h1 : p < n) : ∀ (N : Nat) (u : List Int), u.length ≤ N → InL ms.length u → ∃ k, k < n.toNat ∧ Wd ms k p (run (stS ms) p u)
  | 0, u, hl, hu => ⟨u.length, by omega, u, rfl, hu, rfl⟩
  | N + 1, u, hl, hu => by
    rcases Nat.lt_or_ge u.length n.toNat with h | h
    · exact ⟨u.length, h, u, rfl, hu, rfl⟩
    · obtain ⟨i, j, hij, hj, e⟩ := pigeon hr h0 h1 hu h
      have e2 : run (stS ms) p (u.take i ++ u.drop j) = run (stS ms) p u := by
        rw [run_app, e, ← run_app, List.take_append_drop]
      obtain ⟨k, hk, hw⟩ := short hr h0 h1 N (u.take i ++ u.drop j) (by rw [List.length_append, List.length_take, List.length_drop]; omega) (InL_app (InL_take hu i) (InL_drop hu j))
      exact ⟨k, hk, by rw [← e2]; exact hw⟩
theorem Wd.short {k : Nat} {p q : Int} (hr : RightL ms n) (h0 : 0 ≤ p) (h1 : p < n) (h : Wd ms k p q) : ∃ k, k < n.toNat ∧ Wd ms k p q := by
  obtain ⟨u, _, hu, rfl⟩ := h
  exact Go.Proofs.Ytbodaefdaagelaa.short hr h0 h1 u.length u (Nat.le_refl _) hu
/-- a cycle is gone round as often as it takes -/
theorem round {p : Int} {c y : Nat} (h1 : 1 ≤ c) (hcyc : Wd ms c p p) (f : Int) : ∀ (d x : Nat), x + y + d = n.toNat → Wd ms x f p → ∃ x', n.toNat ≤ x' + y ∧ x' + y < n.toNat + c ∧ Wd ms x' f p := by
  intro d
  induction d using Nat.strongRecOn with
  | ind d ih =>
    intro x hx hw
    rcases Nat.eq_zero_or_pos d with rfl | hd
    · exact ⟨x, by omega, by omega, hw⟩
    · by_cases hlt : d ≤ c
      · exact ⟨x + c, by omega, by omega, hw.trans hcyc⟩
      · exact ih (d - c) (by omega) (x + c) (by omega) (hw.trans hcyc)
theorem fin_law {f : Int} {ls : List Int} (hr : RightL ms n) (f0 : 0 ≤ f) (f1 : f < n) :
    (∃ k, n.toNat ≤ k ∧ k < 2 * n.toNat ∧ ∃ q ∈ ls, Wd ms k f q) ↔ ∃ p ∈ reachL ms f, (∃ m ∈ ms, p ∈ reachL ms (m.at p)) ∧ ∃ q ∈ reachL ms p, q ∈ ls := by
  constructor
  · rintro ⟨k, hk, _, q, hq, u, rfl, hu, rfl⟩
    obtain ⟨i, j, hij, hj, e⟩ := pigeon hr f0 f1 hu hk
    obtain ⟨p, hp⟩ : ∃ p, p = run (stS ms) f (u.take i) := ⟨_, rfl⟩
    have wp : Wd ms (u.take i).length f p := ⟨u.take i, rfl, InL_take hu i, hp.symm⟩
    obtain ⟨p0, p1⟩ := wp.rng hr f0 f1
    refine ⟨p, (mem_reach hr f0 f1).2 ⟨_, wp⟩, ?_, run (stS ms) f u, (mem_reach hr p0 p1).2 ⟨_, u.drop i, rfl, InL_drop hu i, by rw [hp, ← run_app, List.take_append_drop]⟩, hq⟩
    have hil : i < (u.take j).length := by rw [List.length_take]; omega
    have hv : u.take j = u.take i ++ (u.take j)[i] :: (u.take j).drop (i + 1) := by
      rw [← List.drop_eq_getElem_cons hil]
      have h1 := (List.take_append_drop i (u.take j)).symm
      rw [List.take_take, Nat.min_eq_left (by omega)] at h1
      exact h1
    have hxm := InL_take hu j _ (List.getElem_mem hil)
    generalize (u.take j)[i] = x at hv hxm
    have hx : x.toNat < ms.length := by omega
    refine ⟨ms[x.toNat], List.getElem_mem hx, ?_⟩
    have hm := (hr.all _ (List.getElem_mem hx)).at p0 p1
    refine (mem_reach hr hm.1 hm.2).2 ⟨_, (u.take j).drop (i + 1), rfl, InL_drop (InL_take hu j) _, ?_⟩
    have e3 : run (stS ms) f (u.take j) = p := by rw [← e]; exact hp.symm
    rw [hv, run_app, ← hp] at e3
    have e4 : stS ms x.toNat p = (ms[x.toNat]).at p := by
      unfold stS
      rw [List.getD_eq_getElem?_getD, List.getElem?_eq_getElem hx]
      rfl
    rw [← e4]
    exact e3
  · rintro ⟨p, hp, ⟨m, hm, hc⟩, q, hq, hql⟩
    obtain ⟨_, w1⟩ := (mem_reach hr f0 f1).1 hp
    obtain ⟨p0, p1⟩ := w1.rng hr f0 f1
    have hmp := (hr.all m hm).at p0 p1
    obtain ⟨_, w2⟩ := (mem_reach hr hmp.1 hmp.2).1 hc
    obtain ⟨_, w3⟩ := (mem_reach hr p0 p1).1 hq
    obtain ⟨x, hx, wx⟩ := w1.short hr f0 f1
    obtain ⟨z, hz, wz⟩ := w2.short hr hmp.1 hmp.2
    obtain ⟨y, hy, wy⟩ := w3.short hr p0 p1
    have wc : Wd ms (1 + z) p p := (Wd.one hm p).trans wz
    rcases Nat.lt_or_ge (x + y) n.toNat with h | h
    · obtain ⟨x', h1, h2, wx'⟩ := round (n := n) (y := y) (by omega) wc f (n.toNat - (x + y)) x (by omega) wx
      exact ⟨x' + y, h1, by omega, q, hql, wx'.trans wy⟩
    · exact ⟨x + y, h, by omega, q, hql, wx.trans wy⟩
/-! ### Counts -/
def Bd (v : Mp) (B : Int) : Prop := ∀ i, i < 5 → 0 ≤ v.to i ∧ v.to i ≤ B
theorem wrap_small {x : Int} (h0 : 0 ≤ x) (h1 : x ≤ 9000000000000000000) : wrap64 x = x := by unfold wrap64; omega
theorem row_pos {X : Int} {p : Nat} {x : Int} (hp : (p : Int) < n) (x0 : 0 ≤ x) (x1 : x ≤ X) : ∀ (l : List Mp) (v : Mp) (B : Int), (∀ m ∈ l, MpN m n) → Bd v B → 0 ≤ B → B + l.length * X ≤ 9000000000000000000 →
    Bd (rowV l p x v) (B + l.length * X) ∧ ∀ i, i < 5 → (0 < (rowV l p x v).to i ↔ 0 < v.to i ∨ (0 < x ∧ ∃ m ∈ l, m.to p = (i : Int)))
  | [], v, B, _, hv, _, _ => ⟨by simpa [rowV] using hv, fun i _ => by simp [rowV]⟩
  | m :: t, v, B, hm, hv, hB, hle => by
    have hq := (hm m (by simp)).toR hp
    have hX : 0 ≤ X := by omega
    have elen : ((m :: t).length : Int) * X = X + t.length * X := by rw [List.length_cons, Int.natCast_add, Int.add_mul]; omega
    have htX : 0 ≤ (t.length : Int) * X := Int.mul_nonneg (by omega) hX
    rw [elen] at hle ⊢
    have hqB := hv (m.to p).toNat (by omega)
    have ht : ∀ i, i < 5 → (addV v (m.to p).toNat x).to i = if i = (m.to p).toNat then v.to i + x else v.to i := fun i hi => by
      unfold addV
      rw [Mp.set_to v (by omega)]
      split
      · rename_i e; subst e; exact wrap_small (by omega) (by omega)
      · rfl
    have hb : Bd (addV v (m.to p).toNat x) (B + X) := fun i hi => by
      have := hv i hi
      rw [ht i hi]
      split <;> omega
    have := row_pos hp x0 x1 t (addV v (m.to p).toNat x) (B + X) (fun m' h' => hm m' (by simp [h'])) hb (by omega) (by omega)
    show Bd (rowV t p x (addV v (m.to p).toNat x)) _ ∧ ∀ i, i < 5 → (0 < (rowV t p x (addV v (m.to p).toNat x)).to i ↔ _)
    refine ⟨fun i hi => by have := this.1 i hi; omega, fun i hi => ?_⟩
    rw [this.2 i hi, ht i hi]
    have hvi := hv i hi
    constructor
    · rintro (h | ⟨h, m', hm', e⟩)
      · split at h
        · rename_i e
          rcases (by omega : 0 < v.to i ∨ v.to i ≤ 0) with h3 | h3
          · exact .inl h3
          · exact .inr ⟨by omega, m, by simp, by omega⟩
        · exact .inl h
      · exact .inr ⟨h, m', by simp [hm'], e⟩
    · rintro (h | ⟨h, m', hm', e⟩)
      · refine .inl ?_
        split <;> omega
      · rcases List.mem_cons.1 hm' with rfl | hm'
        · refine .inl ?_
          rw [if_pos (by omega)]
          omega
        · exact .inr ⟨h, m', hm', e⟩
theorem nxt_pos {X : Int} {now : Mp} (hr : RightL ms n) (hn : Bd now X) (hX0 : 0 ≤ X) (hX : 30 * X ≤ 9000000000000000000) : ∀ k : Nat, (k : Int) ≤ n →
    Bd (nxtV ms now k) (k * (6 * X)) ∧ ∀ i, i < 5 → (0 < (nxtV ms now k).to i ↔ ∃ p, p < k ∧ 0 < now.to p ∧ ∃ m ∈ ms, m.to p = (i : Int))
  | 0, _ => ⟨fun i _ => by show 0 ≤ Mp.z.to i ∧ Mp.z.to i ≤ _; rw [to_z]; simp, fun i _ => by show 0 < Mp.z.to i ↔ _; rw [to_z]; simp⟩
  | k + 1, hk => by
    have h5 := hr.bounds.2
    have h6 := hr.six
    obtain ⟨h1, h2⟩ := nxt_pos hr hn hX0 hX k (by omega)
    have hnk := hn k (by omega)
    have hlX : (ms.length : Int) * X ≤ 6 * X := Int.mul_le_mul_of_nonneg_right (by omega) hX0
    have hl0 : 0 ≤ (ms.length : Int) * X := Int.mul_nonneg (by omega) hX0
    have hkX : (k : Int) * (6 * X) ≤ 4 * (6 * X) := Int.mul_le_mul_of_nonneg_right (by omega) (by omega)
    have hk0 : 0 ≤ (k : Int) * (6 * X) := Int.mul_nonneg (by omega) (by omega)
    have e : (((k + 1 : Nat)) : Int) * (6 * X) = k * (6 * X) + 6 * X := by rw [Int.natCast_add, Int.add_mul]; omega
    have hrow := row_pos (n := n) (X := X) (p := k) (by omega) hnk.1 hnk.2 ms (nxtV ms now k) (k * (6 * X)) hr.all h1 hk0 (by omega)
    rw [nxtV_succ, e]
    refine ⟨fun i hi => by have := hrow.1 i hi; omega, fun i hi => ?_⟩
    rw [hrow.2 i hi, h2 i hi]
    constructor
    · rintro (⟨p, hp, h3, h4⟩ | ⟨h3, h4⟩)
      · exact ⟨p, by omega, h3, h4⟩
      · exact ⟨k, by omega, h3, h4⟩
    · rintro ⟨p, hp, h3, h4⟩
      rcases Nat.lt_or_ge p k with h | h
      · exact .inl ⟨p, h, h3, h4⟩
      · obtain rfl : p = k := by omega
        exact .inr ⟨h3, h4⟩
theorem pow30 : ∀ k : Nat, k ≤ 10 → (1 : Int) ≤ 30 ^ k ∧ (30 : Int) ^ k ≤ 590490000000000 := by decide
theorem now_pos {f : Int} (hr : RightL ms n) (f0 : 0 ≤ f) (f1 : f < n) : ∀ k : Nat, k ≤ 10 → Bd (nowV ms f n k) (30 ^ k) ∧ ∀ i : Nat, (i : Int) < n → (0 < (nowV ms f n k).to i ↔ Wd ms k f (i : Int))
  | 0, _ => by
    have h5 := hr.bounds.2
    have ht : ∀ i, i < 5 → (nowV ms f n 0).to i = if i = f.toNat then 1 else 0 := fun i hi => by
      show (Mp.z.set f.toNat 1).to i = _
      rw [Mp.set_to _ (by omega), to_z]
    refine ⟨fun i hi => by rw [ht i hi]; split <;> simp, fun i hi => ?_⟩
    rw [ht i (by omega)]
    constructor
    · intro h
      split at h
      · rename_i e
        rw [show (i : Int) = f by omega]
        exact Wd.nil f
      · omega
    · rintro ⟨u, h1, _, h3⟩
      obtain rfl := List.eq_nil_of_length_eq_zero h1
      have e : f = (i : Int) := h3
      rw [if_pos (by omega)]
      decide
  | k + 1, hk => by
    have h5 := hr.bounds.2
    have h1n := hr.bounds.1
    obtain ⟨h1, h2⟩ := now_pos hr f0 f1 k (by omega)
    have hp := pow30 k (by omega)
    have hp' : (30 : Int) * 30 ^ k ≤ 590490000000000 := by
      have := (pow30 (k + 1) hk).2
      rw [Int.pow_succ] at this
      omega
    obtain ⟨h3, h4⟩ := nxt_pos hr h1 (by omega) (by omega) n.toNat (by omega)
    have e5 : ((n.toNat : Nat) : Int) * (6 * 30 ^ k) ≤ 5 * (6 * 30 ^ k) := Int.mul_le_mul_of_nonneg_right (by omega) (by omega)
    refine ⟨fun i hi => ?_, fun i hi => ?_⟩
    · have := h3 i hi
      rw [Int.pow_succ]
      show 0 ≤ (nxtV ms (nowV ms f n k) n.toNat).to i ∧ _ ≤ _
      show _ ∧ (nxtV ms (nowV ms f n k) n.toNat).to i ≤ _
      omega
    · show 0 < (nxtV ms (nowV ms f n k) n.toNat).to i ↔ _
      rw [h4 i (by omega), Wd.succ]
      constructor
      · rintro ⟨p, hp, h6, m, hm, e⟩
        exact ⟨(p : Int), (h2 p (by omega)).1 h6, m, hm, by show m.to (p : Int).toNat = _; rw [Int.toNat_natCast]; exact e⟩
      · rintro ⟨r, hw, m, hm, e⟩
        have hrr := hw.rng hr f0 f1
        refine ⟨r.toNat, by omega, (h2 r.toNat (by omega)).2 (by rw [Int.toNat_of_nonneg hrr.1]; exact hw), m, hm, e⟩
theorem sum_pos {v : Mp} {X : Int} (hv : Bd v X) (hX : 0 ≤ X) : ∀ (l : List Int) (s : Int), (∀ x ∈ l, 0 ≤ x ∧ x < 5) → 0 ≤ s → s + l.length * X ≤ 9000000000000000000 →
    (0 < l.foldl (fun s x => wrap64 (s + v.at x)) s ↔ 0 < s ∨ ∃ x ∈ l, 0 < v.at x)
  | [], s, _, _, _ => by simp
  | x :: t, s, hl, hs, hle => by
    have hx := hl x (by simp)
    have hb := hv x.toNat (by omega)
    have elen : ((x :: t).length : Int) * X = X + t.length * X := by rw [List.length_cons, Int.natCast_add, Int.add_mul]; omega
    have htX : 0 ≤ (t.length : Int) * X := Int.mul_nonneg (by omega) hX
    rw [elen] at hle
    have ea : v.at x = v.to x.toNat := rfl
    rw [List.foldl_cons, wrap_small (by rw [ea]; omega) (by rw [ea]; omega), sum_pos hv hX t (s + v.at x) (fun y hy => hl y (by simp [hy])) (by rw [ea]; omega) (by rw [ea]; omega)]
    constructor
    · rintro (h | ⟨y, hy, h⟩)
      · rcases (by omega : 0 < s ∨ s ≤ 0) with h3 | h3
        · exact .inl h3
        · exact .inr ⟨x, by simp, by omega⟩
      · exact .inr ⟨y, by simp [hy], h⟩
    · rintro (h | ⟨y, hy, h⟩)
      · exact .inl (by rw [ea]; omega)
      · rcases List.mem_cons.1 hy with rfl | hy
        · exact .inl (by omega)
        · exact .inr ⟨y, hy, h⟩
noncomputable def finB (ms : List Mp) (f : Int) (ls : List Int) : Bool := !(reachL ms f).any fun p => ms.any (fun m => decide (p ∈ reachL ms (m.at p))) && (reachL ms p).any fun q => decide (q ∈ ls)
theorem set_len {ls : List Int} (hs : IsSet ls n) (h0 : 1 ≤ n) (h5 : n ≤ 5) : ls.length ≤ 5 := by
  have nd : ls.Nodup := hs.asc.imp fun h e => by omega
  have := nd.length_le_of_subset (l₂ := ptsU n) (fun x hx => by
    obtain ⟨j, hj, rfl⟩ := List.mem_iff_getElem.1 hx
    have := hs.range (List.getElem?_eq_getElem hj)
    exact ptsU_mem.2 (by omega))
  unfold ptsU at this
  simp only [List.length_map, List.length_range] at this
  omega
theorem fin_iff {f : Int} {ls : List Int} (hr : RightA ms f ls n) : finB ms f ls = false ↔ ∃ k, n.toNat ≤ k ∧ k < 2 * n.toNat ∧ 0 < sumV (nowV ms f n k) ls := by
  have hb := hr.list.bounds
  have hlen := set_len hr.set hb.1 hb.2
  have hrg : ∀ x ∈ ls, 0 ≤ x ∧ x < n := fun x hx => by
    obtain ⟨j, hj, rfl⟩ := List.mem_iff_getElem.1 hx
    have := hr.set.range (List.getElem?_eq_getElem hj)
    omega
  have hsum : ∀ k, k ≤ 10 → (0 < sumV (nowV ms f n k) ls ↔ ∃ q ∈ ls, Wd ms k f q) := fun k hk => by
    obtain ⟨h1, h2⟩ := now_pos hr.list hr.f0 hr.f1 k hk
    have hp := pow30 k hk
    have hl : (ls.length : Int) * 30 ^ k ≤ 5 * 30 ^ k := Int.mul_le_mul_of_nonneg_right (by omega) (by omega)
    unfold sumV
    rw [sum_pos h1 (by omega) ls 0 (fun x hx => by have := hrg x hx; omega) (by omega) (by omega)]
    constructor
    · rintro (h | ⟨x, hx, h⟩)
      · omega
      · have := hrg x hx
        refine ⟨x, hx, ?_⟩
        have h3 := (h2 x.toNat (by omega)).1 h
        rwa [Int.toNat_of_nonneg this.1] at h3
    · rintro ⟨x, hx, h⟩
      have := hrg x hx
      exact .inr ⟨x, hx, (h2 x.toNat (by omega)).2 (by rw [Int.toNat_of_nonneg this.1]; exact h)⟩
  have hfin : finB ms f ls = false ↔ ∃ p ∈ reachL ms f, (∃ m ∈ ms, p ∈ reachL ms (m.at p)) ∧ ∃ q ∈ reachL ms p, q ∈ ls := by
    unfold finB
    simp only [Bool.not_eq_false', List.any_eq_true, Bool.and_eq_true, decide_eq_true_eq]
  rw [hfin, ← fin_law hr.list hr.f0 hr.f1]
  exact exists_congr fun k => ⟨fun ⟨h1, h2, h3⟩ => ⟨h1, h2, (hsum k (by omega)).2 h3⟩, fun ⟨h1, h2, h3⟩ => ⟨h1, h2, (hsum k (by omega)).1 h3⟩⟩
end
end Go.Proofs.Ytbodaefdaagelaa
