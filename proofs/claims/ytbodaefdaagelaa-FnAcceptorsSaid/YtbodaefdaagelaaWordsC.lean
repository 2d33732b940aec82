/- What 'CountAccepted' counts, with no program in sight. No condition. -/
import Derived.Test.YtbodaefdaagelaaLast
import Derived.Test.YtbodaefdaagelaaPoints
namespace Go.Proofs.Ytbodaefdaagelaa
set_option linter.unusedSimpArgs false
set_option linter.unusedVariables false
set_option linter.unusedSectionVars false
open Go.RowKit
def addV (v : Mp) (q : Nat) (x : Int) : Mp := v.set q (wrap64 (v.to q + x))
def rowV (ms : List Mp) (p : Nat) (x : Int) (v : Mp) : Mp := ms.foldl (fun v m => addV v (m.to p).toNat x) v
theorem rowV_snoc {ms : List Mp} {j : Nat} {m : Mp} (h : ms[j]? = some m) (p : Nat) (x : Int) (v : Mp) : rowV (ms.take (j + 1)) p x v = addV (rowV (ms.take j) p x v) (m.to p).toNat x := by
  unfold rowV
  rw [List.take_add_one, h, List.foldl_append]
  rfl
def nxtV (ms : List Mp) (now : Mp) (k : Nat) : Mp := (List.range k).foldl (fun v p => rowV ms p (now.to p) v) Mp.z
theorem nxtV_succ (ms : List Mp) (now : Mp) (k : Nat) : nxtV ms now (k + 1) = rowV ms k (now.to k) (nxtV ms now k) := by
  unfold nxtV
  rw [List.range_succ, List.foldl_append]
  rfl
def sumV (now : Mp) (ls : List Int) : Int := ls.foldl (fun s x => wrap64 (s + now.at x)) 0
theorem sumV_snoc {ls : List Int} {j : Nat} {x : Int} (h : ls[j]? = some x) (now : Mp) : sumV now (ls.take (j + 1)) = wrap64 (sumV now (ls.take j) + now.at x) := by
  unfold sumV
  rw [List.take_add_one, h, List.foldl_append]
  rfl
def sumI (now : Mp) (ls : List Int) (k : Nat) : Int := (List.range k).foldl (fun (s : Int) (p : Nat) => if (p : Int) ∈ ls then wrap64 (s + now.to p) else s) 0
theorem sumI_succ (now : Mp) (ls : List Int) (k : Nat) : sumI now ls (k + 1) = if (k : Int) ∈ ls then wrap64 (sumI now ls k + now.to k) else sumI now ls k := by
  unfold sumI
  rw [List.range_succ, List.foldl_append]
  rfl
theorem IsSet.asc {xs : List Int} {n : Int} (h : IsSet xs n) : xs.Pairwise (· < ·) := by
  rw [List.pairwise_iff_getElem]
  intro i j hi hj hij
  induction j with
  | zero => omega
  | succ j ih =>
    have hs : xs[j] < xs[j + 1] := h.step (List.getElem?_eq_getElem hj) (by omega) (by rw [Nat.add_sub_cancel]; exact List.getElem?_eq_getElem (by omega))
    by_cases e : i = j
    · subst e; exact hs
    · exact Int.lt_trans (ih (by omega) (by omega)) hs
theorem filt_succ (k : Int) : ∀ {ls : List Int}, ls.Pairwise (· < ·) → ls.filter (fun x => decide (x < k + 1)) = ls.filter (fun x => decide (x < k)) ++ (if k ∈ ls then [k] else []) := by
  intro ls
  induction ls with
  | nil => intro _; rfl
  | cons x t ih =>
    intro h
    have h1 := (List.pairwise_cons.1 h).1
    have h2 := ih (List.pairwise_cons.1 h).2
    rcases (by omega : x < k ∨ x = k ∨ k < x) with e | e | e
    · rw [List.filter_cons_of_pos (by simpa using (by omega : x < k + 1)), List.filter_cons_of_pos (by simpa using e), h2]
      have : (k ∈ x :: t) ↔ k ∈ t := by simp; omega
      simp [this]
    · subst e
      have ht : ∀ c, c ≤ x + 1 → t.filter (fun y => decide (y < c)) = [] := fun c hc => List.filter_eq_nil_iff.2 fun y hy => by
        have := h1 y hy
        simp; omega
      rw [List.filter_cons_of_pos (by simp; omega), List.filter_cons_of_neg (by simp), ht _ (by omega), ht _ (by omega)]
      simp
    · have ht : ∀ c, c ≤ k + 1 → t.filter (fun y => decide (y < c)) = [] := fun c hc => List.filter_eq_nil_iff.2 fun y hy => by
        have := h1 y hy
        simp; omega
      have hk : k ∉ x :: t := fun hk => by
        rcases List.mem_cons.1 hk with rfl | hk
        · omega
        · have := h1 k hk; omega
      rw [List.filter_cons_of_neg (by simp; omega), List.filter_cons_of_neg (by simp; omega), ht _ (by omega), ht _ (by omega), if_neg hk]
      rfl
theorem sumI_filt (now : Mp) {ls : List Int} (h : ls.Pairwise (· < ·)) (h0 : ∀ x ∈ ls, 0 ≤ x) : ∀ k : Nat, sumI now ls k = sumV now (ls.filter fun x => decide (x < (k : Int))) := by
  intro k
  induction k with
  | zero =>
    have : ls.filter (fun x => decide (x < ((0 : Nat) : Int))) = [] := List.filter_eq_nil_iff.2 fun y hy => by
      have := h0 y hy
      simp; omega
    rw [this]
    rfl
  | succ k ih =>
    rw [sumI_succ, ih]
    have := filt_succ (k : Int) h
    rw [show (((k + 1 : Nat)) : Int) = (k : Int) + 1 by omega, this]
    by_cases e : (k : Int) ∈ ls
    · rw [if_pos e, if_pos e]
      unfold sumV
      rw [List.foldl_append]
      rfl
    · rw [if_neg e, if_neg e, List.append_nil]
theorem sumI_all (now : Mp) {ls : List Int} {n : Int} (h : IsSet ls n) (hn : n ≤ 5) : sumI now ls 5 = sumV now ls := by
  have hr : ∀ x ∈ ls, 0 ≤ x ∧ x ≤ n - 1 := fun x hx => by
    obtain ⟨j, hj, rfl⟩ := List.mem_iff_getElem.1 hx
    exact h.range (List.getElem?_eq_getElem hj)
  rw [sumI_filt now h.asc (fun x hx => (hr x hx).1)]
  congr 1
  exact List.filter_eq_self.2 fun x hx => by have := hr x hx; simp; omega
structure VOk (v : Mp) (n : Int) : Prop where
  rng : ∀ i, i < 5 → wrap64 (v.to i) = v.to i
  out : ∀ i : Nat, i < 5 → n ≤ (i : Int) → v.to i = 0
theorem to_z (i : Nat) : Mp.z.to i = 0 := by
  unfold Mp.to
  split <;> rfl
theorem VOk.z (n : Int) : VOk Mp.z n := ⟨fun i _ => by rw [to_z]; unfold wrap64; omega, fun i _ _ => to_z i⟩
theorem wrap_wrap (x : Int) : wrap64 (wrap64 x) = wrap64 x := by unfold wrap64; omega
theorem VOk.set {v : Mp} {n : Int} (h : VOk v n) {q : Nat} (hq : (q : Int) < n) (q5 : q < 5) {x : Int} (hx : wrap64 x = x) : VOk (v.set q x) n := by
  constructor
  · intro i hi
    rw [Mp.set_to v q5]
    split
    · exact hx
    · exact h.rng i hi
  · intro i hi hn
    rw [Mp.set_to v q5, if_neg (by omega)]
    exact h.out i hi hn
theorem VOk.add {v : Mp} {n : Int} (h : VOk v n) {q : Nat} (hq : (q : Int) < n) (q5 : q < 5) (x : Int) : VOk (addV v q x) n := h.set hq q5 (wrap_wrap _)
theorem MpN.toR {m : Mp} {n : Int} (h : MpN m n) {p : Nat} (hp : (p : Int) < n) : 0 ≤ m.to p ∧ m.to p < n ∧ m.to p < 5 := by
  have h2 := h.2
  have h3 := h.1.2.1
  have := (h.1.2.2 p (by omega)).1 (by omega)
  omega
theorem VOk.row {ms : List Mp} {n : Int} (hm : ∀ m ∈ ms, MpN m n) {p : Nat} (hp : (p : Int) < n) (x : Int) : ∀ {v : Mp}, VOk v n → VOk (rowV ms p x v) n := by
  induction ms with
  | nil => intro v h; exact h
  | cons m t ih =>
    intro v h
    have := (hm m (by simp)).toR hp
    show VOk (rowV t p x (addV v (m.to p).toNat x)) n
    exact ih (fun m' h' => hm m' (by simp [h'])) (h.add (by omega) (by omega) x)
theorem VOk.row_take {ms : List Mp} {n : Int} (hm : ∀ m ∈ ms, MpN m n) {p : Nat} (hp : (p : Int) < n) (x : Int) {v : Mp} (h : VOk v n) (j : Nat) : VOk (rowV (ms.take j) p x v) n :=
  h.row (fun m hm' => hm m (List.mem_of_mem_take hm')) hp x
theorem VOk.nxt {ms : List Mp} {n : Int} (hm : ∀ m ∈ ms, MpN m n) (now : Mp) : ∀ k : Nat, (k : Int) ≤ n → VOk (nxtV ms now k) n := by
  intro k
  induction k with
  | zero => intro _; exact VOk.z n
  | succ k ih =>
    intro hk
    rw [nxtV_succ]
    exact (ih (by omega)).row hm (by omega) _
theorem addV_zero {v : Mp} {n : Int} (h : VOk v n) : addV v 0 0 = v := Mp.ext' (Mp.set_p _ _ _) fun i hi => by
  unfold addV
  rw [Mp.set_to v (by decide)]
  split
  · subst i; rw [Int.add_zero]; exact h.rng 0 (by decide)
  · rfl
theorem rowV_far {ms : List Mp} {n : Int} (hm : ∀ m ∈ ms, MpN m n) {p : Nat} (hp : n ≤ (p : Int)) (p5 : p < 5) {v : Mp} (h : VOk v n) : rowV ms p 0 v = v := by
  induction ms with
  | nil => rfl
  | cons m t ih =>
    have hm0 := hm m (by simp)
    have e : m.to p = 0 := (hm0.1.2.2 p p5).2 (by have := hm0.2; omega)
    show rowV t p 0 (addV v (m.to p).toNat 0) = v
    rw [e]
    show rowV t p 0 (addV v 0 0) = v
    rw [addV_zero h]
    exact ih fun m' h' => hm m' (by simp [h'])
theorem nxtV_far {ms : List Mp} {n : Int} (h0 : 0 ≤ n) (hm : ∀ m ∈ ms, MpN m n) {now : Mp} (hv : VOk now n) : ∀ d : Nat, n.toNat + d ≤ 5 → nxtV ms now (n.toNat + d) = nxtV ms now n.toNat := by
  intro d
  induction d with
  | zero => intro _; rfl
  | succ d ih =>
    intro hd
    rw [← Nat.add_assoc, nxtV_succ, ih (by omega), hv.out _ (by omega) (by omega)]
    exact rowV_far hm (by omega) (by omega) (VOk.nxt hm now _ (by omega))
theorem nxtV_five {ms : List Mp} {n : Int} (h0 : 0 ≤ n) (h5 : n ≤ 5) (hm : ∀ m ∈ ms, MpN m n) {now : Mp} (hv : VOk now n) : nxtV ms now 5 = nxtV ms now n.toNat := by
  have := nxtV_far h0 hm hv (5 - n.toNat) (by omega)
  rwa [show n.toNat + (5 - n.toNat) = 5 by omega] at this
def nowV (ms : List Mp) (f n : Int) : Nat → Mp
  | 0 => Mp.z.set f.toNat 1
  | k + 1 => nxtV ms (nowV ms f n k) n.toNat
theorem nowV_ok {ms : List Mp} {f n : Int} (hm : ∀ m ∈ ms, MpN m n) (h0 : 0 ≤ f) (h1 : f < n) (h5 : n ≤ 5) : ∀ k, VOk (nowV ms f n k) n := by
  intro k
  cases k with
  | zero => exact (VOk.z n).set (by omega) (by omega) (by unfold wrap64; omega)
  | succ k => exact VOk.nxt hm _ _ (by omega)
def countL (ms : List Mp) (f : Int) (ls : List Int) (n : Int) (k : Nat) : List Int := (List.range k).map fun i => sumV (nowV ms f n i) ls
theorem countL_succ (ms : List Mp) (f : Int) (ls : List Int) (n : Int) (k : Nat) : countL ms f ls n (k + 1) = countL ms f ls n k ++ [sumV (nowV ms f n k) ls] := by
  unfold countL
  rw [List.range_succ, List.map_append]
  rfl
theorem countL_length (ms : List Mp) (f : Int) (ls : List Int) (n : Int) (k : Nat) : (countL ms f ls n k).length = k := by simp [countL]
noncomputable def RCountAccepted (ms : List Mp) (f : Int) (ls : List Int) (k : Int) : List Int × Int :=
  if accB ms f ls = true then (if 0 ≤ k ∧ k ≤ 20 then (countL ms f ls (ms.headD Mp.z).p (k.toNat + 1), 0) else ([], 2)) else ([], 1)
theorem RCountAccepted_len (ms : List Mp) (f : Int) (ls : List Int) (k : Int) : (RCountAccepted ms f ls k).1.length ≤ 1000 := by
  unfold RCountAccepted
  split
  · split
    · show (countL _ _ _ _ _).length ≤ 1000
      rw [countL_length]; omega
    · simp
  · simp
/-- the first n of five numbers -/
def vl (v : Mp) (n : Nat) : List Int := (List.range n).map v.to
theorem vl_length (v : Mp) (n : Nat) : (vl v n).length = n := by simp [vl]
theorem vl_at (v : Mp) {n q : Nat} (h : q < n) : (vl v n)[q]? = some (v.to q) := by simp [vl, h]
theorem vl_set (v : Mp) {n q : Nat} (h : q < n) (h5 : n ≤ 5) (x : Int) : (vl v n).set q x = vl (v.set q x) n := List.ext_getElem? fun j => by
  rw [List.getElem?_set]
  by_cases hj : j < n
  · rw [vl_at _ hj, vl_at _ hj, Mp.set_to v (by omega), vl_length]
    by_cases e : q = j
    · subst e; simp [h]
    · rw [if_neg e, if_neg (fun e' => e e'.symm)]
  · rw [List.getElem?_eq_none (by rw [vl_length]; omega), List.getElem?_eq_none (by rw [vl_length]; omega), if_neg (by omega)]
theorem vl_z (n : Nat) : vl Mp.z n = List.replicate n 0 := List.ext_getElem? fun j => by
  by_cases hj : j < n
  · rw [vl_at _ hj, to_z]; simp [hj]
  · rw [List.getElem?_eq_none (by rw [vl_length]; omega), List.getElem?_eq_none (by simp; omega)]
/-! Why an acceptor accepts infinitely many words: paths, and counts of paths, with no program in sight. -/
def Wd (ms : List Mp) (k : Nat) (p q : Int) : Prop := ∃ u : List Int, u.length = k ∧ InL ms.length u ∧ run (stS ms) p u = q
theorem run_app {σ : Type} (st : Nat → σ → σ) (s : σ) (u v : List Int) : run st s (u ++ v) = run st (run st s u) v := by unfold run; rw [List.foldl_append]
theorem InL_app {l : Nat} {u v : List Int} (h : InL l u) (h' : InL l v) : InL l (u ++ v) := fun k hk => (List.mem_append.1 hk).elim (h k) (h' k)
theorem InL_take {l : Nat} {u : List Int} (h : InL l u) (i : Nat) : InL l (u.take i) := fun k hk => h k (List.mem_of_mem_take hk)
theorem InL_drop {l : Nat} {u : List Int} (h : InL l u) (i : Nat) : InL l (u.drop i) := fun k hk => h k (List.mem_of_mem_drop hk)
section
variable {ms : List Mp} {n : Int}
theorem Wd.nil (p : Int) : Wd ms 0 p p := ⟨[], rfl, fun k hk => (by cases hk), rfl⟩
theorem Wd.trans {k l : Nat} {p q r : Int} (h : Wd ms k p q) (h' : Wd ms l q r) : Wd ms (k + l) p r := by
  obtain ⟨u, h1, h2, rfl⟩ := h
  obtain ⟨v, h3, h4, rfl⟩ := h'
  exact ⟨u ++ v, by rw [List.length_append]; omega, InL_app h2 h4, run_app _ _ _ _⟩
theorem Wd.one {m : Mp} (hm : m ∈ ms) (p : Int) : Wd ms 1 p (m.at p) := by
  obtain ⟨j, hj, rfl⟩ := List.mem_iff_getElem.1 hm
  refine ⟨[(j : Int)], rfl, fun k hk => ?_, ?_⟩
  · rw [List.mem_singleton.1 hk]; omega
  · show stS ms (j : Int).toNat p = _
    unfold stS
    rw [Int.toNat_natCast, List.getD_eq_getElem?_getD, List.getElem?_eq_getElem hj]
    rfl
theorem Wd.succ {k : Nat} {p q : Int} : Wd ms (k + 1) p q ↔ ∃ r, Wd ms k p r ∧ ∃ m ∈ ms, m.at r = q := by
  constructor
  · rintro ⟨u, h1, h2, rfl⟩
    rcases snoc_or u with rfl | ⟨v, x, rfl⟩
    · simp at h1
    · obtain ⟨h3, x0, x1⟩ := InL_snoc h2
      have hx : x.toNat < ms.length := by omega
      refine ⟨run (stS ms) p v, ⟨v, by simp at h1; omega, h3, rfl⟩, ms[x.toNat], List.getElem_mem hx, ?_⟩
      rw [run_snoc]
      unfold stS
      rw [List.getD_eq_getElem?_getD, List.getElem?_eq_getElem hx]
      rfl
  · rintro ⟨r, h1, m, hm, rfl⟩
    exact h1.trans (Wd.one hm r)
theorem Wd.rng {k : Nat} {p q : Int} (hr : RightL ms n) (h0 : 0 ≤ p) (h1 : p < n) (h : Wd ms k p q) : 0 ≤ q ∧ q < n := by
  obtain ⟨u, _, h3, rfl⟩ := h
  exact ptsU_mem.1 (run_in (univS hr h0 h1) u.length u (Nat.le_refl _) h3)
theorem mem_reach {p q : Int} (hr : RightL ms n) (h0 : 0 ≤ p) (h1 : p < n) : q ∈ reachL ms p ↔ ∃ k, Wd ms k p q := by
  rw [reach_eq hr h0 h1]
  unfold reachS
  rw [List.mem_map]
  constructor
  · rintro ⟨m, hm, rfl⟩
    obtain ⟨e, hi⟩ := gF_snd hr.six hm
    exact ⟨_, m.2, rfl, hi, e.symm⟩
  · rintro ⟨k, u, _, hu, rfl⟩
    obtain ⟨m, hm, e, _⟩ := gF_all (univS hr h0 h1) hr.six u.length u (Nat.le_refl _) hu
    exact ⟨m, hm, e⟩
theorem pigeon {p : Int} (hr : RightL ms n) (h0 : 0 ≤ p) (h1 : p < n) {u : List Int} (hu : InL ms.length u) (hl : n.toNat ≤ u.length) : ∃ i j, i < j ∧ j ≤ u.length ∧ run (stS ms) p (u.take i) = run (stS ms) p (u.take j) := by
  refine Classical.byContradiction fun H => ?_
  have nd : ((List.range (u.length + 1)).map fun i => run (stS ms) p (u.take i)).Nodup := by
    rw [List.Nodup, List.pairwise_map]
    refine List.Pairwise.imp_of_mem (fun {a b} _ hb hlt e => H ⟨a, b, hlt, ?_, e⟩) List.pairwise_lt_range
    have := List.mem_range.1 hb
    omega
  have hle := nd.length_le_of_subset (l₂ := ptsU n) (fun x hx => by
    obtain ⟨i, _, rfl⟩ := List.mem_map.1 hx
    exact run_in (univS hr h0 h1) (u.take i).length _ (Nat.le_refl _) (InL_take hu i))
  unfold ptsU at hle
  simp only [List.length_map, List.length_range] at hle
  omega
theorem short {p : Int} (hr : RightL ms n) (h0 : 0 ≤ p) (h1 : p < n) : ∀ (N : Nat) (u : List Int), u.length ≤ N → InL ms.length u → ∃ k, k < n.toNat ∧ Wd ms k p (run (stS ms) p u)
  | 0, u, hl, hu => ⟨u.length, by omega, u, rfl, hu, rfl⟩
  | N + 1, u, hl, hu => by
    rcases Nat.lt_or_ge u.length n.toNat with h | h
    · exact ⟨u.length, h, u, rfl, hu, rfl⟩
    · obtain ⟨i, j, hij, hj, e⟩ := pigeon hr h0 h1 hu h
      have e2 : run (stS ms) p (u.take i ++ u.drop j) = run (stS ms) p u := by
        rw [run_app, e, ← run_app, List.take_append_drop]
      obtain ⟨k, hk, hw⟩ := short hr h0 h1 N (u.take i ++ u.drop j) (by rw [List.length_append, List.length_take, List.length_drop]; omega) (InL_app (InL_take hu i) (InL_drop hu j))
      exact ⟨k, hk, by rw [← e2]; exact hw⟩
theorem Wd.short {k : Nat} {p q : Int} (hr : RightL ms n) (h0 : 0 ≤ p) (h1 : p < n) (h : Wd ms k p q) : ∃ k, k < n.toNat ∧ Wd ms k p q := by
  obtain ⟨u, _, hu, rfl⟩ := h
  exact Go.Proofs.Ytbodaefdaagelaa.short hr h0 h1 u.length u (Nat.le_refl _) hu
/-- a cycle is gone round as often as it takes -/
theorem round {p : Int} {c y : Nat} (h1 : 1 ≤ c) (hcyc : Wd ms c p p) (f : Int) : ∀ (d x : Nat), x + y + d = n.toNat → Wd ms x f p → ∃ x', n.toNat ≤ x' + y ∧ x' + y < n.toNat + c ∧ Wd ms x' f p := by
  intro d
  induction d using Nat.strongRecOn with
  | ind d ih =>
    intro x hx hw
    rcases Nat.eq_zero_or_pos d with rfl | hd
    · exact ⟨x, by omega, by omega, hw⟩
    · by_cases hlt : d ≤ c
      · exact ⟨x + c, by omega, by omega, hw.trans hcyc⟩
      · exact ih (d - c) (by omega) (x + c) (by omega) (hw.trans hcyc)
theorem fin_law {f : Int} {ls : List Int} (hr : RightL ms n) (f0 : 0 ≤ f) (f1 : f < n) :
    (∃ k, n.toNat ≤ k ∧ k < 2 * n.toNat ∧ ∃ q ∈ ls, Wd ms k f q) ↔ ∃ p ∈ reachL ms f, (∃ m ∈ ms, p ∈ reachL ms (m.at p)) ∧ ∃ q ∈ reachL ms p, q ∈ ls := by
  constructor
  · rintro ⟨k, hk, _, q, hq, u, rfl, hu, rfl⟩
    obtain ⟨i, j, hij, hj, e⟩ := pigeon hr f0 f1 hu hk
    obtain ⟨p, hp⟩ : ∃ p, p = run (stS ms) f (u.take i) := ⟨_, rfl⟩
    have wp : Wd ms (u.take i).length f p := ⟨u.take i, rfl, InL_take hu i, hp.symm⟩
    obtain ⟨p0, p1⟩ := wp.rng hr f0 f1
    refine ⟨p, (mem_reach hr f0 f1).2 ⟨_, wp⟩, ?_, run (stS ms) f u, (mem_reach hr p0 p1).2 ⟨_, u.drop i, rfl, InL_drop hu i, by rw [hp, ← run_app, List.take_append_drop]⟩, hq⟩
    have hil : i < (u.take j).length := by rw [List.length_take]; omega
    have hv : u.take j = u.take i ++ (u.take j)[i] :: (u.take j).drop (i + 1) := by
      rw [← List.drop_eq_getElem_cons hil]
      have h1 := (List.take_append_drop i (u.take j)).symm
      rw [List.take_take, Nat.min_eq_left (by omega)] at h1
      exact h1
    have hxm := InL_take hu j _ (List.getElem_mem hil)
    generalize (u.take j)[i] = x at hv hxm
    have hx : x.toNat < ms.length := by omega
    refine ⟨ms[x.toNat], List.getElem_mem hx, ?_⟩
    have hm := (hr.all _ (List.getElem_mem hx)).at p0 p1
    refine (mem_reach hr hm.1 hm.2).2 ⟨_, (u.take j).drop (i + 1), rfl, InL_drop (InL_take hu j) _, ?_⟩
    have e3 : run (stS ms) f (u.take j) = p := by rw [← e]; exact hp.symm
    rw [hv, run_app, ← hp] at e3
    have e4 : stS ms x.toNat p = (ms[x.toNat]).at p := by
      unfold stS
      rw [List.getD_eq_getElem?_getD, List.getElem?_eq_getElem hx]
      rfl
    rw [← e4]
    exact e3
  · rintro ⟨p, hp, ⟨m, hm, hc⟩, q, hq, hql⟩
    obtain ⟨_, w1⟩ := (mem_reach hr f0 f1).1 hp
    obtain ⟨p0, p1⟩ := w1.rng hr f0 f1
    have hmp := (hr.all m hm).at p0 p1
    obtain ⟨_, w2⟩ := (mem_reach hr hmp.1 hmp.2).1 hc
    obtain ⟨_, w3⟩ := (mem_reach hr p0 p1).1 hq
    obtain ⟨x, hx, wx⟩ := w1.short hr f0 f1
    obtain ⟨z, hz, wz⟩ := w2.short hr hmp.1 hmp.2
    obtain ⟨y, hy, wy⟩ := w3.short hr p0 p1
    have wc : Wd ms (1 + z) p p := (Wd.one hm p).trans wz
    rcases Nat.lt_or_ge (x + y) n.toNat with h | h
    · obtain ⟨x', h1, h2, wx'⟩ := round (n := n) (y := y) (by omega) wc f (n.toNat - (x + y)) x (by omega) wx
      exact ⟨x' + y, h1, by omega, q, hql, wx'.trans wy⟩
    · exact ⟨x + y, h, by omega, q, hql, wx.trans wy⟩
/-! ### Counts -/
def Bd (v : Mp) (B : Int) : Prop := ∀ i, i < 5 → 0 ≤ v.to i ∧ v.to i ≤ B
theorem wrap_small {x : Int} (h0 : 0 ≤ x) (h1 : x ≤ 9000000000000000000) : wrap64 x = x := by unfold wrap64; omega
theorem row_pos {X : Int} {p : Nat} {x : Int} (hp : (p : Int) < n) (x0 : 0 ≤ x) (x1 : x ≤ X) : ∀ (l : List Mp) (v : Mp) (B : Int), (∀ m ∈ l, MpN m n) → Bd v B → 0 ≤ B → B + l.length * X ≤ 9000000000000000000 →
    Bd (rowV l p x v) (B + l.length * X) ∧ ∀ i, i < 5 → (0 < (rowV l p x v).to i ↔ 0 < v.to i ∨ (0 < x ∧ ∃ m ∈ l, m.to p = (i : Int)))
  | [], v, B, _, hv, _, _ => ⟨by simpa [rowV] using hv, fun i _ => by simp [rowV]⟩
  | m :: t, v, B, hm, hv, hB, hle => by
    have hq := (hm m (by simp)).toR hp
    have hX : 0 ≤ X := by omega
    have elen : ((m :: t).length : Int) * X = X + t.length * X := by rw [List.length_cons, Int.natCast_add, Int.add_mul]; omega
    have htX : 0 ≤ (t.length : Int) * X := Int.mul_nonneg (by omega) hX
    rw [elen] at hle ⊢
    have hqB := hv (m.to p).toNat (by omega)
    have ht : ∀ i, i < 5 → (addV v (m.to p).toNat x).to i = if i = (m.to p).toNat then v.to i + x else v.to i := fun i hi => by
      unfold addV
      rw [Mp.set_to v (by omega)]
      split
      · rename_i e; subst e; exact wrap_small (by omega) (by omega)
      · rfl
    have hb : Bd (addV v (m.to p).toNat x) (B + X) := fun i hi => by
      have := hv i hi
      rw [ht i hi]
      split <;> omega
    have := row_pos hp x0 x1 t (addV v (m.to p).toNat x) (B + X) (fun m' h' => hm m' (by simp [h'])) hb (by omega) (by omega)
    show Bd (rowV t p x (addV v (m.to p).toNat x)) _ ∧ ∀ i, i < 5 → (0 < (rowV t p x (addV v (m.to p).toNat x)).to i ↔ _)
    refine ⟨fun i hi => by have := this.1 i hi; omega, fun i hi => ?_⟩
    rw [this.2 i hi, ht i hi]
    have hvi := hv i hi
    constructor
    · rintro (h | ⟨h, m', hm', e⟩)
      · split at h
        · rename_i e
          rcases (by omega : 0 < v.to i ∨ v.to i ≤ 0) with h3 | h3
          · exact .inl h3
          · exact .inr ⟨by omega, m, by simp, by omega⟩
        · exact .inl h
      · exact .inr ⟨h, m', by simp [hm'], e⟩
    · rintro (h | ⟨h, m', hm', e⟩)
      · refine .inl ?_
        split <;> omega
      · rcases List.mem_cons.1 hm' with rfl | hm'
        · refine .inl ?_
          rw [if_pos (by omega)]
          omega
        · exact .inr ⟨h, m', hm', e⟩
theorem nxt_pos {X : Int} {now : Mp} (hr : RightL ms n) (hn : Bd now X) (hX0 : 0 ≤ X) (hX : 30 * X ≤ 9000000000000000000) : ∀ k : Nat, (k : Int) ≤ n →
    Bd (nxtV ms now k) (k * (6 * X)) ∧ ∀ i, i < 5 → (0 < (nxtV ms now k).to i ↔ ∃ p, p < k ∧ 0 < now.to p ∧ ∃ m ∈ ms, m.to p = (i : Int))
  | 0, _ => ⟨fun i _ => by show 0 ≤ Mp.z.to i ∧ Mp.z.to i ≤ _; rw [to_z]; simp, fun i _ => by show 0 < Mp.z.to i ↔ _; rw [to_z]; simp⟩
  | k + 1, hk => by
    have h5 := hr.bounds.2
    have h6 := hr.six
    obtain ⟨h1, h2⟩ := nxt_pos hr hn hX0 hX k (by omega)
    have hnk := hn k (by omega)
    have hlX : (ms.length : Int) * X ≤ 6 * X := Int.mul_le_mul_of_nonneg_right (by omega) hX0
    have hl0 : 0 ≤ (ms.length : Int) * X := Int.mul_nonneg (by omega) hX0
    have hkX : (k : Int) * (6 * X) ≤ 4 * (6 * X) := Int.mul_le_mul_of_nonneg_right (by omega) (by omega)
    have hk0 : 0 ≤ (k : Int) * (6 * X) := Int.mul_nonneg (by omega) (by omega)
    have e : (((k + 1 : Nat)) : Int) * (6 * X) = k * (6 * X) + 6 * X := by rw [Int.natCast_add, Int.add_mul]; omega
    have hrow := row_pos (n := n) (X := X) (p := k) (by omega) hnk.1 hnk.2 ms (nxtV ms now k) (k * (6 * X)) hr.all h1 hk0 (by omega)
    rw [nxtV_succ, e]
    refine ⟨fun i hi => by have := hrow.1 i hi; omega, fun i hi => ?_⟩
    rw [hrow.2 i hi, h2 i hi]
    constructor
    · rintro (⟨p, hp, h3, h4⟩ | ⟨h3, h4⟩)
      · exact ⟨p, by omega, h3, h4⟩
      · exact ⟨k, by omega, h3, h4⟩
    · rintro ⟨p, hp, h3, h4⟩
      rcases Nat.lt_or_ge p k with h | h
      · exact .inl ⟨p, h, h3, h4⟩
      · obtain rfl : p = k := by omega
        exact .inr ⟨h3, h4⟩
theorem pow30 : ∀ k : Nat, k ≤ 10 → (1 : Int) ≤ 30 ^ k ∧ (30 : Int) ^ k ≤ 590490000000000 := by decide
theorem now_pos {f : Int} (hr : RightL ms n) (f0 : 0 ≤ f) (f1 : f < n) : ∀ k : Nat, k ≤ 10 → Bd (nowV ms f n k) (30 ^ k) ∧ ∀ i : Nat, (i : Int) < n → (0 < (nowV ms f n k).to i ↔ Wd ms k f (i : Int))
  | 0, _ => by
    have h5 := hr.bounds.2
    have ht : ∀ i, i < 5 → (nowV ms f n 0).to i = if i = f.toNat then 1 else 0 := fun i hi => by
      show (Mp.z.set f.toNat 1).to i = _
      rw [Mp.set_to _ (by omega), to_z]
    refine ⟨fun i hi => by rw [ht i hi]; split <;> simp, fun i hi => ?_⟩
    rw [ht i (by omega)]
    constructor
    · intro h
      split at h
      · rename_i e
        rw [show (i : Int) = f by omega]
        exact Wd.nil f
      · omega
    · rintro ⟨u, h1, _, h3⟩
      obtain rfl := List.eq_nil_of_length_eq_zero h1
      have e : f = (i : Int) := h3
      rw [if_pos (by omega)]
      decide
  | k + 1, hk => by
    have h5 := hr.bounds.2
    have h1n := hr.bounds.1
    obtain ⟨h1, h2⟩ := now_pos hr f0 f1 k (by omega)
    have hp := pow30 k (by omega)
    have hp' : (30 : Int) * 30 ^ k ≤ 590490000000000 := by
      have := (pow30 (k + 1) hk).2
      rw [Int.pow_succ] at this
      omega
    obtain ⟨h3, h4⟩ := nxt_pos hr h1 (by omega) (by omega) n.toNat (by omega)
    have e5 : ((n.toNat : Nat) : Int) * (6 * 30 ^ k) ≤ 5 * (6 * 30 ^ k) := Int.mul_le_mul_of_nonneg_right (by omega) (by omega)
    refine ⟨fun i hi => ?_, fun i hi => ?_⟩
    · have := h3 i hi
      rw [Int.pow_succ]
      show 0 ≤ (nxtV ms (nowV ms f n k) n.toNat).to i ∧ _ ≤ _
      show _ ∧ (nxtV ms (nowV ms f n k) n.toNat).to i ≤ _
      omega
    · show 0 < (nxtV ms (nowV ms f n k) n.toNat).to i ↔ _
      rw [h4 i (by omega), Wd.succ]
      constructor
      · rintro ⟨p, hp, h6, m, hm, e⟩
        exact ⟨(p : Int), (h2 p (by omega)).1 h6, m, hm, by show m.to (p : Int).toNat = _; rw [Int.toNat_natCast]; exact e⟩
      · rintro ⟨r, hw, m, hm, e⟩
        have hrr := hw.rng hr f0 f1
        refine ⟨r.toNat, by omega, (h2 r.toNat (by omega)).2 (by rw [Int.toNat_of_nonneg hrr.1]; exact hw), m, hm, e⟩
theorem sum_pos {v : Mp} {X : Int} (hv : Bd v X) (hX : 0 ≤ X) : ∀ (l : List Int) (s : Int), (∀ x ∈ l, 0 ≤ x ∧ x < 5) → 0 ≤ s → s + l.length * X ≤ 9000000000000000000 →
    (0 < l.foldl (fun s x => wrap64 (s + v.at x)) s ↔ 0 < s ∨ ∃ x ∈ l, 0 < v.at x)
  | [], s, _, _, _ => by simp
  | x :: t, s, hl, hs, hle => by
    have hx := hl x (by simp)
    have hb := hv x.toNat (by omega)
    have elen : ((x :: t).length : Int) * X = X + t.length * X := by rw [List.length_cons, Int.natCast_add, Int.add_mul]; omega
    have htX : 0 ≤ (t.length : Int) * X := Int.mul_nonneg (by omega) hX
    rw [elen] at hle
    have ea : v.at x = v.to x.toNat := rfl
    rw [List.foldl_cons, wrap_small (by rw [ea]; omega) (by rw [ea]; omega), sum_pos hv hX t (s + v.at x) (fun y hy => hl y (by simp [hy])) (by rw [ea]; omega) (by rw [ea]; omega)]
    constructor
    · rintro (h | ⟨y, hy, h⟩)
      · rcases (by omega : 0 < s ∨ s ≤ 0) with h3 | h3
        · exact .inl h3
        · exact .inr ⟨x, by simp, by omega⟩
      · exact .inr ⟨y, by simp [hy], h⟩
    · rintro (h | ⟨y, hy, h⟩)
      · exact .inl (by rw [ea]; omega)
      · rcases List.mem_cons.1 hy with rfl | hy
        · exact .inl (by omega)
        · exact .inr ⟨y, hy, h⟩
noncomputable def finB (ms : List Mp) (f : Int) (ls : List Int) : Bool := !(reachL ms f).any fun p => ms.any (fun m => decide (p ∈ reachL ms (m.at p))) && (reachL ms p).any fun q => decide (q ∈ ls)
theorem set_len {ls : List Int} (hs : IsSet ls n) (h0 : 1 ≤ n) (h5 : n ≤ 5) : ls.length ≤ 5 := by
  have nd : ls.Nodup := hs.asc.imp fun h e => by omega
  have := nd.length_le_of_subset (l₂ := ptsU n) (fun x hx => by
    obtain ⟨j, hj, rfl⟩ := List.mem_iff_getElem.1 hx
    have := hs.range (List.getElem?_eq_getElem hj)
    exact ptsU_mem.2 (by omega))
  unfold ptsU at this
  simp only [List.length_map, List.length_range] at this
  omega
theorem fin_iff {f : Int} {ls : List Int} (hr : RightA ms f ls n) : finB ms f ls = false ↔ ∃ k, n.toNat ≤ k ∧ k < 2 * n.toNat ∧ 0 < sumV (nowV ms f n k) ls := by
  have hb := hr.list.bounds
  have hlen := set_len hr.set hb.1 hb.2
  have hrg : ∀ x ∈ ls, 0 ≤ x ∧ x < n := fun x hx => by
    obtain ⟨j, hj, rfl⟩ := List.mem_iff_getElem.1 hx
    have := hr.set.range (List.getElem?_eq_getElem hj)
    omega
  have hsum : ∀ k, k ≤ 10 → (0 < sumV (nowV ms f n k) ls ↔ ∃ q ∈ ls, Wd ms k f q) := fun k hk => by
    obtain ⟨h1, h2⟩ := now_pos hr.list hr.f0 hr.f1 k hk
    have hp := pow30 k hk
    have hl : (ls.length : Int) * 30 ^ k ≤ 5 * 30 ^ k := Int.mul_le_mul_of_nonneg_right (by omega) (by omega)
    unfold sumV
    rw [sum_pos h1 (by omega) ls 0 (fun x hx => by have := hrg x hx; omega) (by omega) (by omega)]
    constructor
    · rintro (h | ⟨x, hx, h⟩)
      · omega
      · have := hrg x hx
        refine ⟨x, hx, ?_⟩
        have h3 := (h2 x.toNat (by omega)).1 h
        rwa [Int.toNat_of_nonneg this.1] at h3
    · rintro ⟨x, hx, h⟩
      have := hrg x hx
      exact .inr ⟨x, hx, (h2 x.toNat (by omega)).2 (by rw [Int.toNat_of_nonneg this.1]; exact h)⟩
  have hfin : finB ms f ls = false ↔ ∃ p ∈ reachL ms f, (∃ m ∈ ms, p ∈ reachL ms (m.at p)) ∧ ∃ q ∈ reachL ms p, q ∈ ls := by
    unfold finB
    simp only [Bool.not_eq_false', List.any_eq_true, Bool.and_eq_true, decide_eq_true_eq]
  rw [hfin, ← fin_law hr.list hr.f0 hr.f1]
  exact exists_congr fun k => ⟨fun ⟨h1, h2, h3⟩ => ⟨h1, h2, (hsum k (by omega)).2 h3⟩, fun ⟨h1, h2, h3⟩ => ⟨h1, h2, (hsum k (by omega)).1 h3⟩⟩
end
/-! How many words lead an acceptor to its last points: what 'CountAccepted' counts, by words, with no program in sight. -/
/-- all words of k letters -/
def wordsL (l : Nat) : Nat → List (List Int)
  | 0 => [[]]
  | k + 1 => (wordsL l k).flatMap fun u => (List.range l).map fun (j : Nat) => u ++ [(j : Int)]
theorem wordsL_in {l : Nat} : ∀ {k : Nat} {u : List Int}, u ∈ wordsL l k → InL l u
  | 0, u, h => by
    rw [List.mem_singleton.1 h]
    exact fun k hk => by cases hk
  | k + 1, u, h => by
    unfold wordsL at h
    obtain ⟨v, hv, h⟩ := List.mem_flatMap.1 h
    obtain ⟨j, hj, rfl⟩ := List.mem_map.1 h
    have := List.mem_range.1 hj
    exact InL_snoc' (wordsL_in hv) (by omega) (by omega)
/-- the sum of a function over a list -/
def sumF {α : Type} (g : α → Int) (l : List α) : Int := (l.map g).sum
theorem sumF_cons {α : Type} (g : α → Int) (x : α) (l : List α) : sumF g (x :: l) = g x + sumF g l := by simp [sumF]
theorem sumF_append {α : Type} (g : α → Int) (l l' : List α) : sumF g (l ++ l') = sumF g l + sumF g l' := by simp [sumF, List.sum_append]
theorem sumF_nil {α : Type} (g : α → Int) : sumF g [] = 0 := rfl
theorem sumF_range_succ (g : Nat → Int) (k : Nat) : sumF g (List.range (k + 1)) = sumF g (List.range k) + g k := by rw [List.range_succ, sumF_append, sumF_cons, sumF_nil]; omega
theorem sumF_congr {α : Type} {g g' : α → Int} : ∀ {l : List α}, (∀ x ∈ l, g x = g' x) → sumF g l = sumF g' l
  | [], _ => rfl
  | x :: l, h => by rw [sumF_cons, sumF_cons, h x (by simp), sumF_congr fun y hy => h y (by simp [hy])]
theorem sumF_add {α : Type} (g g' : α → Int) : ∀ l : List α, sumF (fun x => g x + g' x) l = sumF g l + sumF g' l
  | [] => rfl
  | x :: l => by rw [sumF_cons, sumF_cons, sumF_cons, sumF_add g g' l]; omega
theorem sumF_zero {α : Type} {g : α → Int} {l : List α} (h : ∀ x ∈ l, g x = 0) : sumF g l = 0 := by
  induction l with
  | nil => rfl
  | cons x l ih => rw [sumF_cons, h x (by simp), ih fun y hy => h y (by simp [hy])]; rfl
theorem sumF_one (n : Nat) (g : Nat → Int) {q : Nat} (hq : q < n) : sumF (fun p => if p = q then g p else 0) (List.range n) = g q := by
  induction n with
  | zero => omega
  | succ n ih =>
    rw [sumF_range_succ]
    by_cases e : q = n
    · subst e
      rw [sumF_zero fun x hx => if_neg (by have := List.mem_range.1 hx; omega), if_pos rfl]; omega
    · rw [ih (by omega), if_neg (by omega)]; omega
/-- sums over a list of points, point by point -/
theorem sumF_count (n : Nat) (g : Nat → Int) {α : Type} (r : α → Nat) : ∀ l : List α, (∀ x ∈ l, r x < n) → sumF (fun x => g (r x)) l = sumF (fun p => ((l.countP fun x => decide (r x = p)) : Int) * g p) (List.range n)
  | [], _ => by rw [sumF_nil, sumF_zero fun x _ => by simp]
  | x :: l, h => by
    rw [sumF_cons, sumF_count n g r l fun y hy => h y (by simp [hy]), ← sumF_one n g (h x (by simp)), ← sumF_add]
    refine sumF_congr fun p _ => ?_
    rw [List.countP_cons]
    by_cases e : r x = p
    · rw [if_pos e.symm, if_pos (decide_eq_true e), Int.natCast_add, Int.add_mul]; omega
    · rw [if_neg (fun h => e h.symm), if_neg (by simp [e])]; simp
theorem countP_sum {α β : Type} (f : α → List β) (P : β → Bool) : ∀ l : List α, ((l.flatMap f).countP P : Int) = sumF (fun x => ((f x).countP P : Int)) l
  | [] => rfl
  | x :: l => by rw [List.flatMap_cons, List.countP_append, sumF_cons, Int.natCast_add, countP_sum f P l]
section
variable {ms : List Mp} {n f : Int}
theorem row_sum {X : Int} {p : Nat} {x : Int} (hp : (p : Int) < n) (x0 : 0 ≤ x) (x1 : x ≤ X) : ∀ (l : List Mp) (v : Mp) (B : Int), (∀ m ∈ l, MpN m n) → Bd v B → 0 ≤ B → B + l.length * X ≤ 9000000000000000000 →
    ∀ i, i < 5 → (rowV l p x v).to i = v.to i + (l.countP fun m => decide (m.to p = (i : Int))) * x
  | [], v, B, _, hv, _, _, i, _ => by simp [rowV]
  | m :: t, v, B, hm, hv, hB, hle, i, hi => by
    have hq := (hm m (by simp)).toR hp
    have hX : 0 ≤ X := by omega
    have elen : ((m :: t).length : Int) * X = X + t.length * X := by rw [List.length_cons, Int.natCast_add, Int.add_mul]; omega
    have htX : 0 ≤ (t.length : Int) * X := Int.mul_nonneg (by omega) hX
    rw [elen] at hle
    have hqB := hv (m.to p).toNat (by omega)
    have ht : ∀ i, i < 5 → (addV v (m.to p).toNat x).to i = if i = (m.to p).toNat then v.to i + x else v.to i := fun i hi => by
      unfold addV
      rw [Mp.set_to v (by omega)]
      split
      · rename_i e; subst e; exact wrap_small (by omega) (by omega)
      · rfl
    have hb : Bd (addV v (m.to p).toNat x) (B + X) := fun i hi => by
      have := hv i hi
      rw [ht i hi]
      split <;> omega
    show (rowV t p x (addV v (m.to p).toNat x)).to i = _
    rw [row_sum hp x0 x1 t (addV v (m.to p).toNat x) (B + X) (fun m' h' => hm m' (by simp [h'])) hb (by omega) (by omega) i hi, ht i hi, List.countP_cons]
    by_cases e : m.to p = (i : Int)
    · rw [if_pos (by omega), if_pos (decide_eq_true e), Int.natCast_add, Int.add_mul]; omega
    · rw [if_neg (by omega), if_neg (by simp [e])]; simp
theorem nxt_sum {X : Int} {now : Mp} (hr : RightL ms n) (hn : Bd now X) (hX0 : 0 ≤ X) (hX : 30 * X ≤ 9000000000000000000) : ∀ k : Nat, (k : Int) ≤ n → ∀ i, i < 5 →
    (nxtV ms now k).to i = sumF (fun p => now.to p * (ms.countP fun m => decide (m.to p = (i : Int)))) (List.range k)
  | 0, _, i, _ => by show Mp.z.to i = _; rw [to_z]; rfl
  | k + 1, hk, i, hi => by
    have h5 := hr.bounds.2
    have h6 := hr.six
    obtain ⟨h1, _⟩ := nxt_pos hr hn hX0 hX k (by omega)
    have hnk := hn k (by omega)
    have hlX : (ms.length : Int) * X ≤ 6 * X := Int.mul_le_mul_of_nonneg_right (by omega) hX0
    have hkX : (k : Int) * (6 * X) ≤ 4 * (6 * X) := Int.mul_le_mul_of_nonneg_right (by omega) (by omega)
    have hk0 : 0 ≤ (k : Int) * (6 * X) := Int.mul_nonneg (by omega) (by omega)
    rw [nxtV_succ, row_sum (by omega) hnk.1 hnk.2 ms (nxtV ms now k) (k * (6 * X)) hr.all h1 hk0 (by omega) i hi, nxt_sum hr hn hX0 hX k (by omega) i hi, sumF_range_succ, Int.mul_comm (now.to k)]
theorem countP_idx (P : Mp → Bool) (u : List Int) : ((List.range ms.length).map fun (j : Nat) => u ++ [(j : Int)]).countP (fun v => P (nth ms (v.getLastD 0))) = ms.countP P := by
  rw [List.countP_map]
  have : ∀ l : List Mp, (List.range l.length).countP (fun j => P (l.getD j Mp.z)) = l.countP P := by
    intro l
    induction l with
    | nil => rfl
    | cons x l ih =>
      rw [List.length_cons, List.range_succ_eq_map, List.countP_cons, List.countP_cons, List.countP_map, ← ih]
      rfl
  rw [← this ms]
  congr 1
  funext j
  simp [nth]
theorem now_count (hr : RightL ms n) (f0 : 0 ≤ f) (f1 : f < n) : ∀ k, k ≤ 10 → ∀ i, i < 5 → (nowV ms f n k).to i = ((wordsL ms.length k).countP fun u => decide (run (stS ms) f u = (i : Int)) : Int)
  | 0, _, i, hi => by
    show (Mp.z.set f.toNat 1).to i = _
    have h5 := hr.bounds.2
    rw [Mp.set_to _ (by omega), to_z]
    show _ = (([[]] : List (List Int)).countP fun u => decide (run (stS ms) f u = (i : Int)) : Int)
    rw [List.countP_cons, List.countP_nil]
    show _ = (((0 : Nat) + if decide (f = (i : Int)) = true then 1 else 0 : Nat) : Int)
    by_cases e : f = (i : Int)
    · rw [if_pos (by omega), if_pos (by simp [e])]; rfl
    · rw [if_neg (by omega), if_neg (by simp [e])]; rfl
  | k + 1, hk, i, hi => by
    have h5 := hr.bounds.2
    have hb := (now_pos hr f0 f1 k (by omega)).1
    have hp := (pow30 (k + 1) hk).2
    have hp' := (pow30 k (by omega)).1
    have hX : 30 * (30 : Int) ^ k ≤ 9000000000000000000 := by rw [Int.pow_succ] at hp; omega
    show (nxtV ms (nowV ms f n k) n.toNat).to i = _
    rw [nxt_sum hr hb (by omega) hX n.toNat (by omega) i hi]
    show _ = (((wordsL ms.length k).flatMap fun u => (List.range ms.length).map fun (j : Nat) => u ++ [(j : Int)]).countP _ : Int)
    rw [countP_sum]
    have hrng : ∀ u ∈ wordsL ms.length k, 0 ≤ run (stS ms) f u ∧ run (stS ms) f u < n := fun u hu => Wd.rng (k := u.length) hr f0 f1 ⟨u, rfl, wordsL_in hu, rfl⟩
    have e1 : ∀ u ∈ wordsL ms.length k, ((((List.range ms.length).map fun (j : Nat) => u ++ [(j : Int)]).countP fun v => decide (run (stS ms) f v = (i : Int)) : Nat) : Int) = (ms.countP fun m => decide (m.to (run (stS ms) f u).toNat = (i : Int)) : Nat) := fun u hu => by
      rw [← countP_idx (ms := ms) (fun m => decide (m.to (run (stS ms) f u).toNat = (i : Int))) u, List.countP_map, List.countP_map]
      refine congrArg _ (List.countP_congr fun j hj => ?_)
      have hj' := List.mem_range.1 hj
      simp only [Function.comp_apply, run_snoc, decide_eq_true_eq]
      have : nth ms ((u ++ [(j : Int)]).getLastD 0) = ms.getD j Mp.z := by simp [nth]
      rw [this]
      exact Iff.rfl
    rw [sumF_congr e1, sumF_count n.toNat (fun p => ((ms.countP fun m => decide (m.to p = (i : Int))) : Int)) (fun u => (run (stS ms) f u).toNat) _ (fun u hu => by have := hrng u hu; omega)]
    refine sumF_congr fun p hp2 => ?_
    have hp3 := List.mem_range.1 hp2
    rw [now_count hr f0 f1 k (by omega) p (by omega)]
    congr 2
    refine List.countP_congr fun u hu => ?_
    have := hrng u hu
    simp only [decide_eq_true_eq]
    omega
theorem sum_count {v : Mp} {X : Int} (hv : Bd v X) (hX : 0 ≤ X) : ∀ (l : List Int) (s : Int), (∀ x ∈ l, 0 ≤ x ∧ x < 5) → 0 ≤ s → s + l.length * X ≤ 9000000000000000000 →
    l.foldl (fun s x => wrap64 (s + v.at x)) s = s + sumF (fun x => v.at x) l
  | [], s, _, _, _ => by simp [sumF]
  | x :: t, s, hl, hs, hle => by
    have hx := hl x (by simp)
    have hb := hv x.toNat (by omega)
    have elen : ((x :: t).length : Int) * X = X + t.length * X := by rw [List.length_cons, Int.natCast_add, Int.add_mul]; omega
    have htX : 0 ≤ (t.length : Int) * X := Int.mul_nonneg (by omega) hX
    rw [elen] at hle
    have ea : v.at x = v.to x.toNat := rfl
    rw [List.foldl_cons, wrap_small (by rw [ea]; omega) (by rw [ea]; omega), sum_count hv hX t (s + v.at x) (fun y hy => hl y (by simp [hy])) (by rw [ea]; omega) (by rw [ea]; omega), sumF_cons]
    omega
theorem countP_mem {α : Type} (r : α → Int) (W : List α) : ∀ l : List Int, l.Nodup → sumF (fun x => ((W.countP fun u => decide (r u = x)) : Int)) l = (W.countP fun u => decide (r u ∈ l) : Int)
  | [], _ => by simp [sumF]
  | x :: l, h => by
    obtain ⟨h1, h2⟩ := List.nodup_cons.1 h
    rw [sumF_cons, countP_mem r W l h2]
    clear h h2
    induction W with
    | nil => rfl
    | cons u W ih =>
      rw [List.countP_cons, List.countP_cons, List.countP_cons]
      by_cases e1 : r u = x
      · rw [if_pos (decide_eq_true e1), if_neg (by rw [e1]; simpa using h1), if_pos (by rw [e1]; simp)]; omega
      · by_cases e2 : r u ∈ l
        · rw [if_neg (by simp [e1]), if_pos (decide_eq_true e2), if_pos (by simp [e2])]; omega
        · rw [if_neg (by simp [e1]), if_neg (by simp [e2]), if_neg (by simp [e1, e2])]; omega
/-- the counts, by words -/
theorem countL_words {ls : List Int} (hr : RightA ms f ls n) {k : Nat} (hk : k ≤ 10) : sumV (nowV ms f n k) ls = ((wordsL ms.length k).countP fun u => decide (run (stS ms) f u ∈ ls) : Int) := by
  have hb := hr.list.bounds
  have hlen := set_len hr.set hb.1 hb.2
  have hrg : ∀ x ∈ ls, 0 ≤ x ∧ x < n := fun x hx => by
    obtain ⟨j, hj, rfl⟩ := List.mem_iff_getElem.1 hx
    have := hr.set.range (List.getElem?_eq_getElem hj)
    omega
  obtain ⟨h1, _⟩ := now_pos hr.list hr.f0 hr.f1 k hk
  have hp := pow30 k hk
  have hl : (ls.length : Int) * 30 ^ k ≤ 5 * 30 ^ k := Int.mul_le_mul_of_nonneg_right (by omega) (by omega)
  have nd : ls.Nodup := hr.set.asc.imp fun h e => by omega
  unfold sumV
  rw [sum_count h1 (by omega) ls 0 (fun x hx => by have := hrg x hx; omega) (by omega) (by omega), Int.zero_add, ← countP_mem _ _ _ nd]
  refine sumF_congr fun x hx => ?_
  have := hrg x hx
  show (nowV ms f n k).to x.toNat = _
  rw [now_count hr.list hr.f0 hr.f1 k hk x.toNat (by omega), Int.toNat_of_nonneg this.1]
theorem wordsL_length (l : Nat) : ∀ k, (wordsL l k).length = l ^ k
  | 0 => rfl
  | k + 1 => by
    unfold wordsL
    rw [List.length_flatMap]
    have : ∀ W : List (List Int), (W.map fun u => ((List.range l).map fun (j : Nat) => u ++ [(j : Int)]).length).sum = W.length * l := by
      intro W
      induction W with
      | nil => simp
      | cons x W ih => rw [List.map_cons, List.sum_cons, ih, List.length_map, List.length_range, List.length_cons, Nat.add_mul]; omega
    rw [this, wordsL_length l k, Nat.pow_succ]
end
end Go.Proofs.Ytbodaefdaagelaa
