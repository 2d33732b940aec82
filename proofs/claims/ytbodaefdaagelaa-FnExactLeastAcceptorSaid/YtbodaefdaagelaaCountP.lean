/- What 'CountAccepted' counts, with no program in sight. No condition. -/
import Derived.Test.YtbodaefdaagelaaLast
namespace Go.Proofs.Ytbodaefdaagelaa
set_option linter.unusedSimpArgs false
set_option linter.unusedVariables false
set_option linter.unusedSectionVars false
open Go.RowKit
def addV (v : Mp) (q : Nat) (x : Int) : Mp := v.set q (wrap64 (v.to q + x))
def rowV (ms : List Mp) (p : Nat) (x : Int) (v : Mp) : Mp := ms.foldl (fun v m => addV v (m.to p).toNat x) v
theorem rowV_snoc {ms : List Mp} {j : Nat} {m : Mp} (h : ms[j]? = some m) (p : Nat) (x : Int) (v : Mp) : rowV (ms.take (j + 1)) p x v = addV (rowV (ms.take j) p x v) (m.to p).toNat x := by
  unfold rowV
  rw [List.take_add_one, h, List.foldl_append]
  rfl
def nxtV (ms : List Mp) (now : Mp) (k : Nat) : Mp := (List.range k).foldl (fun v p => rowV ms p (now.to p) v) Mp.z
theorem nxtV_succ (ms : List Mp) (now : Mp) (k : Nat) : nxtV ms now (k + 1) = rowV ms k (now.to k) (nxtV ms now k) := by
  unfold nxtV
  rw [List.range_succ, List.foldl_append]
  rfl
def sumV (now : Mp) (ls : List Int) : Int := ls.foldl (fun s x => wrap64 (s + now.at x)) 0
theorem sumV_snoc {ls : List Int} {j : Nat} {x : Int} (h : ls[j]? = some x) (now : Mp) : sumV now (ls.take (j + 1)) = wrap64 (sumV now (ls.take j) + now.at x) := by
  unfold sumV
  rw [List.take_add_one, h, List.foldl_append]
  rfl
def sumI (now : Mp) (ls : List Int) (k : Nat) : Int := (List.range k).foldl (fun (s : Int) (p : Nat) => if (p : Int) ∈ ls then wrap64 (s + now.to p) else s) 0
theorem sumI_succ (now : Mp) (ls : List Int) (k : Nat) : sumI now ls (k + 1) = if (k : Int) ∈ ls then wrap64 (sumI now ls k + now.to k) else sumI now ls k := by
  unfold sumI
  rw [List.range_succ, List.foldl_append]
  rfl
theorem IsSet.asc {xs : List Int} {n : Int} (h : IsSet xs n) : xs.Pairwise (· < ·) := by
  rw [List.pairwise_iff_getElem]
  intro i j hi hj hij
  induction j with
  | zero => omega
  | succ j ih =>
    have hs : xs[j] < xs[j + 1] := h.step (List.getElem?_eq_getElem hj) (by omega) (by rw [Nat.add_sub_cancel]; exact List.getElem?_eq_getElem (by omega))
    by_cases e : i = j
    · subst e; exact hs
    · exact Int.lt_trans (ih (by omega) (by omega)) hs
theorem filt_succ (k : Int) : ∀ {ls : List Int}, ls.Pairwise (· < ·) → ls.filter (fun x => decide (x < k + 1)) = ls.filter (fun x => decide (x < k)) ++ (if k ∈ ls then [k] else []) := by
  intro ls
  induction ls with
  | nil => intro _; rfl
  | cons x t ih =>
    intro h
    have h1 := (List.pairwise_cons.1 h).1
    have h2 := ih (List.pairwise_cons.1 h).2
    rcases (by omega : x < k ∨ x = k ∨ k < x) with e | e | e
    · rw [List.filter_cons_of_pos (by simpa using (by omega : x < k + 1)), List.filter_cons_of_pos (by simpa using e), h2]
      have : (k ∈ x :: t) ↔ k ∈ t := by simp; omega
      simp [this]
    · subst e
      have ht : ∀ c, c ≤ x + 1 → t.filter (fun y => decide (y < c)) = [] := fun c hc => List.filter_eq_nil_iff.2 fun y hy => by
        have := h1 y hy
        simp; omega
      rw [List.filter_cons_of_pos (by simp; omega), List.filter_cons_of_neg (by simp), ht _ (by omega), ht _ (by omega)]
      simp
    · have ht : ∀ c, c ≤ k + 1 → t.filter (fun y => decide (y < c)) = [] := fun c hc => List.filter_eq_nil_iff.2 fun y hy => by
        have := h1 y hy
        simp; omega
      have hk : k ∉ x :: t := fun hk => by
        rcases List.mem_cons.1 hk with rfl | hk
        · omega
        · have := h1 k hk; omega
      rw [List.filter_cons_of_neg (by simp; omega), List.filter_cons_of_neg (by simp; omega), ht _ (by omega), ht _ (by omega), if_neg hk]
      rfl
theorem sumI_filt (now : Mp) {ls : List Int} (h : ls.Pairwise (· < ·)) (h0 : ∀ x ∈ ls, 0 ≤ x) : ∀ k : Nat, sumI now ls k = sumV now (ls.filter fun x => decide (x < (k : Int))) := by
  intro k
  induction k with
  | zero =>
    have : ls.filter (fun x => decide (x < ((0 : Nat) : Int))) = [] := List.filter_eq_nil_iff.2 fun y hy => by
      have := h0 y hy
      simp; omega
    rw [this]
    rfl
  | succ k ih =>
    rw [sumI_succ, ih]
    have := filt_succ (k : Int) h
    rw [show (((k + 1 : Nat)) : Int) = (k : Int) + 1 by omega, this]
    by_cases e : (k : Int) ∈ ls
    · rw [if_pos e, if_pos e]
      unfold sumV
      rw [List.foldl_append]
      rfl
    · rw [if_neg e, if_neg e, List.append_nil]
theorem sumI_all (now : Mp) {ls : List Int} {n : Int} (h : IsSet ls n) (hn : n ≤ 5) : sumI now ls 5 = sumV now ls := by
  have hr : ∀ x ∈ ls, 0 ≤ x ∧ x ≤ n - 1 := fun x hx => by
    obtain ⟨j, hj, rfl⟩ := List.mem_iff_getElem.1 hx
    exact h.range (List.getElem?_eq_getElem hj)
  rw [sumI_filt now h.asc (fun x hx => (hr x hx).1)]
  congr 1
  exact List.filter_eq_self.2 fun x hx => by have := hr x hx; simp; omega
structure VOk (v : Mp) (n : Int) : Prop where
  rng : ∀ i, i < 5 → wrap64 (v.to i) = v.to i
  out : ∀ i : Nat, i < 5 → n ≤ (i : Int) → v.to i = 0
theorem to_z (i : Nat) : Mp.z.to i = 0 := by
  unfold Mp.to
  split <;> rfl
theorem VOk.z (n : Int) : VOk Mp.z n := ⟨fun i _ => by rw [to_z]; unfold wrap64; omega, fun i _ _ => to_z i⟩
theorem wrap_wrap (x : Int) : wrap64 (wrap64 x) = wrap64 x := by unfold wrap64; omega
theorem VOk.set {v : Mp} {n : Int} (h : VOk v n) {q : Nat} (hq : (q : Int) < n) (q5 : q < 5) {x : Int} (hx : wrap64 x = x) : VOk (v.set q x) n := by
  constructor
  · intro i hi
    rw [Mp.set_to v q5]
    split
    · exact hx
    · exact h.rng i hi
  · intro i hi hn
    rw [Mp.set_to v q5, if_neg (by omega)]
    exact h.out i hi hn
theorem VOk.add {v : Mp} {n : Int} (h : VOk v n) {q : Nat} (hq : (q : Int) < n) (q5 : q < 5) (x : Int) : VOk (addV v q x) n := h.set hq q5 (wrap_wrap _)
theorem MpN.toR {m : Mp} {n : Int} (h : MpN m n) {p : Nat} (hp : (p : Int) < n) : 0 ≤ m.to p ∧ m.to p < n ∧ m.to p < 5 := by
  have h2 := h.2
  have h3 := h.1.2.1
  have := (h.1.2.2 p (by omega)).1 (by omega)
  omega
theorem VOk.row {ms : List Mp} {n : Int} (hm : ∀ m ∈ ms, MpN m n) {p : Nat} (hp : (p : Int) < n) (x : Int) : ∀ {v : Mp}, VOk v n → VOk (rowV ms p x v) n := by
  induction ms with
  | nil => intro v h; exact h
  | cons m t ih =>
    intro v h
    have := (hm m (by simp)).toR hp
    show VOk (rowV t p x (addV v (m.to p).toNat x)) n
    exact ih (fun m' h' => hm m' (by simp [h'])) (h.add (by omega) (by omega) x)
theorem VOk.row_take {ms : List Mp} {n : Int} (hm : ∀ m ∈ ms, MpN m n) {p : Nat} (hp : (p : Int) < n) (x : Int) {v : Mp} (h : VOk v n) (j : Nat) : VOk (rowV (ms.take j) p x v) n :=
  h.row (fun m hm' => hm m (List.mem_of_mem_take hm')) hp x
theorem VOk.nxt {ms : List Mp} {n : Int} (hm : ∀ m ∈ ms, MpN m n) (now : Mp) : ∀ k : Nat, (k : Int) ≤ n → VOk (nxtV ms now k) n := by
  intro k
  induction k with
  | zero => intro _; exact VOk.z n
  | succ k ih =>
    intro hk
    rw [nxtV_succ]
    exact (ih (by omega)).row hm (by omega) _
theorem addV_zero {v : Mp} {n : Int} (h : VOk v n) : addV v 0 0 = v := Mp.ext' (Mp.set_p _ _ _) fun i hi => by
  unfold addV
  rw [Mp.set_to v (by decide)]
  split
  · subst i; rw [Int.add_zero]; exact h.rng 0 (by decide)
  · rfl
theorem rowV_far {ms : List Mp} {n : Int} (hm : ∀ m ∈ ms, MpN m n) {p : Nat} (hp : n ≤ (p : Int)) (p5 : p < 5) {v : Mp} (h : VOk v n) : rowV ms p 0 v = v := by
  induction ms with
  | nil => rfl
  | cons m t ih =>
    have hm0 := hm m (by simp)
    have e : m.to p = 0 := (hm0.1.2.2 p p5).2 (by have := hm0.2; omega)
    show rowV t p 0 (addV v (m.to p).toNat 0) = v
    rw [e]
    show rowV t p 0 (addV v 0 0) = v
    rw [addV_zero h]
    exact ih fun m' h' => hm m' (by simp [h'])
theorem nxtV_far {ms : List Mp} {n : Int} (h0 : 0 ≤ n) (hm : ∀ m ∈ ms, MpN m n) {now : Mp} (hv : VOk now n) : ∀ d : Nat, n.toNat + d ≤ 5 → nxtV ms now (n.toNat + d) = nxtV ms now n.toNat := by
  intro d
  induction d with
  | zero => intro _; rfl
  | succ d ih =>
    intro hd
    rw [← Nat.add_assoc, nxtV_succ, ih (by omega), hv.out _ (by omega) (by omega)]
    exact rowV_far hm (by omega) (by omega) (VOk.nxt hm now _ (by omega))
theorem nxtV_five {ms : List Mp} {n : Int} (h0 : 0 ≤ n) (h5 : n ≤ 5) (hm : ∀ m ∈ ms, MpN m n) {now : Mp} (hv : VOk now n) : nxtV ms now 5 = nxtV ms now n.toNat := by
  have := nxtV_far h0 hm hv (5 - n.toNat) (by omega)
  rwa [show n.toNat + (5 - n.toNat) = 5 by omega] at this
def nowV (ms : List Mp) (f n : Int) : Nat → Mp
  | 0 => Mp.z.set f.toNat 1
  | k + 1 => nxtV ms (nowV ms f n k) n.toNat
theorem nowV_ok {ms : List Mp} {f n : Int} (hm : ∀ m ∈ ms, MpN m n) (h0 : 0 ≤ f) (h1 : f < n) (h5 : n ≤ 5) : ∀ k, VOk (nowV ms f n k) n := by
  intro k
  cases k with
  | zero => exact (VOk.z n).set (by omega) (by omega) (by unfold wrap64; omega)
  | succ k => exact VOk.nxt hm _ _ (by omega)
def countL (ms : List Mp) (f : Int) (ls : List Int) (n : Int) (k : Nat) : List Int := (List.range k).map fun i => sumV (nowV ms f n i) ls
theorem countL_succ (ms : List Mp) (f : Int) (ls : List Int) (n : Int) (k : Nat) : countL ms f ls n (k + 1) = countL ms f ls n k ++ [sumV (nowV ms f n k) ls] := by
  unfold countL
  rw [List.range_succ, List.map_append]
  rfl
theorem countL_length (ms : List Mp) (f : Int) (ls : List Int) (n : Int) (k : Nat) : (countL ms f ls n k).length = k := by simp [countL]
noncomputable def RCountAccepted (ms : List Mp) (f : Int) (ls : List Int) (k : Int) : List Int × Int :=
  if accB ms f ls = true then (if 0 ≤ k ∧ k ≤ 20 then (countL ms f ls (ms.headD Mp.z).p (k.toNat + 1), 0) else ([], 2)) else ([], 1)
theorem RCountAccepted_len (ms : List Mp) (f : Int) (ls : List Int) (k : Int) : (RCountAccepted ms f ls k).1.length ≤ 1000 := by
  unfold RCountAccepted
  split
  · split
    · show (countL _ _ _ _ _).length ≤ 1000
      rw [countL_length]; omega
    · simp
  · simp
/-- the first n of five numbers -/
def vl (v : Mp) (n : Nat) : List Int := (List.range n).map v.to
theorem vl_length (v : Mp) (n : Nat) : (vl v n).length = n := by simp [vl]
theorem vl_at (v : Mp) {n q : Nat} (h : q < n) : (vl v n)[q]? = some (v.to q) := by simp [vl, h]
theorem vl_set (v : Mp) {n q : Nat} (h : q < n) (h5 : n ≤ 5) (x : Int) : (vl v n).set q x = vl (v.set q x) n := List.ext_getElem? fun j => by
  rw [List.getElem?_set]
  by_cases hj : j < n
  · rw [vl_at _ hj, vl_at _ hj, Mp.set_to v (by omega), vl_length]
    by_cases e : q = j
    · subst e; simp [h]
    · rw [if_neg e, if_neg (fun e' => e e'.symm)]
  · rw [List.getElem?_eq_none (by rw [vl_length]; omega), List.getElem?_eq_none (by rw [vl_length]; omega), if_neg (by omega)]
theorem vl_z (n : Nat) : vl Mp.z n = List.replicate n 0 := List.ext_getElem? fun j => by
  by_cases hj : j < n
  · rw [vl_at _ hj, to_z]; simp [hj]
  · rw [List.getElem?_eq_none (by rw [vl_length]; omega), List.getElem?_eq_none (by simp; omega)]
end Go.Proofs.Ytbodaefdaagelaa
