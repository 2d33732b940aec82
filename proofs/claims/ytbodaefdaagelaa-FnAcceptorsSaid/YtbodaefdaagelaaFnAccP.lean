/- The plain law of 'FnAcceptors': counts of the least acceptor and of the complement. No condition. -/
import Derived.Test.YtbodaefdaagelaaLeastLaw
import Derived.Test.YtbodaefdaagelaaWordsC
import Derived.Test.YtbodaefdaagelaaCompl
namespace Go.Proofs.Ytbodaefdaagelaa
set_option linter.unusedSimpArgs false
set_option linter.unusedVariables false
set_option linter.unusedSectionVars false
open Go.RowKit
theorem countL_get {ms : List Mp} {f n : Int} {ls : List Int} (hr : RightA ms f ls n) {k : Nat} (hk : k < 7) : (countL ms f ls n 7)[k]? = some ((wordsL ms.length k).countP fun u => decide (run (stS ms) f u ∈ ls) : Int) := by
  unfold countL
  rw [List.getElem?_map, List.getElem?_range hk]
  exact congrArg some (countL_words hr (by omega))
theorem counts_same {ms : List Mp} {f n : Int} {ls : List Int} (hr : RightA ms f ls n) : countL (lmaps ms f ls) 0 (llast ms f ls) (leastQ ms f ls) 7 = countL ms f ls n 7 := by
  have h2 := least_right hr
  refine List.ext_getElem? fun k => ?_
  by_cases hk : k < 7
  · rw [countL_get h2 hk, countL_get hr hk, lmaps_length]
    congr 2
    refine List.countP_congr fun u hu => ?_
    simp only [decide_eq_true_eq]
    exact least_same hr (wordsL_in hu)
  · rw [List.getElem?_eq_none (by rw [countL_length]; omega), List.getElem?_eq_none (by rw [countL_length]; omega)]
theorem countP_compl {α : Type} (p q : α → Bool) : ∀ l : List α, (∀ x ∈ l, q x = !p x) → l.countP p + l.countP q = l.length
  | [], _ => rfl
  | x :: l, h => by
    have ih := countP_compl p q l fun y hy => h y (List.mem_cons_of_mem _ hy)
    have hx := h x (List.mem_cons_self ..)
    rw [List.countP_cons, List.countP_cons, hx, List.length_cons]
    cases p x <;> simp <;> omega
theorem counts_all {ms : List Mp} {f n : Int} {ls ks : List Int} (hr : RightA ms f ls n) (hr' : RightA ms f ks n) (hk : ∀ x, 0 ≤ x → x < n → (x ∈ ks ↔ x ∉ ls)) {k : Nat} (h7 : k < 7) : ∃ x y, (countL ms f ls n 7)[k]? = some x ∧ (countL ms f ks n 7)[k]? = some y ∧ x + y = ((ms.length ^ k : Nat) : Int) := by
  refine ⟨_, _, countL_get hr h7, countL_get hr' h7, ?_⟩
  have h := countP_compl (fun u => decide (run (stS ms) f u ∈ ls)) (fun u => decide (run (stS ms) f u ∈ ks)) (wordsL ms.length k) fun u hu => by
    have hm := reach_rng hr.list hr.f0 hr.f1 (reach_run hr (reach_self hr) (wordsL_in hu))
    have := hk _ hm.1 hm.2
    rw [Bool.eq_iff_iff]
    simp [this]
  rw [wordsL_length] at h
  omega
theorem mem_compl {ls : List Int} {n x : Int} (hn : 0 ≤ n) : x ∈ keptL ls (ptsN n.toNat) ↔ (0 ≤ x ∧ x < n) ∧ x ∉ ls := by
  unfold keptL ptsN
  rw [List.mem_filter, List.mem_map]
  constructor
  · rintro ⟨⟨i, hi, rfl⟩, h⟩
    rw [List.mem_range] at hi
    exact ⟨⟨by omega, by omega⟩, by simpa using h⟩
  · rintro ⟨⟨h0, h1⟩, h⟩
    exact ⟨⟨x.toNat, by rw [List.mem_range]; omega, by omega⟩, by simpa using h⟩
theorem compl_right {ms : List Mp} {f n : Int} {ls : List Int} (hr : RightA ms f ls n) : RightA ms f (keptL ls (ptsN n.toNat)) n := by
  have hn : 0 ≤ n := by have := hr.f0; have := hr.f1; omega
  refine ⟨hr.list, hr.f0, hr.f1, isSet_of ?_ fun x hx => ((mem_compl hn).1 hx).1⟩
  unfold keptL ptsN
  refine List.Pairwise.filter _ ?_
  rw [List.pairwise_map]
  exact List.pairwise_lt_range.imp fun h => by omega
/-- counts of an acceptor and its complement -/
theorem counts_compl {ms : List Mp} {f n : Int} {ls : List Int} (hr : RightA ms f ls n) {k : Nat} (h7 : k < 7) : ∃ x y, (countL ms f ls n 7)[k]? = some x ∧ (countL ms f (keptL ls (ptsN n.toNat)) n 7)[k]? = some y ∧ x + y = ((ms.length ^ k : Nat) : Int) :=
  counts_all hr (compl_right hr) (fun x h0 h1 => by
    rw [mem_compl (by omega)]
    exact ⟨fun h => h.2, fun h => ⟨⟨h0, h1⟩, h⟩⟩) h7
end Go.Proofs.Ytbodaefdaagelaa
