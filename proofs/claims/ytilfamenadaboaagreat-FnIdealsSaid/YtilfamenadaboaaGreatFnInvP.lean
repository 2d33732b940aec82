/- What 'FnInverses' compares, plain. No condition. -/
import Derived.Test.YtilfamenadaboaaGreatInvC
namespace Go.Proofs.YtilfamenadaboaaGreat
set_option linter.unusedSimpArgs false
set_option linter.unusedVariables false
set_option linter.unusedSectionVars false
open Go.RowKit
theorem lcode_els {ms ms' : List Mp} {g : Mp} (h : lcode ms ms' = 0) (hg : MpN g (ptsL ms)) : lcode ms [g] = 0 := by
  unfold lcode at h
  split at h
  · rename_i h1
    split at h
    · rename_i h2
      split at h
      · rename_i h3
        refine lcode_ok (fun m hm => ?_) h2 fun m hm => ?_
        · rcases List.mem_append.1 hm with hm | hm
          · exact h1 m (List.mem_append_left _ hm)
          · rw [List.mem_singleton.1 hm]; exact hg.1
        · rcases List.mem_append.1 hm with hm | hm
          · exact h3 m (List.mem_append_left _ hm)
          · rw [List.mem_singleton.1 hm]; exact hg.2
      · cases h
    · cases h
  · cases h
theorem inv_vals (ms : List Mp) (f : Mp) : ∃ (xs : List Mp) (rb : Bool) (q : Int), RInversesIn ms f = (xs, q) ∧ RIsRegularIn ms f = (rb, q) ∧ xs.length ≤ 300 ∧ (q ≠ 0 → xs = []) ∧ (q = 0 → rb = decide (0 < xs.length) ∧ ∀ g ∈ xs, ∃ ys : List Mp, RInversesIn ms g = (ys, 0) ∧ f ∈ ys ∧ ys.length ≤ 300) := by
  by_cases hc : moC ms [f] = 0
  · have hm := MonR.of hc
    have hz := moC_zero hc
    have clo := hm.clo
    have hf := hm.mem f (by simp)
    refine ⟨(elsOf ms).filter (invB f), regB (elsOf ms) f, 0, by unfold RInversesIn ROf; rw [if_pos hc], by unfold RIsRegularIn; rw [if_pos hc], Nat.le_trans (List.length_filter_le _ _) hm.len, fun h => absurd rfl h, fun _ => ⟨regB_inv clo hf, fun g hg => ?_⟩⟩
    obtain ⟨hg, hi⟩ := List.mem_filter.1 hg
    have hcg : lcode ms [g] = 0 := lcode_els hz.1 (clo.all g hg)
    have hmg : moC ms [g] = 0 := moC_ok hcg hz.2.1 (fun x hx => by rw [List.mem_singleton.1 hx]; exact hg)
    refine ⟨(elsOf ms).filter (invB g), by unfold RInversesIn ROf; rw [if_pos hmg], List.mem_filter.2 ⟨hf, ?_⟩, Nat.le_trans (List.length_filter_le _ _) hm.len⟩
    have fN := clo.all f hf
    have gN := clo.all g hg
    unfold invB at hi ⊢
    simp only [Bool.and_eq_true, decide_eq_true_eq] at hi ⊢
    exact ⟨by rw [mulM_assoc gN fN gN]; exact hi.2, by rw [← mulM_assoc fN gN fN]; exact hi.1⟩
  · refine ⟨[], false, moC ms [f], by unfold RInversesIn ROf; rw [if_neg hc], by unfold RIsRegularIn; rw [if_neg hc], by simp, fun _ => rfl, fun h => absurd h hc⟩
theorem reg_vals (ms : List Mp) : ∃ (all : List Mp) (whole inv : Bool) (q : Int), RRegularElements ms = (all, q) ∧ RIsRegularMonoid ms = (whole, q) ∧ RIsInverseMonoid ms = (inv, q) ∧ all.length ≤ 300 ∧
    (q = 0 → ∃ (els ids : List Mp), RElementsOf ms = (els, 0) ∧ RIdempotentsOf ms = (ids, 0) ∧ whole = decide (all.length = els.length) ∧ (inv = true → whole = true) ∧ ids.length ≤ all.length ∧ els.length ≤ 300) := by
  by_cases hc : moC ms [] = 0
  · have hm := MonR.of hc
    have clo := hm.clo
    have hw : (elsOf ms).all (regB (elsOf ms)) = decide (((elsOf ms).filter (regB (elsOf ms))).length = (elsOf ms).length) := by
      rw [Bool.eq_iff_iff]
      simp only [List.all_eq_true, decide_eq_true_eq, List.length_filter_eq_length_iff]
    refine ⟨(elsOf ms).filter (regB (elsOf ms)), (elsOf ms).all (regB (elsOf ms)), (elsOf ms).all (oneB (elsOf ms)), 0, by unfold RRegularElements RThat; rw [if_pos hc], by unfold RIsRegularMonoid; rw [if_pos hc], by unfold RIsInverseMonoid; rw [if_pos hc], Nat.le_trans (List.length_filter_le _ _) hm.len, fun _ =>
      ⟨elsOf ms, (elsOf ms).filter idemB, RElementsOf_ok hc, by unfold RIdempotentsOf RThat; rw [if_pos hc], hw, fun hi => ?_, ?_, hm.len⟩⟩
    · rw [List.all_eq_true] at hi ⊢
      intro f hf
      rw [regB_inv clo hf]
      have := of_decide_eq_true (hi f hf)
      exact decide_eq_true (by omega)
    · rw [← List.countP_eq_length_filter, ← List.countP_eq_length_filter]
      refine List.countP_mono_left fun e he hi => ?_
      unfold idemB at hi
      unfold regB
      rw [List.any_eq_true]
      have h1 := of_decide_eq_true hi
      exact ⟨e, he, decide_eq_true (by rw [h1]; exact h1)⟩
  · exact ⟨[], false, false, moC ms [], by unfold RRegularElements RThat; rw [if_neg hc], by unfold RIsRegularMonoid; rw [if_neg hc], by unfold RIsInverseMonoid; rw [if_neg hc], by simp, fun h => absurd h hc⟩
end Go.Proofs.YtilfamenadaboaaGreat
