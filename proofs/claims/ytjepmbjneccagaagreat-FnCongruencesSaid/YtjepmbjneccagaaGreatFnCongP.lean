/- What 'FnCongruences' compares, plain. No condition. -/
import Derived.Test.YtjepmbjneccagaaGreatCongBy
import Derived.Test.YtjepmbjneccagaaGreatIsCong
import Derived.Test.YtjepmbjneccagaaGreatJoinC
namespace Go.Proofs.YtjepmbjneccagaaGreat
set_option linter.unusedSimpArgs false
set_option linter.unusedVariables false
set_option linter.unusedSectionVars false
open Go.RowKit
open Classical in
theorem genL_rel {N : Nat} {T : Nat → Nat → Nat} {both : Bool} {P : Nat → Nat → Prop} {i k : Nat} (hi : i < N) (hk : k < N) : relL (genL N T both P) i k ↔ Gen N T both P i k := by
  have hr := numL_rel (S := fun k i => decide (Gen N T both P k i)) (n := N)
    (fun i hi => decide_eq_true (gen_eqv.refl i hi)) (fun i k hi hk h => decide_eq_true (gen_eqv.symm i k hi hk (of_decide_eq_true h))) (fun i j k hi hj hk h1 h2 => decide_eq_true (gen_eqv.trans i j k hi hj hk (of_decide_eq_true h1) (of_decide_eq_true h2)))
  have h1 := hr i k hi hk
  rw [decide_eq_true_eq] at h1
  exact h1
open Classical in
theorem genL_stab {N : Nat} {T : Nat → Nat → Nat} {both : Bool} {P : Nat → Nat → Prop} (hT : ∀ i k, i < N → k < N → T i k < N) : StabN N T both (relL (genL N T both P)) := fun a b ha hb h c hc => by
  have hg := gen_stab (T := T) (both := both) (P := P) a b ha hb ((genL_rel ha hb).1 h) c hc
  exact ⟨(genL_rel (hT a c ha hc) (hT b c hb hc)).2 hg.1, fun hB => (genL_rel (hT c a hc ha) (hT c b hc hb)).2 (hg.2 hB)⟩
open Classical in
theorem is_made {ms : List Mp} {both : Bool} {cl : List Int} (h : pcC 30 ms = 0) (hc : IsCan cl (elsOf ms).length) (hs : StabN (elsOf ms).length (mpl (elsOf ms)) both (relL cl)) : RIsMade both ms cl = (true, 0) := by
  unfold RIsMade stabB
  rw [if_pos h, if_pos ((canB_iff _ _).2 hc), decide_eq_true hs]
open Classical in
/-- classes made by pairs, from both sides and from the right -/
theorem made_vals (ms : List Mp) (prs : List (List Int)) : ∃ (xs ys : List Int) (q : Int), RCongruenceOf ms prs = (xs, q) ∧ RRightCongruence ms prs = (ys, q) ∧ xs.length ≤ 1000 ∧ ys.length ≤ 1000 ∧ (q ≠ 0 → xs = []) ∧
    (q = 0 → RIsCongruence ms xs = (true, 0) ∧ RIsRightCongruence ms ys = (true, 0) ∧ ys.length = xs.length ∧ 0 < xs.length ∧ ∀ pr ∈ prs, ∃ x y : Nat, pr = [(x : Int), (y : Int)] ∧ x < xs.length ∧ y < xs.length ∧ cls xs x = cls xs y ∧ cls ys x = cls ys y) := by
  by_cases hc : pcC 30 ms = 0
  · have htr := TabR.of hc
    have hok := htr.tab
    have hle := htr.le
    by_cases hp : pairsB (elsOf ms).length prs = true
    · refine ⟨genL (elsOf ms).length (mpl (elsOf ms)) true (PairP prs), genL (elsOf ms).length (mpl (elsOf ms)) false (PairP prs), 0, by unfold RCongruenceOf RMadeBy; rw [if_pos hc, if_pos hp], by unfold RRightCongruence RMadeBy; rw [if_pos hc, if_pos hp], by rw [genL_length]; omega, by rw [genL_length]; omega, fun h => absurd rfl h, fun _ =>
        ⟨is_made hc (numL_can _ _) (genL_stab hok.lt), is_made hc (numL_can _ _) (genL_stab hok.lt), by rw [genL_length, genL_length], by rw [genL_length]; exact htr.pos, fun pr hpr => ?_⟩⟩
      obtain ⟨x, y, e, hx, hy⟩ := (pairsB_spec hp).2 pr hpr
      rw [genL_length]
      exact ⟨x, y, e, hx, hy, (genL_rel hx hy).2 (gen_of hx hy (by unfold PairP; rw [← e]; exact hpr)), (genL_rel hx hy).2 (gen_of hx hy (by unfold PairP; rw [← e]; exact hpr))⟩
    · exact ⟨[], [], 2, by unfold RCongruenceOf RMadeBy; rw [if_pos hc, if_neg hp], by unfold RRightCongruence RMadeBy; rw [if_pos hc, if_neg hp], by simp, by simp, fun _ => rfl, fun h => absurd h (by decide)⟩
  · exact ⟨[], [], pcC 30 ms, by unfold RCongruenceOf RMadeBy; rw [if_neg hc], by unfold RRightCongruence RMadeBy; rw [if_neg hc], by simp, by simp, fun _ => rfl, fun h => absurd h hc⟩
open Classical in
/-- classes that are congruences are right ones -/
theorem is_vals (ms : List Mp) (cl : List Int) : ∃ (good side : Bool) (q : Int), RIsCongruence ms cl = (good, q) ∧ RIsRightCongruence ms cl = (side, q) ∧ (good && !side) = false := by
  by_cases hc : pcC 30 ms = 0
  · by_cases hn : canB cl (elsOf ms).length = true
    · refine ⟨stabB (elsOf ms).length (mpl (elsOf ms)) true cl, stabB (elsOf ms).length (mpl (elsOf ms)) false cl, 0, by unfold RIsCongruence RIsMade; rw [if_pos hc, if_pos hn], by unfold RIsRightCongruence RIsMade; rw [if_pos hc, if_pos hn], ?_⟩
      by_cases hs : StabN (elsOf ms).length (mpl (elsOf ms)) true (relL cl)
      · have h2 : StabN (elsOf ms).length (mpl (elsOf ms)) false (relL cl) := fun a b ha hb h c hc => ⟨(hs a b ha hb h c hc).1, fun h => by cases h⟩
        unfold stabB
        rw [decide_eq_true h2]
        simp
      · unfold stabB
        rw [decide_eq_false hs]
        rfl
    · exact ⟨false, false, 2, by unfold RIsCongruence RIsMade; rw [if_pos hc, if_neg hn], by unfold RIsRightCongruence RIsMade; rw [if_pos hc, if_neg hn], rfl⟩
  · exact ⟨false, false, pcC 30 ms, by unfold RIsCongruence RIsMade; rw [if_neg hc], by unfold RIsRightCongruence RIsMade; rw [if_neg hc], rfl⟩
open Classical in
/-- joins and meets -/
theorem two_vals (ms : List Mp) (a b : List Int) : ∃ (jn mt : List Int) (q : Int), RJoinCongruences ms a b = (jn, q) ∧ RMeetCongruences ms a b = (mt, q) ∧ jn.length ≤ 1000 ∧ mt.length ≤ 1000 ∧
    (q = 0 → RIsCongruence ms jn = (true, 0) ∧ RIsCongruence ms mt = (true, 0) ∧ 0 < a.length ∧ b.length = a.length ∧ jn.length = a.length ∧ mt.length = a.length ∧ ∀ i k, i < a.length → k < a.length →
      (cls a i = cls a k ∨ cls b i = cls b k → cls jn i = cls jn k) ∧ ((cls a i = cls a k ∧ cls b i = cls b k) ↔ cls mt i = cls mt k)) := by
  by_cases hc : bothC ms [a, b] = 0
  · obtain ⟨hp, h1, h2⟩ := bothC_zero hc
    obtain ⟨ca, cb, hpos, hle⟩ := both_can hc
    have hok := (TabR.of hp).tab
    have hlt := hok.lt
    have sa : StabN (elsOf ms).length (mpl (elsOf ms)) true (relL a) := of_decide_eq_true (h2 a (by simp))
    have sb : StabN (elsOf ms).length (mpl (elsOf ms)) true (relL b) := of_decide_eq_true (h2 b (by simp))
    have hm : ∀ i k, i < (elsOf ms).length → k < (elsOf ms).length → (cls (numL (meetS a b) (elsOf ms).length) i = cls (numL (meetS a b) (elsOf ms).length) k ↔ meetS a b i k = true) := numL_rel (S := meetS a b)
      (fun i _ => by unfold meetS; simp) (fun i k _ _ h => by unfold meetS at h ⊢; simp only [Bool.and_eq_true, decide_eq_true_eq] at h ⊢; exact ⟨h.1.symm, h.2.symm⟩)
      (fun i j k _ _ _ h h' => by unfold meetS at h h' ⊢; simp only [Bool.and_eq_true, decide_eq_true_eq] at h h' ⊢; exact ⟨h.1.trans h'.1, h.2.trans h'.2⟩)
    have hm' : ∀ i k, i < (elsOf ms).length → k < (elsOf ms).length → (relL (numL (meetS a b) (elsOf ms).length) i k ↔ relL a i k ∧ relL b i k) := fun i k hi hk => by
      have := hm i k hi hk
      unfold meetS at this
      simp only [Bool.and_eq_true, decide_eq_true_eq] at this
      exact this
    have sm : StabN (elsOf ms).length (mpl (elsOf ms)) true (relL (numL (meetS a b) (elsOf ms).length)) := fun x y hx hy h c hc => by
      obtain ⟨e1, e2⟩ := (hm' x y hx hy).1 h
      have q1 := sa x y hx hy e1 c hc
      have q2 := sb x y hx hy e2 c hc
      exact ⟨(hm' _ _ (hlt x c hx hc) (hlt y c hy hc)).2 ⟨q1.1, q2.1⟩, fun hB => (hm' _ _ (hlt c x hc hx) (hlt c y hc hy)).2 ⟨q1.2 hB, q2.2 hB⟩⟩
    refine ⟨genL (elsOf ms).length (mpl (elsOf ms)) true (orR a b), numL (meetS a b) (elsOf ms).length, 0, by unfold RJoinCongruences; rw [if_pos hc], by unfold RMeetCongruences; rw [if_pos hc], by rw [genL_length]; omega, by rw [numL_length]; omega, fun _ =>
      ⟨is_made hp (numL_can _ _) (genL_stab hlt), is_made hp (numL_can _ _) sm, by rw [ca.1]; exact hpos, by rw [ca.1, cb.1], by rw [genL_length, ca.1], by rw [numL_length, ca.1], fun i k hi hk => ?_⟩⟩
    rw [ca.1] at hi hk
    exact ⟨fun h => (genL_rel hi hk).2 (gen_of hi hk h), (hm' i k hi hk).symm⟩
  · exact ⟨[], [], bothC ms [a, b], by unfold RJoinCongruences; rw [if_neg hc], by unfold RMeetCongruences; rw [if_neg hc], by simp, by simp, fun h => absurd h hc⟩
end Go.Proofs.YtjepmbjneccagaaGreat
