/- What 'FnIdeals' compares, plain. No condition. -/
import Derived.Test.YtilfamenadaboaaGreatFnInvP
import Derived.Test.YtilfamenadaboaaGreatRankI
import Derived.Test.YtilfamenadaboaaGreatLeastIdeal
import Derived.Test.YtilfamenadaboaaGreatCent
import Derived.Test.YtilfamenadaboaaGreatElBelow
namespace Go.Proofs.YtilfamenadaboaaGreat
set_option linter.unusedSimpArgs false
set_option linter.unusedVariables false
set_option linter.unusedSectionVars false
open Go.RowKit
theorem lcode_none {ms ms' : List Mp} (h : lcode ms ms' = 0) : lcode ms [] = 0 := by
  unfold lcode at h
  split at h
  · rename_i h1
    split at h
    · rename_i h2
      split at h
      · rename_i h3
        exact lcode_ok (fun m hm => h1 m (List.mem_append_left _ (by simpa using hm))) h2 fun m hm => h3 m (List.mem_append_left _ (by simpa using hm))
      · cases h
    · cases h
  · cases h
theorem moC_none {ms ms' : List Mp} (h : moC ms ms' = 0) : moC ms [] = 0 := by
  have hz := moC_zero h
  exact moC_ok (lcode_none hz.1) hz.2.1 (fun x hx => by cases hx)
theorem moC_one {ms ms' : List Mp} {f : Mp} (h : moC ms ms' = 0) (hf : f ∈ elsOf ms) : moC ms [f] = 0 := by
  have hz := moC_zero h
  exact moC_ok (lcode_els hz.1 ((MonR.of h).clo.all f hf)) hz.2.1 (fun x hx => by rw [List.mem_singleton.1 hx]; exact hf)
section
variable {l : List Mp} {n : Int} {f g : Mp}
theorem mem_ideal (hc : Clo l n) (hf : f ∈ l) : g ∈ idealM l f ↔ ∃ x ∈ l, ∃ y ∈ l, g = mulM (mulM x f) y := by
  unfold idealM
  rw [(hc.sorted (hc.flat hf)).2.1, mem_flat hc hf]
end
/-- what an element's ideals and its centraliser are -/
theorem idl_vals (ms : List Mp) (f : Mp) : ∃ (idl rt lf ct : List Mp) (q : Int), RIdealOf ms f = (idl, q) ∧ RRightIdeal ms f = (rt, q) ∧ RLeftIdeal ms f = (lf, q) ∧ RCentraliserIn ms f = (ct, q) ∧ idl.length ≤ 300 ∧ rt.length ≤ 300 ∧ lf.length ≤ 300 ∧ ct.length ≤ 300 ∧ (q ≠ 0 → idl = []) ∧
    (q = 0 → ∃ (lst : List Mp) (n rk : Int), RLeastIdeal ms = (lst, 0) ∧ 0 < lst.length ∧ f ∈ rt ∧ f ∈ lf ∧ f ∈ ct ∧ (∀ g ∈ rt, g ∈ idl) ∧ (∀ g ∈ lf, g ∈ idl) ∧ MpN f n ∧ (∀ g ∈ lst, MpN g n ∧ rankN n g = rk ∧ g ∈ idl) ∧ rk ≤ rankN n f) := by
  by_cases hc : moC ms [f] = 0
  · have hm := MonR.of hc
    have clo := hm.clo
    have hf := hm.mem f (by simp)
    have hid : idM (ptsL ms) ∈ elsOf ms := id_mem hm.list
    have fN := clo.all f hf
    have hc0 := moC_none hc
    have hpos : 0 < (elsOf ms).length := List.length_pos_of_mem hf
    obtain ⟨hb, hmin⟩ := leastM_spec (ptsL ms) hpos
    refine ⟨idealM (elsOf ms) f, rightM (elsOf ms) f, leftM (elsOf ms) f, (elsOf ms).filter (comB f), 0, by unfold RIdealOf ROf; rw [if_pos hc], by unfold RRightIdeal ROf; rw [if_pos hc], by unfold RLeftIdeal ROf; rw [if_pos hc], by unfold RCentraliserIn ROf; rw [if_pos hc],
      idealM_len clo hf, rightM_len clo hf, leftM_len clo hf, Nat.le_trans (List.length_filter_le _ _) hm.len, fun h => absurd rfl h, fun _ =>
      ⟨idealM (elsOf ms) (leastM (ptsL ms) (elsOf ms)), ptsL ms, rankN (ptsL ms) (leastM (ptsL ms) (elsOf ms)), by unfold RLeastIdeal; rw [if_pos hc0], ?_, ?_, ?_, ?_, fun g hg => ?_, fun g hg => ?_, fN, fun g hg => ?_, hmin f hf⟩⟩
    · exact List.length_pos_of_mem ((mem_ideal clo hb).2 ⟨idM (ptsL ms), hid, idM (ptsL ms), hid, by rw [mulM_id_left (clo.all _ hb), mulM_id_right (clo.all _ hb)]⟩)
    · exact (mem_right clo hf).2 ⟨idM (ptsL ms), hid, (mulM_id_right fN).symm⟩
    · exact (mem_left clo hf).2 ⟨idM (ptsL ms), hid, (mulM_id_left fN).symm⟩
    · exact List.mem_filter.2 ⟨hf, by unfold comB; simp⟩
    · obtain ⟨y, hy, rfl⟩ := (mem_right clo hf).1 hg
      exact (mem_ideal clo hf).2 ⟨idM (ptsL ms), hid, y, hy, by rw [mulM_id_left fN]⟩
    · obtain ⟨x, hx, rfl⟩ := (mem_left clo hf).1 hg
      exact (mem_ideal clo hf).2 ⟨x, hx, idM (ptsL ms), hid, by rw [mulM_id_right (mulM_MpN (clo.all x hx) fN)]⟩
    · obtain ⟨x, hx, y, hy, rfl⟩ := (mem_ideal clo hb).1 hg
      have bN := clo.all _ hb
      have xN := clo.all x hx
      have yN := clo.all y hy
      have gm : mulM (mulM x (leastM (ptsL ms) (elsOf ms))) y ∈ elsOf ms := clo.mul _ (clo.mul x hx _ hb) y hy
      have r1 := rank_mul_left (mulM_MpN xN bN) yN
      have r2 := rank_mul_right xN bN
      have r3 := hmin _ gm
      refine ⟨clo.all _ gm, by omega, ?_⟩
      obtain ⟨x2, hx2, y2, hy2, e⟩ := least_in clo hb hf (hmin _ (clo.mul _ (clo.mul _ hb f hf) _ hb))
      have x2N := clo.all x2 hx2
      have y2N := clo.all y2 hy2
      refine (mem_ideal clo hf).2 ⟨mulM x x2, clo.mul x hx x2 hx2, mulM y2 y, clo.mul y2 hy2 y hy, ?_⟩
      rw [show mulM (mulM x (leastM (ptsL ms) (elsOf ms))) y = mulM (mulM x (mulM (mulM x2 f) y2)) y by rw [← e], mulM_assoc xN x2N fN, ← mulM_assoc (mulM_MpN xN (mulM_MpN x2N fN)) y2N yN, mulM_assoc xN (mulM_MpN x2N fN) y2N]
  · exact ⟨[], [], [], [], moC ms [f], by unfold RIdealOf ROf; rw [if_neg hc], by unfold RRightIdeal ROf; rw [if_neg hc], by unfold RLeftIdeal ROf; rw [if_neg hc], by unfold RCentraliserIn ROf; rw [if_neg hc], by simp, by simp, by simp, by simp, fun _ => rfl, fun h => absurd h hc⟩
theorem lst_vals (ms : List Mp) : ∃ (lst : List Mp) (q : Int), RLeastIdeal ms = (lst, q) ∧ lst.length ≤ 300 := by
  unfold RLeastIdeal
  split
  · rename_i h
    have hm := MonR.of h
    exact ⟨_, _, rfl, idealM_len hm.clo (leastM_spec (ptsL ms) hm.pos).1⟩
  · exact ⟨_, _, rfl, by simp⟩
/-- elements below one -/
theorem bel_vals (ms : List Mp) (g h : Mp) : ∃ (b : Bool) (q : Int), RIsBelow ms g h = (b, q) ∧ (q = 0 → ∃ own : List Mp, RElementsBelow ms h = (own, 0) ∧ own.length ≤ 300 ∧ decide (g ∈ own) = b ∧ h ∈ own) := by
  by_cases hc : moC ms [g, h] = 0
  · have hm := MonR.of hc
    have clo := hm.clo
    have hg := hm.mem g (by simp)
    have hh := hm.mem h (by simp)
    have hid : idM (ptsL ms) ∈ elsOf ms := id_mem hm.list
    have hN := clo.all h hh
    have iN := clo.all _ hid
    refine ⟨belowB (elsOf ms) g h, 0, by unfold RIsBelow; rw [if_pos hc], fun _ => ⟨(elsOf ms).filter (fun x => belowB (elsOf ms) x h), by unfold RElementsBelow ROf; rw [if_pos (moC_one hc hh)], Nat.le_trans (List.length_filter_le _ _) hm.len, ?_, List.mem_filter.2 ⟨hh, ?_⟩⟩⟩
    · rw [Bool.eq_iff_iff, decide_eq_true_eq, List.mem_filter]
      exact ⟨fun h => h.2, fun h => ⟨hg, h⟩⟩
    · have hi : idemB (idM (ptsL ms)) = true := by unfold idemB; exact decide_eq_true (mulM_id_left iN)
      unfold belowB
      rw [Bool.and_eq_true, List.any_eq_true, List.any_eq_true]
      exact ⟨⟨_, hid, by unfold lB; rw [hi, mulM_id_left hN]; simp⟩, ⟨_, hid, by unfold rB; rw [hi, mulM_id_right hN]; simp⟩⟩
  · exact ⟨false, moC ms [g, h], by unfold RIsBelow; rw [if_neg hc], fun h => absurd h hc⟩
end Go.Proofs.YtilfamenadaboaaGreat
