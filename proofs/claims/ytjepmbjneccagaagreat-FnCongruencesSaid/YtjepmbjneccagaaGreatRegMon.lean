/- The reference's inverses and regular elements. No condition. -/
import Derived.Test.YtjepmbjneccagaaGreatSpecE
import Derived.Test.YtjepmbjneccagaaGreatRegular
namespace Go.Proofs.YtjepmbjneccagaaGreat
open Go.RowKit
theorem regB_inv {l : List Mp} {n : Int} (hc : Clo l n) {f : Mp} (hf : f ∈ l) : regB l f = decide (0 < (l.filter (invB f)).length) := by
  rw [Bool.eq_iff_iff, decide_eq_true_eq, List.length_pos_iff_exists_mem]
  unfold regB
  rw [List.any_eq_true]
  constructor
  · rintro ⟨g, hg, e⟩
    have E : mulM (mulM f g) f = f := by simpa using e
    have fN := hc.all f hf
    have gN := hc.all g hg
    have fgN := mulM_MpN fN gN
    have idem : mulM (mulM f g) (mulM f g) = mulM f g := by rw [← mulM_assoc fgN fN gN, E]
    refine ⟨mulM g (mulM f g), List.mem_filter.2 ⟨hc.mul _ hg _ (hc.mul _ hf _ hg), ?_⟩⟩
    have fh : mulM f (mulM g (mulM f g)) = mulM f g := by rw [← mulM_assoc fN gN fgN, idem]
    unfold invB
    rw [fh, E, mulM_assoc gN fgN fgN, idem]
    simp
  · rintro ⟨g, hg⟩
    obtain ⟨h1, h2⟩ := List.mem_filter.1 hg
    unfold invB at h2
    rw [Bool.and_eq_true] at h2
    exact ⟨g, h1, h2.1⟩
/-! 'IsRegularMonoid', on both sides. -/
noncomputable def RIsRegularMonoid (ms : List Mp) : Bool × Int := if moC ms [] = 0 then ((elsOf ms).all (regB (elsOf ms)), 0) else (false, moC ms [])
theorem see_nil (w : World) : SeeMaps w none [] := fun h => absurd rfl h
end Go.Proofs.YtjepmbjneccagaaGreat
