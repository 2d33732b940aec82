/- Classes of points of an acceptor, with no program in sight. No condition. -/
import Derived.Test.YtbodaefdaagelaaFirstA
import Derived.Test.YtbodaefdaagelaaMany
import Derived.Test.YtbodaefdaagelaaFinP
namespace Go.Proofs.Ytbodaefdaagelaa
set_option linter.unusedSimpArgs false
set_option linter.unusedVariables false
set_option linter.unusedSectionVars false
open Go.RowKit
/-- no word tells two points apart -/
noncomputable def eqvB (ms : List Mp) (ls : List Int) (p q : Int) : Bool := decide ((fw (stP ms ms) ms.length (p, q) (isP ls ls)).2 = 4)
theorem run_pair (ms : List Mp) : ∀ (u : List Int) (p q : Int), run (stP ms ms) (p, q) u = (run (stS ms) p u, run (stS ms) q u)
  | [], p, q => rfl
  | k :: u, p, q => by
    show run (stP ms ms) (stP ms ms k.toNat (p, q)) u = (run (stS ms) (stS ms k.toNat p) u, run (stS ms) (stS ms k.toNat q) u)
    rw [← run_pair ms u]
    rfl
theorem eqv_iff {ms : List Mp} {ls : List Int} {n p q : Int} (hr : RightL ms n) (p0 : 0 ≤ p) (p1 : p < n) (q0 : 0 ≤ q) (q1 : q < n) : eqvB ms ls p q = true ↔ ∀ u, InL ms.length u → (run (stS ms) p u ∈ ls ↔ run (stS ms) q u ∈ ls) := by
  unfold eqvB
  rw [decide_eq_true_eq]
  rcases fw_least (univP hr hr rfl p0 p1 q0 q1) hr.six (isP ls ls) with ⟨w, e, hw⟩ | ⟨e, hall⟩
  · rw [e]
    constructor
    · intro h; cases h
    · intro h
      have h1 := hw.2.1
      have h2 := h w hw.1
      simp only [run_pair] at h1
      unfold isP at h1
      simp only [bne_iff_ne, ne_eq, decide_eq_decide] at h1
      exact absurd h2 h1
  · rw [e]
    refine ⟨fun _ u hu => ?_, fun _ => rfl⟩
    have h1 := hall u hu
    rw [run_pair] at h1
    unfold isP at h1
    simpa using h1
/-- the equivalence on places of the order -/
noncomputable def eqS (ms : List Mp) (ls : List Int) (order : List Int) (k i : Nat) : Bool := eqvB ms ls (cls order k) (cls order i)
noncomputable def clsL (ms : List Mp) (ls : List Int) (order : List Int) : List Int := numL (eqS ms ls order) order.length
section
variable {ms : List Mp} {ls order : List Int} {n : Int}
theorem eqS_rel (hr : RightL ms n) (ho : ∀ i, i < order.length → 0 ≤ cls order i ∧ cls order i < n) : ∀ i k, i < order.length → k < order.length → (cls (clsL ms ls order) i = cls (clsL ms ls order) k ↔ eqS ms ls order i k = true) := by
  have iff := fun i k (hi : i < order.length) (hk : k < order.length) => eqv_iff (ls := ls) hr (ho i hi).1 (ho i hi).2 (ho k hk).1 (ho k hk).2
  refine numL_rel (fun i hi => (iff i i hi hi).2 fun u _ => Iff.rfl) (fun i k hi hk h => (iff k i hk hi).2 fun u hu => ((iff i k hi hk).1 h u hu).symm) (fun i j k hi hj hk h1 h2 => (iff i k hi hk).2 fun u hu => ((iff i j hi hj).1 h1 u hu).trans ((iff j k hj hk).1 h2 u hu))
theorem clsL_can : IsCan (clsL ms ls order) order.length := numL_can _ _
end
end Go.Proofs.Ytbodaefdaagelaa
