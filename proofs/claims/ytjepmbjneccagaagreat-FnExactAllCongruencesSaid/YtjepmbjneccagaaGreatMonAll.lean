/- Whether all, or some, elements of a monoid are such, and which are. No condition. -/
import Derived.Test.YtjepmbjneccagaaGreatMonOps
import Derived.Test.YtjepmbjneccagaaGreatPushM
namespace Go.Proofs.YtjepmbjneccagaaGreat
set_option linter.unusedSimpArgs false
set_option linter.unusedVariables false
set_option linter.unusedSectionVars false
open Go.RowKit
/-- what a predicate of elements tells: 'pre' ahead of the number, 'lb' behind it -/
def PredM (g : Nat) (pre lb : Array Value) (l : List Mp) (P : Mp → Bool) (w : World) : Prop :=
  ∀ (W : World) (i : Nat) (f : Mp), Below w.heap.size w W → l[i]? = some f → Calls Tryz.prog g (pre ++ #[.int .i64 (i : Int)] ++ lb) W fun e w' => e = .returned (.bool (P f)) ∧ Below W.heap.size W w'
theorem PredM.below {g : Nat} {pre lb : Array Value} {l : List Mp} {P : Mp → Bool} {w w1 : World} (h : PredM g pre lb l P w) (hb : Below w.heap.size w w1) : PredM g pre lb l P w1 := fun W i f hW hi => h W i f (btrans hb hW) hi
theorem MonAt.cellsOf {w : World} {M : Nat} {l : List Mp} {n : Int} (h : MonAt w M l n) : ∃ A c, w.cell? ⟨M, 0, none⟩ = some (.slice A l.length c) ∧ SeeMaps w A l := by
  obtain ⟨A, c, v1, pl, box, see, _⟩ := h
  exact ⟨A, c, box.c0, see⟩
end Go.Proofs.YtjepmbjneccagaaGreat
