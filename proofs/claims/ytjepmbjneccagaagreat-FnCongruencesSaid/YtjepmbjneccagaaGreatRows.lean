/-
  No cell of these rows narrows 'for every input' (looked for: loops, veiled, ifaces, maps, wideKeys, modest, calm, conditions, laid).
  DERIVED. THE GIVEN ROWS OF THIS SEAT. 4 by the template 'for every input the law returns true; each argument reads behind the call as it read before'; 0 by the template 'total and deterministic' (their statements: YtjepmbjneccagaaGreatTotals.lean).
  GIVEN WITH THE SEED: the statements are not yours to turn. If you find one false, say at which input.
  Laid BY PROGRAM, IN A SANDBOX (cutbox-rows.mjs): the forced cells as the released guide's own fill.sh prints them over the translation 10ed7a490d0e46ce… (all of the seat's roots in one cut). By AI agents, Wed Nov 11 2026. No macro, syntax, notation, axiom, sorry.
-/
import Derived.Test.YtjepmbjneccagaaGreatChecked
import GoSem.Claim
import GoSem.ClaimJoined
import GoSem.ClaimMapViews
import Derived.JoinedTies
import Derived.KernelRfl
namespace Go.Proofs.YtjepmbjneccagaaGreat
/- THE CELL 'sum', in the pinned program and in every row, IS THE sha256 OF THE DUMP (.gsa) THAT YtjepmbjneccagaaGreatProg.lean LOADS. Nothing in Lean hashes anything: it is a label: what it is worth is what the hold of that sum in a sandbox is worth. -/
noncomputable def Tryz.pinned : Pinned := { name := "ytjepmbjneccagaagreat", sum := "10ed7a490d0e46ce2aa4b622229200d462f93f1536c39d4f60dcc44ce4cd8ecd", checked := Tryz.checked }
namespace Rows
def none {H : Type} : Left H := { results := [], args := [] }

/-- 'laws.FnExactPairCongruences': WHATEVER THE INPUT: true; the input reads as it did. -/
def fnExactPairCongruencesSpec : ChangeSpec := { name := "fnExactPairCongruences", fn := fun _ => fun
  | [d] => { results := [.lit (.bool true)], args := [d] }
  | _ => none }
def fnExactPairCongruencesRow : OpenClaim := { program := "ytjepmbjneccagaagreat", sum := "10ed7a490d0e46ce2aa4b622229200d462f93f1536c39d4f60dcc44ce4cd8ecd", func := "loop.example/g01359/laws.FnExactPairCongruences", spec := "fnExactPairCongruences", unfollowed := true, recurses := true, apart := false }
def FnExactPairCongruencesSaid : Prop := fnExactPairCongruencesRow.holds Tryz.pinned (OpenSpec.ofChange fnExactPairCongruencesSpec)

/-- ITS FALSE NEIGHBOUR: 'it returns false'. Refute it at one input. -/
def fnExactPairCongruencesWrong : ChangeSpec := { name := "fnExactPairCongruences", fn := fun _ => fun
  | [d] => { results := [.lit (.bool false)], args := [d] }
  | _ => none }
def FnExactPairCongruencesWrongFalsely : Prop := fnExactPairCongruencesRow.holds Tryz.pinned (OpenSpec.ofChange fnExactPairCongruencesWrong)

/-- 'laws.FnExactLeastCongruences': WHATEVER THE INPUT: true; the input reads as it did. -/
def fnExactLeastCongruencesSpec : ChangeSpec := { name := "fnExactLeastCongruences", fn := fun _ => fun
  | [d] => { results := [.lit (.bool true)], args := [d] }
  | _ => none }
def fnExactLeastCongruencesRow : OpenClaim := { program := "ytjepmbjneccagaagreat", sum := "10ed7a490d0e46ce2aa4b622229200d462f93f1536c39d4f60dcc44ce4cd8ecd", func := "loop.example/g01359/laws.FnExactLeastCongruences", spec := "fnExactLeastCongruences", unfollowed := true, recurses := true, apart := false }
def FnExactLeastCongruencesSaid : Prop := fnExactLeastCongruencesRow.holds Tryz.pinned (OpenSpec.ofChange fnExactLeastCongruencesSpec)

/-- ITS FALSE NEIGHBOUR: 'it returns false'. Refute it at one input. -/
def fnExactLeastCongruencesWrong : ChangeSpec := { name := "fnExactLeastCongruences", fn := fun _ => fun
  | [d] => { results := [.lit (.bool false)], args := [d] }
  | _ => none }
def FnExactLeastCongruencesWrongFalsely : Prop := fnExactLeastCongruencesRow.holds Tryz.pinned (OpenSpec.ofChange fnExactLeastCongruencesWrong)

/-- 'laws.FnExactAllCongruences': WHATEVER THE INPUT: true; the input reads as it did. -/
def fnExactAllCongruencesSpec : ChangeSpec := { name := "fnExactAllCongruences", fn := fun _ => fun
  | [d] => { results := [.lit (.bool true)], args := [d] }
  | _ => none }
def fnExactAllCongruencesRow : OpenClaim := { program := "ytjepmbjneccagaagreat", sum := "10ed7a490d0e46ce2aa4b622229200d462f93f1536c39d4f60dcc44ce4cd8ecd", func := "loop.example/g01359/laws.FnExactAllCongruences", spec := "fnExactAllCongruences", unfollowed := true, recurses := true, apart := false }
def FnExactAllCongruencesSaid : Prop := fnExactAllCongruencesRow.holds Tryz.pinned (OpenSpec.ofChange fnExactAllCongruencesSpec)

/-- ITS FALSE NEIGHBOUR: 'it returns false'. Refute it at one input. -/
def fnExactAllCongruencesWrong : ChangeSpec := { name := "fnExactAllCongruences", fn := fun _ => fun
  | [d] => { results := [.lit (.bool false)], args := [d] }
  | _ => none }
def FnExactAllCongruencesWrongFalsely : Prop := fnExactAllCongruencesRow.holds Tryz.pinned (OpenSpec.ofChange fnExactAllCongruencesWrong)

/-- 'laws.FnCongruences': WHATEVER THE INPUT: true; the input reads as it did. -/
def fnCongruencesSpec : ChangeSpec := { name := "fnCongruences", fn := fun _ => fun
  | [d] => { results := [.lit (.bool true)], args := [d] }
  | _ => none }
def fnCongruencesRow : OpenClaim := { program := "ytjepmbjneccagaagreat", sum := "10ed7a490d0e46ce2aa4b622229200d462f93f1536c39d4f60dcc44ce4cd8ecd", func := "loop.example/g01359/laws.FnCongruences", spec := "fnCongruences", unfollowed := true, recurses := true, apart := false }
def FnCongruencesSaid : Prop := fnCongruencesRow.holds Tryz.pinned (OpenSpec.ofChange fnCongruencesSpec)

/-- ITS FALSE NEIGHBOUR: 'it returns false'. Refute it at one input. -/
def fnCongruencesWrong : ChangeSpec := { name := "fnCongruences", fn := fun _ => fun
  | [d] => { results := [.lit (.bool false)], args := [d] }
  | _ => none }
def FnCongruencesWrongFalsely : Prop := fnCongruencesRow.holds Tryz.pinned (OpenSpec.ofChange fnCongruencesWrong)

/- THE SECOND FORM. 'bulk': how many values and letters a reading holds, each counted each time it is reached (what is shared counts as often as it is met; a slice's spare places count too). A statement '..UptoSaid' is the law's where the arguments, and the package variables that the reading takes, are together of bulk at most 1048576: NARROWER than '..Said'. Prove '..Said' where nothing that the law and all that it calls make is longer than what came in: it says more and counts as full. Else prove '..UptoSaid'. A law counts once. -/
mutual
def uptoBulk {H : Type} : DataW H → Nat
  | .lit (.string bytes) => bytes.length + 1
  | .lit _ => 1
  | .nil => 1
  | .ptr d => uptoBulk d + 1
  | .slice elems spare => uptoBulkAll elems + uptoBulkAll spare + 1
  | .agg parts => uptoBulkAll parts + 1
  | .iface _ d => uptoBulk d + 1
  | .map entries => uptoBulkEntries entries + 1
  | .held _ => 1
def uptoBulkAll {H : Type} : List (DataW H) → Nat
  | [] => 0
  | d :: r => uptoBulk d + uptoBulkAll r
def uptoBulkEntries {H : Type} : List (Lit × DataW H) → Nat
  | [] => 0
  | x :: r => uptoBulkEntry x + uptoBulkEntries r
def uptoBulkEntry {H : Type} : Lit × DataW H → Nat
  | (.string bytes, d) => bytes.length + uptoBulk d + 1
  | (_, d) => uptoBulk d + 1
 end
def uptoSmall : (H : Type) → List (DataW H) → Bool := fun _ ds => decide (uptoBulkAll ds ≤ 1048576)
def OpenSpec.upto (s : _root_.Go.ChangeSpec) : _root_.Go.OpenSpec := { _root_.Go.OpenSpec.ofChange s with cond := some uptoSmall }

/-- 'laws.FnExactPairCongruences', WHERE WHAT IT READS IS OF BULK AT MOST 1048576: true; the input reads as it did. -/
def fnExactPairCongruencesUptoRow : OpenClaim := { program := "ytjepmbjneccagaagreat", sum := "10ed7a490d0e46ce2aa4b622229200d462f93f1536c39d4f60dcc44ce4cd8ecd", func := "loop.example/g01359/laws.FnExactPairCongruences", spec := "fnExactPairCongruences", unfollowed := true, recurses := true, apart := false, narrowed := true }
def FnExactPairCongruencesUptoSaid : Prop := fnExactPairCongruencesUptoRow.holds Tryz.pinned (OpenSpec.upto fnExactPairCongruencesSpec)

/-- 'laws.FnExactLeastCongruences', WHERE WHAT IT READS IS OF BULK AT MOST 1048576: true; the input reads as it did. -/
def fnExactLeastCongruencesUptoRow : OpenClaim := { program := "ytjepmbjneccagaagreat", sum := "10ed7a490d0e46ce2aa4b622229200d462f93f1536c39d4f60dcc44ce4cd8ecd", func := "loop.example/g01359/laws.FnExactLeastCongruences", spec := "fnExactLeastCongruences", unfollowed := true, recurses := true, apart := false, narrowed := true }
def FnExactLeastCongruencesUptoSaid : Prop := fnExactLeastCongruencesUptoRow.holds Tryz.pinned (OpenSpec.upto fnExactLeastCongruencesSpec)

/-- 'laws.FnExactAllCongruences', WHERE WHAT IT READS IS OF BULK AT MOST 1048576: true; the input reads as it did. -/
def fnExactAllCongruencesUptoRow : OpenClaim := { program := "ytjepmbjneccagaagreat", sum := "10ed7a490d0e46ce2aa4b622229200d462f93f1536c39d4f60dcc44ce4cd8ecd", func := "loop.example/g01359/laws.FnExactAllCongruences", spec := "fnExactAllCongruences", unfollowed := true, recurses := true, apart := false, narrowed := true }
def FnExactAllCongruencesUptoSaid : Prop := fnExactAllCongruencesUptoRow.holds Tryz.pinned (OpenSpec.upto fnExactAllCongruencesSpec)

/-- 'laws.FnCongruences', WHERE WHAT IT READS IS OF BULK AT MOST 1048576: true; the input reads as it did. -/
def fnCongruencesUptoRow : OpenClaim := { program := "ytjepmbjneccagaagreat", sum := "10ed7a490d0e46ce2aa4b622229200d462f93f1536c39d4f60dcc44ce4cd8ecd", func := "loop.example/g01359/laws.FnCongruences", spec := "fnCongruences", unfollowed := true, recurses := true, apart := false, narrowed := true }
def FnCongruencesUptoSaid : Prop := fnCongruencesUptoRow.holds Tryz.pinned (OpenSpec.upto fnCongruencesSpec)

end Rows
end Go.Proofs.YtjepmbjneccagaaGreat
