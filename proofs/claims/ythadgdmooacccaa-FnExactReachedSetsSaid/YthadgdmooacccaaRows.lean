/-
  No cell of these rows narrows 'for every input' (looked for: loops, veiled, ifaces, maps, wideKeys, modest, calm, conditions, laid).
  DERIVED. THE GIVEN ROWS OF THIS SEAT. 12 by the template 'for every input the law returns true; each argument reads behind the call as it read before'; 0 by the template 'total and deterministic' (their statements: YthadgdmooacccaaTotals.lean).
  GIVEN WITH THE SEED: the statements are not yours to turn. If you find one false, say at which input.
  Laid BY PROGRAM, IN A SANDBOX (cutbox-rows.mjs): the forced cells as the released guide's own fill.sh prints them over the translation 8cb16eb4c4522210… (all of the seat's roots in one cut). By AI agents, Wed Nov 11 2026. No macro, syntax, notation, axiom, sorry.
-/
import Derived.Test.YthadgdmooacccaaChecked
import GoSem.Claim
import GoSem.ClaimJoined
import GoSem.ClaimMapViews
import Derived.JoinedTies
import Derived.KernelRfl
namespace Go.Proofs.Ythadgdmooacccaa
/- THE CELL 'sum', in the pinned program and in every row, IS THE sha256 OF THE DUMP (.gsa) THAT YthadgdmooacccaaProg.lean LOADS. Nothing in Lean hashes anything: it is a label: what it is worth is what the hold of that sum in a sandbox is worth. -/
noncomputable def Try.pinned : Pinned := { name := "ythadgdmooacccaa", sum := "8cb16eb4c45222107c8d5cafb03797fb65ea4f846fe2c442c03472a402eb9b22", checked := Try.checked }
namespace Rows
def none {H : Type} : Left H := { results := [], args := [] }

/-- 'laws.FnExactLeadPoint': WHATEVER THE INPUT: true; the input reads as it did. -/
def fnExactLeadPointSpec : ChangeSpec := { name := "fnExactLeadPoint", fn := fun _ => fun
  | [d1, d2, d3] => { results := [.lit (.bool true)], args := [d1, d2, d3] }
  | _ => none }
def fnExactLeadPointRow : OpenClaim := { program := "ythadgdmooacccaa", sum := "8cb16eb4c45222107c8d5cafb03797fb65ea4f846fe2c442c03472a402eb9b22", func := "loop.example/g01359/laws.FnExactLeadPoint", spec := "fnExactLeadPoint", unfollowed := true, recurses := true, apart := false }
def FnExactLeadPointSaid : Prop := fnExactLeadPointRow.holds Try.pinned (OpenSpec.ofChange fnExactLeadPointSpec)

/-- ITS FALSE NEIGHBOUR: 'it returns false'. Refute it at one input. -/
def fnExactLeadPointWrong : ChangeSpec := { name := "fnExactLeadPoint", fn := fun _ => fun
  | [d1, d2, d3] => { results := [.lit (.bool false)], args := [d1, d2, d3] }
  | _ => none }
def FnExactLeadPointWrongFalsely : Prop := fnExactLeadPointRow.holds Try.pinned (OpenSpec.ofChange fnExactLeadPointWrong)

/-- 'laws.FnExactRankOfWord': WHATEVER THE INPUT: true; the input reads as it did. -/
def fnExactRankOfWordSpec : ChangeSpec := { name := "fnExactRankOfWord", fn := fun _ => fun
  | [d1, d2] => { results := [.lit (.bool true)], args := [d1, d2] }
  | _ => none }
def fnExactRankOfWordRow : OpenClaim := { program := "ythadgdmooacccaa", sum := "8cb16eb4c45222107c8d5cafb03797fb65ea4f846fe2c442c03472a402eb9b22", func := "loop.example/g01359/laws.FnExactRankOfWord", spec := "fnExactRankOfWord", unfollowed := true, recurses := true, apart := false }
def FnExactRankOfWordSaid : Prop := fnExactRankOfWordRow.holds Try.pinned (OpenSpec.ofChange fnExactRankOfWordSpec)

/-- ITS FALSE NEIGHBOUR: 'it returns false'. Refute it at one input. -/
def fnExactRankOfWordWrong : ChangeSpec := { name := "fnExactRankOfWord", fn := fun _ => fun
  | [d1, d2] => { results := [.lit (.bool false)], args := [d1, d2] }
  | _ => none }
def FnExactRankOfWordWrongFalsely : Prop := fnExactRankOfWordRow.holds Try.pinned (OpenSpec.ofChange fnExactRankOfWordWrong)

/-- 'laws.FnExactImageAlong': WHATEVER THE INPUT: true; the input reads as it did. -/
def fnExactImageAlongSpec : ChangeSpec := { name := "fnExactImageAlong", fn := fun _ => fun
  | [d1, d2, d3] => { results := [.lit (.bool true)], args := [d1, d2, d3] }
  | _ => none }
def fnExactImageAlongRow : OpenClaim := { program := "ythadgdmooacccaa", sum := "8cb16eb4c45222107c8d5cafb03797fb65ea4f846fe2c442c03472a402eb9b22", func := "loop.example/g01359/laws.FnExactImageAlong", spec := "fnExactImageAlong", unfollowed := true, recurses := true, apart := false }
def FnExactImageAlongSaid : Prop := fnExactImageAlongRow.holds Try.pinned (OpenSpec.ofChange fnExactImageAlongSpec)

/-- ITS FALSE NEIGHBOUR: 'it returns false'. Refute it at one input. -/
def fnExactImageAlongWrong : ChangeSpec := { name := "fnExactImageAlong", fn := fun _ => fun
  | [d1, d2, d3] => { results := [.lit (.bool false)], args := [d1, d2, d3] }
  | _ => none }
def FnExactImageAlongWrongFalsely : Prop := fnExactImageAlongRow.holds Try.pinned (OpenSpec.ofChange fnExactImageAlongWrong)

/-- 'laws.FnExactFirstReset': WHATEVER THE INPUT: true; the input reads as it did. -/
def fnExactFirstResetSpec : ChangeSpec := { name := "fnExactFirstReset", fn := fun _ => fun
  | [d] => { results := [.lit (.bool true)], args := [d] }
  | _ => none }
def fnExactFirstResetRow : OpenClaim := { program := "ythadgdmooacccaa", sum := "8cb16eb4c45222107c8d5cafb03797fb65ea4f846fe2c442c03472a402eb9b22", func := "loop.example/g01359/laws.FnExactFirstReset", spec := "fnExactFirstReset", unfollowed := true, recurses := true, apart := false }
def FnExactFirstResetSaid : Prop := fnExactFirstResetRow.holds Try.pinned (OpenSpec.ofChange fnExactFirstResetSpec)

/-- ITS FALSE NEIGHBOUR: 'it returns false'. Refute it at one input. -/
def fnExactFirstResetWrong : ChangeSpec := { name := "fnExactFirstReset", fn := fun _ => fun
  | [d] => { results := [.lit (.bool false)], args := [d] }
  | _ => none }
def FnExactFirstResetWrongFalsely : Prop := fnExactFirstResetRow.holds Try.pinned (OpenSpec.ofChange fnExactFirstResetWrong)

/-- 'laws.FnExactFirstToRank': WHATEVER THE INPUT: true; the input reads as it did. -/
def fnExactFirstToRankSpec : ChangeSpec := { name := "fnExactFirstToRank", fn := fun _ => fun
  | [d1, d2] => { results := [.lit (.bool true)], args := [d1, d2] }
  | _ => none }
def fnExactFirstToRankRow : OpenClaim := { program := "ythadgdmooacccaa", sum := "8cb16eb4c45222107c8d5cafb03797fb65ea4f846fe2c442c03472a402eb9b22", func := "loop.example/g01359/laws.FnExactFirstToRank", spec := "fnExactFirstToRank", unfollowed := true, recurses := true, apart := false }
def FnExactFirstToRankSaid : Prop := fnExactFirstToRankRow.holds Try.pinned (OpenSpec.ofChange fnExactFirstToRankSpec)

/-- ITS FALSE NEIGHBOUR: 'it returns false'. Refute it at one input. -/
def fnExactFirstToRankWrong : ChangeSpec := { name := "fnExactFirstToRank", fn := fun _ => fun
  | [d1, d2] => { results := [.lit (.bool false)], args := [d1, d2] }
  | _ => none }
def FnExactFirstToRankWrongFalsely : Prop := fnExactFirstToRankRow.holds Try.pinned (OpenSpec.ofChange fnExactFirstToRankWrong)

/-- 'laws.FnExactRankOfList': WHATEVER THE INPUT: true; the input reads as it did. -/
def fnExactRankOfListSpec : ChangeSpec := { name := "fnExactRankOfList", fn := fun _ => fun
  | [d] => { results := [.lit (.bool true)], args := [d] }
  | _ => none }
def fnExactRankOfListRow : OpenClaim := { program := "ythadgdmooacccaa", sum := "8cb16eb4c45222107c8d5cafb03797fb65ea4f846fe2c442c03472a402eb9b22", func := "loop.example/g01359/laws.FnExactRankOfList", spec := "fnExactRankOfList", unfollowed := true, recurses := true, apart := false }
def FnExactRankOfListSaid : Prop := fnExactRankOfListRow.holds Try.pinned (OpenSpec.ofChange fnExactRankOfListSpec)

/-- ITS FALSE NEIGHBOUR: 'it returns false'. Refute it at one input. -/
def fnExactRankOfListWrong : ChangeSpec := { name := "fnExactRankOfList", fn := fun _ => fun
  | [d] => { results := [.lit (.bool false)], args := [d] }
  | _ => none }
def FnExactRankOfListWrongFalsely : Prop := fnExactRankOfListRow.holds Try.pinned (OpenSpec.ofChange fnExactRankOfListWrong)

/-- 'laws.FnExactFirstMeeting': WHATEVER THE INPUT: true; the input reads as it did. -/
def fnExactFirstMeetingSpec : ChangeSpec := { name := "fnExactFirstMeeting", fn := fun _ => fun
  | [d1, d2, d3] => { results := [.lit (.bool true)], args := [d1, d2, d3] }
  | _ => none }
def fnExactFirstMeetingRow : OpenClaim := { program := "ythadgdmooacccaa", sum := "8cb16eb4c45222107c8d5cafb03797fb65ea4f846fe2c442c03472a402eb9b22", func := "loop.example/g01359/laws.FnExactFirstMeeting", spec := "fnExactFirstMeeting", unfollowed := true, recurses := true, apart := false }
def FnExactFirstMeetingSaid : Prop := fnExactFirstMeetingRow.holds Try.pinned (OpenSpec.ofChange fnExactFirstMeetingSpec)

/-- ITS FALSE NEIGHBOUR: 'it returns false'. Refute it at one input. -/
def fnExactFirstMeetingWrong : ChangeSpec := { name := "fnExactFirstMeeting", fn := fun _ => fun
  | [d1, d2, d3] => { results := [.lit (.bool false)], args := [d1, d2, d3] }
  | _ => none }
def FnExactFirstMeetingWrongFalsely : Prop := fnExactFirstMeetingRow.holds Try.pinned (OpenSpec.ofChange fnExactFirstMeetingWrong)

/-- 'laws.FnExactMeetingPairs': WHATEVER THE INPUT: true; the input reads as it did. -/
def fnExactMeetingPairsSpec : ChangeSpec := { name := "fnExactMeetingPairs", fn := fun _ => fun
  | [d] => { results := [.lit (.bool true)], args := [d] }
  | _ => none }
def fnExactMeetingPairsRow : OpenClaim := { program := "ythadgdmooacccaa", sum := "8cb16eb4c45222107c8d5cafb03797fb65ea4f846fe2c442c03472a402eb9b22", func := "loop.example/g01359/laws.FnExactMeetingPairs", spec := "fnExactMeetingPairs", unfollowed := true, recurses := true, apart := false }
def FnExactMeetingPairsSaid : Prop := fnExactMeetingPairsRow.holds Try.pinned (OpenSpec.ofChange fnExactMeetingPairsSpec)

/-- ITS FALSE NEIGHBOUR: 'it returns false'. Refute it at one input. -/
def fnExactMeetingPairsWrong : ChangeSpec := { name := "fnExactMeetingPairs", fn := fun _ => fun
  | [d] => { results := [.lit (.bool false)], args := [d] }
  | _ => none }
def FnExactMeetingPairsWrongFalsely : Prop := fnExactMeetingPairsRow.holds Try.pinned (OpenSpec.ofChange fnExactMeetingPairsWrong)

/-- 'laws.FnExactReachedSets': WHATEVER THE INPUT: true; the input reads as it did. -/
def fnExactReachedSetsSpec : ChangeSpec := { name := "fnExactReachedSets", fn := fun _ => fun
  | [d] => { results := [.lit (.bool true)], args := [d] }
  | _ => none }
def fnExactReachedSetsRow : OpenClaim := { program := "ythadgdmooacccaa", sum := "8cb16eb4c45222107c8d5cafb03797fb65ea4f846fe2c442c03472a402eb9b22", func := "loop.example/g01359/laws.FnExactReachedSets", spec := "fnExactReachedSets", unfollowed := true, recurses := true, apart := false }
def FnExactReachedSetsSaid : Prop := fnExactReachedSetsRow.holds Try.pinned (OpenSpec.ofChange fnExactReachedSetsSpec)

/-- ITS FALSE NEIGHBOUR: 'it returns false'. Refute it at one input. -/
def fnExactReachedSetsWrong : ChangeSpec := { name := "fnExactReachedSets", fn := fun _ => fun
  | [d] => { results := [.lit (.bool false)], args := [d] }
  | _ => none }
def FnExactReachedSetsWrongFalsely : Prop := fnExactReachedSetsRow.holds Try.pinned (OpenSpec.ofChange fnExactReachedSetsWrong)

/-- 'laws.FnExactFirstReaching': WHATEVER THE INPUT: true; the input reads as it did. -/
def fnExactFirstReachingSpec : ChangeSpec := { name := "fnExactFirstReaching", fn := fun _ => fun
  | [d1, d2] => { results := [.lit (.bool true)], args := [d1, d2] }
  | _ => none }
def fnExactFirstReachingRow : OpenClaim := { program := "ythadgdmooacccaa", sum := "8cb16eb4c45222107c8d5cafb03797fb65ea4f846fe2c442c03472a402eb9b22", func := "loop.example/g01359/laws.FnExactFirstReaching", spec := "fnExactFirstReaching", unfollowed := true, recurses := true, apart := false }
def FnExactFirstReachingSaid : Prop := fnExactFirstReachingRow.holds Try.pinned (OpenSpec.ofChange fnExactFirstReachingSpec)

/-- ITS FALSE NEIGHBOUR: 'it returns false'. Refute it at one input. -/
def fnExactFirstReachingWrong : ChangeSpec := { name := "fnExactFirstReaching", fn := fun _ => fun
  | [d1, d2] => { results := [.lit (.bool false)], args := [d1, d2] }
  | _ => none }
def FnExactFirstReachingWrongFalsely : Prop := fnExactFirstReachingRow.holds Try.pinned (OpenSpec.ofChange fnExactFirstReachingWrong)

/-- 'laws.FnExactFixedByWord': WHATEVER THE INPUT: true; the input reads as it did. -/
def fnExactFixedByWordSpec : ChangeSpec := { name := "fnExactFixedByWord", fn := fun _ => fun
  | [d1, d2] => { results := [.lit (.bool true)], args := [d1, d2] }
  | _ => none }
def fnExactFixedByWordRow : OpenClaim := { program := "ythadgdmooacccaa", sum := "8cb16eb4c45222107c8d5cafb03797fb65ea4f846fe2c442c03472a402eb9b22", func := "loop.example/g01359/laws.FnExactFixedByWord", spec := "fnExactFixedByWord", unfollowed := true, recurses := true, apart := false }
def FnExactFixedByWordSaid : Prop := fnExactFixedByWordRow.holds Try.pinned (OpenSpec.ofChange fnExactFixedByWordSpec)

/-- ITS FALSE NEIGHBOUR: 'it returns false'. Refute it at one input. -/
def fnExactFixedByWordWrong : ChangeSpec := { name := "fnExactFixedByWord", fn := fun _ => fun
  | [d1, d2] => { results := [.lit (.bool false)], args := [d1, d2] }
  | _ => none }
def FnExactFixedByWordWrongFalsely : Prop := fnExactFixedByWordRow.holds Try.pinned (OpenSpec.ofChange fnExactFixedByWordWrong)

/-- 'laws.FnTop': WHATEVER THE INPUT: true; the input reads as it did. -/
def fnTopSpec : ChangeSpec := { name := "fnTop", fn := fun _ => fun
  | [d] => { results := [.lit (.bool true)], args := [d] }
  | _ => none }
def fnTopRow : OpenClaim := { program := "ythadgdmooacccaa", sum := "8cb16eb4c45222107c8d5cafb03797fb65ea4f846fe2c442c03472a402eb9b22", func := "loop.example/g01359/laws.FnTop", spec := "fnTop", unfollowed := true, recurses := true, apart := false }
def FnTopSaid : Prop := fnTopRow.holds Try.pinned (OpenSpec.ofChange fnTopSpec)

/-- ITS FALSE NEIGHBOUR: 'it returns false'. Refute it at one input. -/
def fnTopWrong : ChangeSpec := { name := "fnTop", fn := fun _ => fun
  | [d] => { results := [.lit (.bool false)], args := [d] }
  | _ => none }
def FnTopWrongFalsely : Prop := fnTopRow.holds Try.pinned (OpenSpec.ofChange fnTopWrong)

/- THE SECOND FORM. 'bulk': how many values and letters a reading holds, each counted each time it is reached (what is shared counts as often as it is met; a slice's spare places count too). A statement '..UptoSaid' is the law's where the arguments, and the package variables that the reading takes, are together of bulk at most 1048576: NARROWER than '..Said'. Prove '..Said' where nothing that the law and all that it calls make is longer than what came in: it says more and counts as full. Else prove '..UptoSaid'. A law counts once. -/
mutual
def uptoBulk {H : Type} : DataW H → Nat
  | .lit (.string bytes) => bytes.length + 1
  | .lit _ => 1
  | .nil => 1
  | .ptr d => uptoBulk d + 1
  | .slice elems spare => uptoBulkAll elems + uptoBulkAll spare + 1
  | .agg parts => uptoBulkAll parts + 1
  | .iface _ d => uptoBulk d + 1
  | .map entries => uptoBulkEntries entries + 1
  | .held _ => 1
def uptoBulkAll {H : Type} : List (DataW H) → Nat
  | [] => 0
  | d :: r => uptoBulk d + uptoBulkAll r
def uptoBulkEntries {H : Type} : List (Lit × DataW H) → Nat
  | [] => 0
  | x :: r => uptoBulkEntry x + uptoBulkEntries r
def uptoBulkEntry {H : Type} : Lit × DataW H → Nat
  | (.string bytes, d) => bytes.length + uptoBulk d + 1
  | (_, d) => uptoBulk d + 1
 end
def uptoSmall : (H : Type) → List (DataW H) → Bool := fun _ ds => decide (uptoBulkAll ds ≤ 1048576)
def OpenSpec.upto (s : _root_.Go.ChangeSpec) : _root_.Go.OpenSpec := { _root_.Go.OpenSpec.ofChange s with cond := some uptoSmall }

/-- 'laws.FnExactLeadPoint', WHERE WHAT IT READS IS OF BULK AT MOST 1048576: true; the input reads as it did. -/
def fnExactLeadPointUptoRow : OpenClaim := { program := "ythadgdmooacccaa", sum := "8cb16eb4c45222107c8d5cafb03797fb65ea4f846fe2c442c03472a402eb9b22", func := "loop.example/g01359/laws.FnExactLeadPoint", spec := "fnExactLeadPoint", unfollowed := true, recurses := true, apart := false, narrowed := true }
def FnExactLeadPointUptoSaid : Prop := fnExactLeadPointUptoRow.holds Try.pinned (OpenSpec.upto fnExactLeadPointSpec)

/-- 'laws.FnExactRankOfWord', WHERE WHAT IT READS IS OF BULK AT MOST 1048576: true; the input reads as it did. -/
def fnExactRankOfWordUptoRow : OpenClaim := { program := "ythadgdmooacccaa", sum := "8cb16eb4c45222107c8d5cafb03797fb65ea4f846fe2c442c03472a402eb9b22", func := "loop.example/g01359/laws.FnExactRankOfWord", spec := "fnExactRankOfWord", unfollowed := true, recurses := true, apart := false, narrowed := true }
def FnExactRankOfWordUptoSaid : Prop := fnExactRankOfWordUptoRow.holds Try.pinned (OpenSpec.upto fnExactRankOfWordSpec)

/-- 'laws.FnExactImageAlong', WHERE WHAT IT READS IS OF BULK AT MOST 1048576: true; the input reads as it did. -/
def fnExactImageAlongUptoRow : OpenClaim := { program := "ythadgdmooacccaa", sum := "8cb16eb4c45222107c8d5cafb03797fb65ea4f846fe2c442c03472a402eb9b22", func := "loop.example/g01359/laws.FnExactImageAlong", spec := "fnExactImageAlong", unfollowed := true, recurses := true, apart := false, narrowed := true }
def FnExactImageAlongUptoSaid : Prop := fnExactImageAlongUptoRow.holds Try.pinned (OpenSpec.upto fnExactImageAlongSpec)

/-- 'laws.FnExactFirstReset', WHERE WHAT IT READS IS OF BULK AT MOST 1048576: true; the input reads as it did. -/
def fnExactFirstResetUptoRow : OpenClaim := { program := "ythadgdmooacccaa", sum := "8cb16eb4c45222107c8d5cafb03797fb65ea4f846fe2c442c03472a402eb9b22", func := "loop.example/g01359/laws.FnExactFirstReset", spec := "fnExactFirstReset", unfollowed := true, recurses := true, apart := false, narrowed := true }
def FnExactFirstResetUptoSaid : Prop := fnExactFirstResetUptoRow.holds Try.pinned (OpenSpec.upto fnExactFirstResetSpec)

/-- 'laws.FnExactFirstToRank', WHERE WHAT IT READS IS OF BULK AT MOST 1048576: true; the input reads as it did. -/
def fnExactFirstToRankUptoRow : OpenClaim := { program := "ythadgdmooacccaa", sum := "8cb16eb4c45222107c8d5cafb03797fb65ea4f846fe2c442c03472a402eb9b22", func := "loop.example/g01359/laws.FnExactFirstToRank", spec := "fnExactFirstToRank", unfollowed := true, recurses := true, apart := false, narrowed := true }
def FnExactFirstToRankUptoSaid : Prop := fnExactFirstToRankUptoRow.holds Try.pinned (OpenSpec.upto fnExactFirstToRankSpec)

/-- 'laws.FnExactRankOfList', WHERE WHAT IT READS IS OF BULK AT MOST 1048576: true; the input reads as it did. -/
def fnExactRankOfListUptoRow : OpenClaim := { program := "ythadgdmooacccaa", sum := "8cb16eb4c45222107c8d5cafb03797fb65ea4f846fe2c442c03472a402eb9b22", func := "loop.example/g01359/laws.FnExactRankOfList", spec := "fnExactRankOfList", unfollowed := true, recurses := true, apart := false, narrowed := true }
def FnExactRankOfListUptoSaid : Prop := fnExactRankOfListUptoRow.holds Try.pinned (OpenSpec.upto fnExactRankOfListSpec)

/-- 'laws.FnExactFirstMeeting', WHERE WHAT IT READS IS OF BULK AT MOST 1048576: true; the input reads as it did. -/
def fnExactFirstMeetingUptoRow : OpenClaim := { program := "ythadgdmooacccaa", sum := "8cb16eb4c45222107c8d5cafb03797fb65ea4f846fe2c442c03472a402eb9b22", func := "loop.example/g01359/laws.FnExactFirstMeeting", spec := "fnExactFirstMeeting", unfollowed := true, recurses := true, apart := false, narrowed := true }
def FnExactFirstMeetingUptoSaid : Prop := fnExactFirstMeetingUptoRow.holds Try.pinned (OpenSpec.upto fnExactFirstMeetingSpec)

/-- 'laws.FnExactMeetingPairs', WHERE WHAT IT READS IS OF BULK AT MOST 1048576: true; the input reads as it did. -/
def fnExactMeetingPairsUptoRow : OpenClaim := { program := "ythadgdmooacccaa", sum := "8cb16eb4c45222107c8d5cafb03797fb65ea4f846fe2c442c03472a402eb9b22", func := "loop.example/g01359/laws.FnExactMeetingPairs", spec := "fnExactMeetingPairs", unfollowed := true, recurses := true, apart := false, narrowed := true }
def FnExactMeetingPairsUptoSaid : Prop := fnExactMeetingPairsUptoRow.holds Try.pinned (OpenSpec.upto fnExactMeetingPairsSpec)

/-- 'laws.FnExactReachedSets', WHERE WHAT IT READS IS OF BULK AT MOST 1048576: true; the input reads as it did. -/
def fnExactReachedSetsUptoRow : OpenClaim := { program := "ythadgdmooacccaa", sum := "8cb16eb4c45222107c8d5cafb03797fb65ea4f846fe2c442c03472a402eb9b22", func := "loop.example/g01359/laws.FnExactReachedSets", spec := "fnExactReachedSets", unfollowed := true, recurses := true, apart := false, narrowed := true }
def FnExactReachedSetsUptoSaid : Prop := fnExactReachedSetsUptoRow.holds Try.pinned (OpenSpec.upto fnExactReachedSetsSpec)

/-- 'laws.FnExactFirstReaching', WHERE WHAT IT READS IS OF BULK AT MOST 1048576: true; the input reads as it did. -/
def fnExactFirstReachingUptoRow : OpenClaim := { program := "ythadgdmooacccaa", sum := "8cb16eb4c45222107c8d5cafb03797fb65ea4f846fe2c442c03472a402eb9b22", func := "loop.example/g01359/laws.FnExactFirstReaching", spec := "fnExactFirstReaching", unfollowed := true, recurses := true, apart := false, narrowed := true }
def FnExactFirstReachingUptoSaid : Prop := fnExactFirstReachingUptoRow.holds Try.pinned (OpenSpec.upto fnExactFirstReachingSpec)

/-- 'laws.FnExactFixedByWord', WHERE WHAT IT READS IS OF BULK AT MOST 1048576: true; the input reads as it did. -/
def fnExactFixedByWordUptoRow : OpenClaim := { program := "ythadgdmooacccaa", sum := "8cb16eb4c45222107c8d5cafb03797fb65ea4f846fe2c442c03472a402eb9b22", func := "loop.example/g01359/laws.FnExactFixedByWord", spec := "fnExactFixedByWord", unfollowed := true, recurses := true, apart := false, narrowed := true }
def FnExactFixedByWordUptoSaid : Prop := fnExactFixedByWordUptoRow.holds Try.pinned (OpenSpec.upto fnExactFixedByWordSpec)

/-- 'laws.FnTop', WHERE WHAT IT READS IS OF BULK AT MOST 1048576: true; the input reads as it did. -/
def fnTopUptoRow : OpenClaim := { program := "ythadgdmooacccaa", sum := "8cb16eb4c45222107c8d5cafb03797fb65ea4f846fe2c442c03472a402eb9b22", func := "loop.example/g01359/laws.FnTop", spec := "fnTop", unfollowed := true, recurses := true, apart := false, narrowed := true }
def FnTopUptoSaid : Prop := fnTopUptoRow.holds Try.pinned (OpenSpec.upto fnTopSpec)

end Rows
end Go.Proofs.Ythadgdmooacccaa
