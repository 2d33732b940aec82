/- 'CongruenceOf', 'RightCongruence', on both sides. No condition. -/
import Derived.Test.YtjepmbjneccagaaGreatIsMade
namespace Go.Proofs.YtjepmbjneccagaaGreat
set_option linter.unusedSimpArgs false
set_option linter.unusedVariables false
set_option linter.unusedSectionVars false
open Go.RowKit
noncomputable def RCongruenceOf (ms : List Mp) (prs : List (List Int)) : List Int × Int := RMadeBy true ms prs
theorem RCongruenceOf_len (ms : List Mp) (prs : List (List Int)) : (RCongruenceOf ms prs).1.length ≤ 1000 := RMadeBy_len _ _ _
set_option maxHeartbeats 2000000 in
theorem implCongruenceOf_l {A A' : Option Addr} {c c' : Nat} {ms : List Mp} {prs : List (List Int)} {w : World} (h : SeeMaps w A ms) (hn : ms.length ≤ 2097152) (hA : NilOk A c) (h' : SeeTab w A' prs) (hn' : prs.length ≤ 2097152) (hl' : ∀ pr ∈ prs, pr.length ≤ 2097152) :
    Calls Tryz.prog 22 #[.slice A ms.length c, .slice A' prs.length c'] w fun e w' => ∃ v, e = .returned (.tuple #[v, .int .i64 (RCongruenceOf ms prs).2]) ∧ OwnInts w' w.heap.size v (RCongruenceOf ms prs).1 ∧ Below w.heap.size w w' := by
  have hm := madeBy_c (c := c) (c' := c') (both := true) h hn hA h' hn' hl'
  unfold RCongruenceOf
  generalize RMadeBy true ms prs = r at *
  have HM := Lib.hid hm
  clear hm h h'
  go_enter Tryz.func22, Tryz.ntmps22
  go_wp2_with fail
  refine HM.out.mono ?_
  rintro e w2 ⟨v, rfl, own, hb2⟩
  go_wp2
  go_returns
  exact ⟨_, rfl, own, hb2⟩
set_option maxHeartbeats 2000000 in
theorem specCongruenceOf_l {A A' : Option Addr} {c c' : Nat} {ms : List Mp} {prs : List (List Int)} {w : World} (h : SeeMaps w A ms) (hn : ms.length ≤ 2097152) (_ : NilOk A c) (h' : SeeTab w A' prs) (hn' : prs.length ≤ 2097152) (hl' : ∀ pr ∈ prs, pr.length ≤ 2097152) :
    Calls Tryz.prog 23 #[.slice A ms.length c, .slice A' prs.length c'] w fun e w' => ∃ v, e = .returned (.tuple #[v, .int .i64 (RCongruenceOf ms prs).2]) ∧ OwnInts w' w.heap.size v (RCongruenceOf ms prs).1 ∧ Below w.heap.size w w' := by
  have hm := l06Made_c (c := c) (c' := c') (both := true) h hn h' hn' hl'
  unfold RCongruenceOf
  generalize RMadeBy true ms prs = r at *
  have HM := Lib.hid hm
  clear hm h h'
  go_enter Tryz.func23, Tryz.ntmps23
  go_wp2_with fail
  refine HM.out.mono ?_
  rintro e w2 ⟨v, rfl, own, hb2⟩
  go_wp2
  go_returns
  exact ⟨_, rfl, own, hb2⟩
noncomputable def RRightCongruence (ms : List Mp) (prs : List (List Int)) : List Int × Int := RMadeBy false ms prs
theorem RRightCongruence_len (ms : List Mp) (prs : List (List Int)) : (RRightCongruence ms prs).1.length ≤ 1000 := RMadeBy_len _ _ _
set_option maxHeartbeats 2000000 in
theorem implRightCongruence_l {A A' : Option Addr} {c c' : Nat} {ms : List Mp} {prs : List (List Int)} {w : World} (h : SeeMaps w A ms) (hn : ms.length ≤ 2097152) (hA : NilOk A c) (h' : SeeTab w A' prs) (hn' : prs.length ≤ 2097152) (hl' : ∀ pr ∈ prs, pr.length ≤ 2097152) :
    Calls Tryz.prog 25 #[.slice A ms.length c, .slice A' prs.length c'] w fun e w' => ∃ v, e = .returned (.tuple #[v, .int .i64 (RRightCongruence ms prs).2]) ∧ OwnInts w' w.heap.size v (RRightCongruence ms prs).1 ∧ Below w.heap.size w w' := by
  have hm := madeBy_c (c := c) (c' := c') (both := false) h hn hA h' hn' hl'
  unfold RRightCongruence
  generalize RMadeBy false ms prs = r at *
  have HM := Lib.hid hm
  clear hm h h'
  go_enter Tryz.func25, Tryz.ntmps25
  go_wp2_with fail
  refine HM.out.mono ?_
  rintro e w2 ⟨v, rfl, own, hb2⟩
  go_wp2
  go_returns
  exact ⟨_, rfl, own, hb2⟩
set_option maxHeartbeats 2000000 in
theorem specRightCongruence_l {A A' : Option Addr} {c c' : Nat} {ms : List Mp} {prs : List (List Int)} {w : World} (h : SeeMaps w A ms) (hn : ms.length ≤ 2097152) (_ : NilOk A c) (h' : SeeTab w A' prs) (hn' : prs.length ≤ 2097152) (hl' : ∀ pr ∈ prs, pr.length ≤ 2097152) :
    Calls Tryz.prog 26 #[.slice A ms.length c, .slice A' prs.length c'] w fun e w' => ∃ v, e = .returned (.tuple #[v, .int .i64 (RRightCongruence ms prs).2]) ∧ OwnInts w' w.heap.size v (RRightCongruence ms prs).1 ∧ Below w.heap.size w w' := by
  have hm := l06Made_c (c := c) (c' := c') (both := false) h hn h' hn' hl'
  unfold RRightCongruence
  generalize RMadeBy false ms prs = r at *
  have HM := Lib.hid hm
  clear hm h h'
  go_enter Tryz.func26, Tryz.ntmps26
  go_wp2_with fail
  refine HM.out.mono ?_
  rintro e w2 ⟨v, rfl, own, hb2⟩
  go_wp2
  go_returns
  exact ⟨_, rfl, own, hb2⟩
end Go.Proofs.YtjepmbjneccagaaGreat
