/- 'FirstAccepted', on both sides. No condition. -/
import Derived.Test.YtbodaefdaagelaaFirstB
namespace Go.Proofs.Ytbodaefdaagelaa
set_option linter.unusedSimpArgs false
set_option linter.unusedVariables false
set_option linter.unusedSectionVars false
open Go.RowKit
open Classical in
noncomputable def RFirstAccepted (ms : List Mp) (f : Int) (ls : List Int) : List Int × Int :=
  if accB ms f ls = true then fw (stS ms) ms.length f (fun p => decide (p ∈ ls)) else ([], 1)
theorem RFirstAccepted_len (ms : List Mp) (f : Int) (ls : List Int) : (RFirstAccepted ms f ls).1.length ≤ 1000 := by
  unfold RFirstAccepted
  split
  · exact fw_length _ _ _ _
  · simp
theorem lead_one (ms : List Mp) : ∀ (u : List Int) (p : Int), run (stp leadB ms) [p] u = [run (stS ms) p u]
  | [], p => rfl
  | k :: u, p => lead_one ms u _
theorem pair_same (ms : List Mp) : ∀ (u : List Int) (p : Int), run (stP ms ms) (p, p) u = (run (stS ms) p u, run (stS ms) p u)
  | [], p => rfl
  | k :: u, p => pair_same ms u _
theorem fw_one {ms : List Mp} {n p : Int} (hr : RightL ms n) (ls : List Int) (h0 : 0 ≤ p) (h1 : p < n) : fw (stp leadB ms) ms.length [p] (isLB ls) = fw (stS ms) ms.length p (fun p => decide (p ∈ ls)) :=
  fw_eq (univ1 hr h0 h1) (univS hr h0 h1) hr.six fun u _ => by rw [lead_one]; rfl
theorem fw_same {ms : List Mp} {n p : Int} (hr : RightL ms n) (ls : List Int) (h0 : 0 ≤ p) (h1 : p < n) : fw (stP ms ms) ms.length (p, p) (isP ls []) = fw (stS ms) ms.length p (fun p => decide (p ∈ ls)) :=
  fw_eq (univP hr hr rfl h0 h1 h0 h1) (univS hr h0 h1) hr.six fun u _ => by rw [pair_same]; unfold isP; simp
set_option maxHeartbeats 2000000 in
set_option maxRecDepth 100000 in
theorem implFirstAccepted_l {A A' : Option Addr} {c c' : Nat} {ms : List Mp} {f : Int} {ls : List Int} {w : World} (h : SeeMaps w A ms) (hn : ms.length ≤ 2097152) (hA : NilOk A c) (h' : SeeInts w A' ls) (hn' : ls.length ≤ 2097152) (_ : NilOk A' c') :
    Calls Try.prog 36 #[.agg #[.slice A ms.length c, .int .i64 f, .slice A' ls.length c']] w fun e w' => ∃ v, e = .returned (.tuple #[v, .int .i64 (RFirstAccepted ms f ls).2]) ∧ OwnInts w' w.heap.size v (RFirstAccepted ms f ls).1 ∧ Below w.heap.size w w' := by
  show Calls _ _ _ w (WPost (RFirstAccepted ms f ls) w)
  have k0 : Below w.heap.size w (w.alloc (Obj.cells #[Value.slice A ms.length c, .int .i64 f, Value.slice A' ls.length c'] 30)) := by go_grown
  have at0 : AccAt (w.alloc (Obj.cells #[Value.slice A ms.length c, .int .i64 f, Value.slice A' ls.length c'] 30)) w.heap.size A A' c c' ms f ls := AccAt.new h h' _
  cases hacc : accB ms f ls
  · have e1 : RFirstAccepted ms f ls = ([], 1) := by simp [RFirstAccepted, hacc]
    rw [e1]
    clear e1
    go_enter Try.func36, Try.ntmps36
    go_wp2_with (go_at_call 18; go_must (refine (valB (IsAcceptor_c _ _ _ _ ms f ls _ at0.sm hn hA at0.sl hn') hacc).mono ?_); rintro e w2 ⟨rfl, hb2⟩)
    go_returns
    exact WPost.nil (btrans k0 hb2)
  · have hra := RightA.of hacc
    have nn : 0 ≤ (ms.headD Mp.z).p := by have := hra.list.bounds; omega
    obtain ⟨r, hr⟩ : ∃ r, r = fw (stp leadB ms) ms.length [f] (isLB ls) := ⟨_, rfl⟩
    have e1 : RFirstAccepted ms f ls = r := by unfold RFirstAccepted; rw [if_pos hacc, hr, fw_one hra.list ls hra.f0 hra.f1]
    rw [e1]
    clear e1
    have hF : ∀ (W : World) (F : Option Addr) (fc : Nat), AccAt W w.heap.size A A' c c' ms f ls → SeeInts W F [f] → InS (fun k => k < W.heap.size) F →
      Calls Try.prog 77 #[.slice A ms.length c, .slice F 1 fc, .func (.func 78) #[] #[], .func (.func 79) #[] #[.pointer (some ⟨w.heap.size, 0, none⟩)]] W (FWpost r W) := fun W F fc hW hs hi => by
      rw [hr]
      exact firstWord_c (A := A) (F := F) (c := c) (fc := fc) (ms := ms) (start := [f]) (gB := 78) (gI := 79) (lbB := #[]) (lbI := #[.pointer (some ⟨w.heap.size, 0, none⟩)]) (U := ptsAll (ms.headD Mp.z).p.toNat 1) (by_ := leadB) (is := isLB ls) W hW.sm (hW.sm.inS hra.list.ne) hra.list.six hs hi (univ1 hra.list hra.f0 hra.f1) (fun p hp => by have := (ptsAll_l nn p hp).1; omega) leadEnters (enters_of Try.func79 (by kernel_rfl) rfl) (lead_by 1 _ ms _ hra.list.all (ptsAll_l nn) (by omega)) (FirstAccepted1_ok w.heap.size A A' c c' ms f ls _ W hW hn' nn)
    have HF := Lib.hid hF
    clear hF hr
    go_enter Try.func36, Try.ntmps36
    go_wp2_with fail
    refine (valB (IsAcceptor_c _ _ _ _ ms f ls _ at0.sm hn hA at0.sl hn') hacc).mono ?_
    rintro e w2 ⟨rfl, hb2⟩
    have at2 := at0.below hb2
    have q0 := at2.c0
    have q1 := at2.c1
    have hb3 := btrans k0 hb2
    go_wp2_with fail
    refine (HF.out _ _ _ (at2.below (kbelow _ _)) (OwnInts.one w2 0 (Nat.zero_le _) f).see' (fun a ha => by obtain rfl := Option.some.inj ha; simp)).mono ?_
    rintro e w5 ⟨v, rfl, hown, hb6⟩
    obtain ⟨A1, c1, rfl, _⟩ := hown.see
    go_wp2
    go_returns
    have hb7 := btrans hb3 (kbelow w2 (Obj.cells #[.int .i64 f] 2))
    exact ⟨_, rfl, hown.mono hb7.size, btrans hb7 hb6⟩
set_option maxHeartbeats 2000000 in
set_option maxRecDepth 100000 in
theorem specFirstAccepted_l {A A' : Option Addr} {c c' : Nat} {ms : List Mp} {f : Int} {ls : List Int} {w : World} (h : SeeMaps w A ms) (hn : ms.length ≤ 2097152) (_ : NilOk A c) (h' : SeeInts w A' ls) (hn' : ls.length ≤ 2097152) (_ : NilOk A' c') :
    Calls Try.prog 35 #[.agg #[.slice A ms.length c, .int .i64 f, .slice A' ls.length c']] w fun e w' => ∃ v, e = .returned (.tuple #[v, .int .i64 (RFirstAccepted ms f ls).2]) ∧ OwnInts w' w.heap.size v (RFirstAccepted ms f ls).1 ∧ Below w.heap.size w w' := by
  show Calls _ _ _ w (WPost (RFirstAccepted ms f ls) w)
  have k0 : Below w.heap.size w (w.alloc (Obj.cells #[Value.slice A ms.length c, .int .i64 f, Value.slice A' ls.length c'] 30)) := by go_grown
  have at0 : AccAt (w.alloc (Obj.cells #[Value.slice A ms.length c, .int .i64 f, Value.slice A' ls.length c'] 30)) w.heap.size A A' c c' ms f ls := AccAt.new h h' _
  have c0 := at0.c0
  have c1 := at0.c1
  have c2 := at0.c2
  cases hacc : accB ms f ls
  · have e1 : RFirstAccepted ms f ls = ([], 1) := by simp [RFirstAccepted, hacc]
    rw [e1]
    clear e1
    go_enter Try.func35, Try.ntmps35
    go_wp2_with fail
    refine (valB (l07Is_c _ _ _ _ ms f ls _ at0.sm hn at0.sl hn') hacc).mono ?_
    rintro e w2 ⟨rfl, hb2⟩
    go_wp2
    go_returns
    exact WPost.nil (btrans k0 hb2)
  · have hra := RightA.of hacc
    have hap := fun W (hW : AccAt W w.heap.size A A' c c' ms f ls) => l07Apart_c A A' A none c c' c 0 ms ms ls [] f f f f (ms.headD Mp.z).p (ms.headD Mp.z).p W hW.sm hW.sl hW.sm (fun h => absurd rfl h) hra.list hra.list rfl hra.pts (fun x hx => by cases hx) hn' (by simp) hra.f0 hra.f1 hra.f0 hra.f1
    rw [fw_same hra.list ls hra.f0 hra.f1] at hap
    have e1 : RFirstAccepted ms f ls = fw (stS ms) ms.length f (fun p => decide (p ∈ ls)) := by unfold RFirstAccepted; rw [if_pos hacc]
    rw [e1]
    clear e1
    have hc := fw_cases (stS ms) ms.length f (fun p => decide (p ∈ ls))
    generalize fw (stS ms) ms.length f (fun p => decide (p ∈ ls)) = r at hap hc ⊢
    have HAP := Lib.hid hap
    clear hap hra
    rcases hc with ⟨u, rfl⟩ | rfl
    all_goals
      go_enter Try.func35, Try.ntmps35
      go_wp2_with fail
      refine (valB (l07Is_c _ _ _ _ ms f ls _ at0.sm hn at0.sl hn') hacc).mono ?_
      rintro e w2 ⟨rfl, hb2⟩
      have at2 := at0.below hb2
      have q0 := at2.c0
      have q1 := at2.c1
      have q2 := at2.c2
      have hb3 := btrans k0 hb2
      have kk : Below w2.heap.size w2 (w2.alloc (Obj.cells #[Value.slice A ms.length c, .int .i64 f, Value.slice none 0 0] 30)) := kbelow _ _
      have at3 := at2.below kk
      have c30 := at3.c0
      have c31 := at3.c1
      have c32 := at3.c2
      go_wp2_with fail
      refine (HAP.out _ at3).mono ?_
      rintro e w5 ⟨v, rfl, hown, hb6⟩
      obtain ⟨A1, c1, rfl, _⟩ := hown.see
      go_wp2
      go_returns
      have hb7 := btrans hb3 kk
      first
        | exact ⟨_, rfl, hown.mono hb7.size, btrans hb7 hb6⟩
        | exact WPost.nil (btrans hb7 hb6)
end Go.Proofs.Ytbodaefdaagelaa
