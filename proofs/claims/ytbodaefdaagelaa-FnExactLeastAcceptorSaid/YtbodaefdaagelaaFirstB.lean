/- 'FirstApart', 'FirstAccepted', on both sides. No condition. -/
import Derived.Test.YtbodaefdaagelaaFirstA
namespace Go.Proofs.Ytbodaefdaagelaa
set_option linter.unusedSimpArgs false
set_option linter.unusedVariables false
set_option linter.unusedSectionVars false
open Go.RowKit
theorem fw_cases {σ : Type} [DecidableEq σ] (st : Nat → σ → σ) (L : Nat) (start : σ) (P : σ → Bool) : (∃ u, fw st L start P = (u, 0)) ∨ fw st L start P = ([], 4) := by
  cases h : (gF st L start).find? (fun m => P m.1) with
  | some m => exact .inl ⟨m.2, fw_some h⟩
  | none => exact .inr (fw_none h)
theorem fw_length {σ : Type} [DecidableEq σ] (st : Nat → σ → σ) (L : Nat) (start : σ) (P : σ → Bool) : (fw st L start P).1.length ≤ 1000 := by
  cases h : (gF st L start).find? (fun m => P m.1) with
  | some m =>
    rw [fw_some h]
    have := List.mem_of_find?_eq_some h
    unfold gF at this
    exact gb_words 1000 m this
  | none => rw [fw_none h]; simp
open Classical in
noncomputable def RFirstApart (ms : List Mp) (f : Int) (ls : List Int) (p q : Int) : List Int × Int :=
  if accB ms f ls = true then (if inB p 0 ((ms.headD Mp.z).p - 1) = true ∧ inB q 0 ((ms.headD Mp.z).p - 1) = true then fw (stP ms ms) ms.length (p, q) (isP ls ls) else ([], 2)) else ([], 1)
theorem RFirstApart_len (ms : List Mp) (f : Int) (ls : List Int) (p q : Int) : (RFirstApart ms f ls p q).1.length ≤ 1000 := by
  unfold RFirstApart
  split
  · split
    · exact fw_length _ _ _ _
    · simp
  · simp
theorem inB_of {a b c : Int} (h : inB a b c = true) : b ≤ a ∧ a ≤ c := Classical.byContradiction fun hn => by rw [inB_false hn] at h; cases h
theorem acc_head {ms : List Mp} {f : Int} {ls : List Int} (h : accB ms f ls = true) : ∃ m0, ms[0]? = some m0 ∧ IsMp m0 ∧ m0.p = (ms.headD Mp.z).p ∧ 0 < ms.length := by
  have h1 : sameB ms = true := by unfold accB at h; simp only [Bool.and_eq_true] at h; exact h.1
  obtain ⟨m0, e0, e1, e2, _, e4, _⟩ := same_facts h1
  exact ⟨m0, e0, e1, by rw [e4], e2⟩
/-- the first words that are handed back -/
def WPost (r : List Int × Int) (w : World) (e : Ending) (w' : World) : Prop := ∃ v, e = .returned (.tuple #[v, .int .i64 r.2]) ∧ OwnInts w' w.heap.size v r.1 ∧ Below w.heap.size w w'
theorem WPost.nil {w w' : World} {k : Int} (hb : Below w.heap.size w w') : WPost ([], k) w (.returned (.tuple #[.slice none 0 0, .int .i64 k])) w' := ⟨_, rfl, OwnInts.nil _ _, hb⟩
set_option maxHeartbeats 2000000 in
set_option maxRecDepth 100000 in
theorem implFirstApart_c {A A' : Option Addr} {c c' : Nat} {ms : List Mp} {f : Int} {ls : List Int} {p q : Int} {w : World} (h : SeeMaps w A ms) (hn : ms.length ≤ 2097152) (hA : NilOk A c) (h' : SeeInts w A' ls) (hn' : ls.length ≤ 2097152) :
    Calls Try.prog 38 #[.agg #[.slice A ms.length c, .int .i64 f, .slice A' ls.length c'], .int .i64 p, .int .i64 q] w (WPost (RFirstApart ms f ls p q) w) := by
  have k0 : Below w.heap.size w (w.alloc (Obj.cells #[Value.slice A ms.length c, .int .i64 f, Value.slice A' ls.length c'] 30)) := by go_grown
  have at0 : AccAt (w.alloc (Obj.cells #[Value.slice A ms.length c, .int .i64 f, Value.slice A' ls.length c'] 30)) w.heap.size A A' c c' ms f ls := AccAt.new h h' _
  cases hacc : accB ms f ls
  · have e1 : RFirstApart ms f ls p q = ([], 1) := by simp [RFirstApart, hacc]
    rw [e1]
    clear e1
    go_enter Try.func38, Try.ntmps38
    go_wp2_with (go_at_call 18; go_must (refine (valB (IsAcceptor_c _ _ _ _ ms f ls _ at0.sm hn hA at0.sl hn') hacc).mono ?_); rintro e w2 ⟨rfl, hb2⟩)
    go_returns
    exact WPost.nil (btrans k0 hb2)
  · obtain ⟨m0, h0, hm0, hp0, hl0⟩ := acc_head hacc
    have HR := Lib.hid (RightA.of hacc)
    have H0 := Lib.hid h0
    have HP0 := Lib.hid hp0
    clear h0 hp0
    cases hp : inB p 0 (m0.p - 1)
    · have e1 : RFirstApart ms f ls p q = ([], 2) := by unfold RFirstApart; rw [if_pos hacc, ← HP0.out, if_neg (fun H => by rw [hp] at H; cases H.1)]
      rw [e1]
      clear e1
      go_enter Try.func38, Try.ntmps38
      go_wp2_with (first | (go_at_call 18; go_must (refine (valB (IsAcceptor_c _ _ _ _ ms f ls _ at0.sm hn hA at0.sl hn') hacc).mono ?_); rintro e w2 ⟨rfl, hb2⟩; have at2 := at0.below hb2; have q0 := at2.c0) | (go_at_call 61; go_must (refine (valB (isPoint_c A c ms m0 p _ at2.sm H0.out hm0) hp).mono ?_); rintro e w3 ⟨rfl, hb3⟩))
      go_returns
      exact WPost.nil (btrans (btrans k0 hb2) hb3)
    · cases hq : inB q 0 (m0.p - 1)
      · have e1 : RFirstApart ms f ls p q = ([], 2) := by unfold RFirstApart; rw [if_pos hacc, ← HP0.out, if_neg (fun H => by rw [hq] at H; cases H.2)]
        rw [e1]
        clear e1
        go_enter Try.func38, Try.ntmps38
        go_wp2_with fail
        refine (valB (IsAcceptor_c _ _ _ _ ms f ls _ at0.sm hn hA at0.sl hn') hacc).mono ?_
        rintro e w2 ⟨rfl, hb2⟩
        have at2 := at0.below hb2
        have q0 := at2.c0
        go_wp2_with fail
        refine (valB (isPoint_c A c ms m0 p _ at2.sm H0.out hm0) hp).mono ?_
        rintro e w3 ⟨rfl, hb3⟩
        have at3 := at2.below hb3
        have q03 := at3.c0
        go_wp2_with fail
        refine (valB (isPoint_c A c ms m0 q _ at3.sm H0.out hm0) hq).mono ?_
        rintro e w4 ⟨rfl, hb4⟩
        go_wp2
        go_returns
        exact WPost.nil (btrans (btrans (btrans k0 hb2) hb3) hb4)
      · have e1 : RFirstApart ms f ls p q = fw (stP ms ms) ms.length (p, q) (isP ls ls) := by unfold RFirstApart; rw [if_pos hacc, ← HP0.out, if_pos ⟨hp, hq⟩]
        rw [e1]
        clear e1
        have i1 := inB_of hp
        have i2 := inB_of hq
        have i3 := HP0.out
        have hap := fun W hW => apart_c w.heap.size A A' c c' ms f ls (ms.headD Mp.z).p p q W hW HR.out.list hn' (by omega) (by omega) (by omega) (by omega)
        generalize fw (stP ms ms) ms.length (p, q) (isP ls ls) = r at hap ⊢
        have HAP := Lib.hid hap
        clear hap i1 i2 i3
        go_enter Try.func38, Try.ntmps38
        go_wp2_with fail
        refine (valB (IsAcceptor_c _ _ _ _ ms f ls _ at0.sm hn hA at0.sl hn') hacc).mono ?_
        rintro e w2 ⟨rfl, hb2⟩
        have at2 := at0.below hb2
        have q0 := at2.c0
        go_wp2_with fail
        refine (valB (isPoint_c A c ms m0 p _ at2.sm H0.out hm0) hp).mono ?_
        rintro e w3 ⟨rfl, hb3⟩
        have at3 := at2.below hb3
        have q03 := at3.c0
        go_wp2_with fail
        refine (valB (isPoint_c A c ms m0 q _ at3.sm H0.out hm0) hq).mono ?_
        rintro e w4 ⟨rfl, hb4⟩
        have at4 := at3.below hb4
        have hb5 := btrans (btrans (btrans k0 hb2) hb3) hb4
        go_wp2_with fail
        refine (HAP.out _ at4).mono ?_
        rintro e w5 ⟨v, rfl, hown, hb6⟩
        obtain ⟨A1, c1, rfl, _⟩ := hown.see
        go_wp2
        go_returns
        exact ⟨_, rfl, hown.mono hb5.size, btrans hb5 hb6⟩
set_option maxHeartbeats 2000000 in
set_option maxRecDepth 100000 in
theorem specFirstApart_c {A A' : Option Addr} {c c' : Nat} {ms : List Mp} {f : Int} {ls : List Int} {p q : Int} {w : World} (h : SeeMaps w A ms) (hn : ms.length ≤ 2097152) (h' : SeeInts w A' ls) (hn' : ls.length ≤ 2097152) :
    Calls Try.prog 37 #[.agg #[.slice A ms.length c, .int .i64 f, .slice A' ls.length c'], .int .i64 p, .int .i64 q] w (WPost (RFirstApart ms f ls p q) w) := by
  have k0 : Below w.heap.size w (w.alloc (Obj.cells #[Value.slice A ms.length c, .int .i64 f, Value.slice A' ls.length c'] 30)) := by go_grown
  have at0 : AccAt (w.alloc (Obj.cells #[Value.slice A ms.length c, .int .i64 f, Value.slice A' ls.length c'] 30)) w.heap.size A A' c c' ms f ls := AccAt.new h h' _
  have c0 := at0.c0
  have c1 := at0.c1
  have c2 := at0.c2
  cases hacc : accB ms f ls
  · have e1 : RFirstApart ms f ls p q = ([], 1) := by simp [RFirstApart, hacc]
    rw [e1]
    clear e1
    go_enter Try.func37, Try.ntmps37
    go_wp2_with fail
    refine (valB (l07Is_c _ _ _ _ ms f ls _ at0.sm hn at0.sl hn') hacc).mono ?_
    rintro e w2 ⟨rfl, hb2⟩
    go_wp2
    go_returns
    exact WPost.nil (btrans k0 hb2)
  · obtain ⟨m0, h0, hm0, hp0, hl0⟩ := acc_head hacc
    have HR := Lib.hid (RightA.of hacc)
    obtain ⟨b, o, m, rfl, hm, g⟩ := at0.sm.at_ hl0
    rw [h0] at hm
    obtain rfl := Option.some.inj hm
    have g0 := g.h0
    rw [Nat.zero_mul, Nat.add_zero] at g0
    have HP0 := Lib.hid hp0
    have b1 := hm0.1
    have b2 := hm0.2.1
    clear h0 hp0 hm g
    cases hp : inB p 0 (m0.p - 1)
    · have e1 : RFirstApart ms f ls p q = ([], 2) := by unfold RFirstApart; rw [if_pos hacc, ← HP0.out, if_neg (fun H => by rw [hp] at H; cases H.1)]
      rw [e1]
      clear e1
      go_enter Try.func37, Try.ntmps37
      go_wp2_with fail
      refine (valB (l07Is_c _ _ _ _ ms f ls _ at0.sm hn at0.sl hn') hacc).mono ?_
      rintro e w2 ⟨rfl, hb2⟩
      have at2 := at0.below hb2
      have q0 := at2.c0
      have q3 := bcell hb2 g0
      go_wp2_with fail
      refine (valB (l01In_c _ _ _ _) hp).mono ?_
      rintro e w3 ⟨rfl, hb3⟩
      go_wp2
      go_returns
      exact WPost.nil (btrans (btrans k0 hb2) hb3)
    · cases hq : inB q 0 (m0.p - 1)
      · have e1 : RFirstApart ms f ls p q = ([], 2) := by unfold RFirstApart; rw [if_pos hacc, ← HP0.out, if_neg (fun H => by rw [hq] at H; cases H.2)]
        rw [e1]
        clear e1
        go_enter Try.func37, Try.ntmps37
        go_wp2_with fail
        refine (valB (l07Is_c _ _ _ _ ms f ls _ at0.sm hn at0.sl hn') hacc).mono ?_
        rintro e w2 ⟨rfl, hb2⟩
        have at2 := at0.below hb2
        have q0 := at2.c0
        have q3 := bcell hb2 g0
        go_wp2_with fail
        refine (valB (l01In_c _ _ _ _) hp).mono ?_
        rintro e w3 ⟨rfl, hb3⟩
        have at3 := at2.below hb3
        have q03 := at3.c0
        have q33 := bcell hb3 q3
        go_wp2_with fail
        refine (valB (l01In_c _ _ _ _) hq).mono ?_
        rintro e w4 ⟨rfl, hb4⟩
        go_wp2
        go_returns
        exact WPost.nil (btrans (btrans (btrans k0 hb2) hb3) hb4)
      · have e1 : RFirstApart ms f ls p q = fw (stP ms ms) ms.length (p, q) (isP ls ls) := by unfold RFirstApart; rw [if_pos hacc, ← HP0.out, if_pos ⟨hp, hq⟩]
        rw [e1]
        clear e1
        have i1 := inB_of hp
        have i2 := inB_of hq
        have i3 := HP0.out
        have hap := fun W (hW : AccAt W w.heap.size (some ⟨b, o, none⟩) A' c c' ms f ls) => l07Apart_c (some ⟨b, o, none⟩) A' (some ⟨b, o, none⟩) A' c c' c c' ms ms ls ls f f p q (ms.headD Mp.z).p (ms.headD Mp.z).p W hW.sm hW.sl hW.sm hW.sl HR.out.list HR.out.list rfl HR.out.pts HR.out.pts hn' hn' (by omega) (by omega) (by omega) (by omega)
        have hc := fw_cases (stP ms ms) ms.length (p, q) (isP ls ls)
        generalize fw (stP ms ms) ms.length (p, q) (isP ls ls) = r at hap hc ⊢
        have HAP := Lib.hid hap
        clear hap i1 i2 i3
        rcases hc with ⟨u, rfl⟩ | rfl
        all_goals
          go_enter Try.func37, Try.ntmps37
          go_wp2_with fail
          refine (valB (l07Is_c _ _ _ _ ms f ls _ at0.sm hn at0.sl hn') hacc).mono ?_
          rintro e w2 ⟨rfl, hb2⟩
          have at2 := at0.below hb2
          have q0 := at2.c0
          have q3 := bcell hb2 g0
          go_wp2_with fail
          refine (valB (l01In_c _ _ _ _) hp).mono ?_
          rintro e w3 ⟨rfl, hb3⟩
          have at3 := at2.below hb3
          have q03 := at3.c0
          have q33 := bcell hb3 q3
          go_wp2_with fail
          refine (valB (l01In_c _ _ _ _) hq).mono ?_
          rintro e w4 ⟨rfl, hb4⟩
          have at4 := at3.below hb4
          have c40 := at4.c0
          have c41 := at4.c1
          have c42 := at4.c2
          have hb5 := btrans (btrans (btrans k0 hb2) hb3) hb4
          go_wp2_with fail
          refine (HAP.out _ at4).mono ?_
          rintro e w5 ⟨v, rfl, hown, hb6⟩
          obtain ⟨A1, c1, rfl, _⟩ := hown.see
          go_wp2
          go_returns
          first
            | exact ⟨_, rfl, hown.mono hb5.size, btrans hb5 hb6⟩
            | exact WPost.nil (btrans hb5 hb6)
theorem implFirstApart_l {A A' : Option Addr} {c c' : Nat} {ms : List Mp} {f : Int} {ls : List Int} {p q : Int} {w : World} (h : SeeMaps w A ms) (hn : ms.length ≤ 2097152) (hA : NilOk A c) (h' : SeeInts w A' ls) (hn' : ls.length ≤ 2097152) (_ : NilOk A' c') :
    Calls Try.prog 38 #[.agg #[.slice A ms.length c, .int .i64 f, .slice A' ls.length c'], .int .i64 p, .int .i64 q] w fun e w' => ∃ v, e = .returned (.tuple #[v, .int .i64 (RFirstApart ms f ls p q).2]) ∧ OwnInts w' w.heap.size v (RFirstApart ms f ls p q).1 ∧ Below w.heap.size w w' := implFirstApart_c h hn hA h' hn'
theorem specFirstApart_l {A A' : Option Addr} {c c' : Nat} {ms : List Mp} {f : Int} {ls : List Int} {p q : Int} {w : World} (h : SeeMaps w A ms) (hn : ms.length ≤ 2097152) (_ : NilOk A c) (h' : SeeInts w A' ls) (hn' : ls.length ≤ 2097152) (_ : NilOk A' c') :
    Calls Try.prog 37 #[.agg #[.slice A ms.length c, .int .i64 f, .slice A' ls.length c'], .int .i64 p, .int .i64 q] w fun e w' => ∃ v, e = .returned (.tuple #[v, .int .i64 (RFirstApart ms f ls p q).2]) ∧ OwnInts w' w.heap.size v (RFirstApart ms f ls p q).1 ∧ Below w.heap.size w w' := specFirstApart_c h hn h' hn'
end Go.Proofs.Ytbodaefdaagelaa
