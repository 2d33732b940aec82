/- 'AreEqual' and 'FirstDifferent', on both sides. No condition. -/
import Derived.Test.YtbodaefdaagelaaDiff
namespace Go.Proofs.Ytbodaefdaagelaa
set_option linter.unusedSimpArgs false
set_option linter.unusedVariables false
set_option linter.unusedSectionVars false
open Go.RowKit
/-- the code of two acceptors -/
noncomputable def twoC (ma : List Mp) (fa : Int) (la : List Int) (mb : List Mp) (fb : Int) (lb : List Int) : Int :=
  if accB ma fa la = true ∧ accB mb fb lb = true then (if ma.length = mb.length then 0 else 5) else 1
noncomputable def RFirstDifferent (ma : List Mp) (fa : Int) (la : List Int) (mb : List Mp) (fb : Int) (lb : List Int) : List Int × Int := differR ma fa la mb fb lb
noncomputable def RAreEqual (ma : List Mp) (fa : Int) (la : List Int) (mb : List Mp) (fb : Int) (lb : List Int) : Bool × Int :=
  if (differR ma fa la mb fb lb).2 = 4 then (true, 0) else (false, (differR ma fa la mb fb lb).2)
theorem RFirstDifferent_len (ma : List Mp) (fa : Int) (la : List Int) (mb : List Mp) (fb : Int) (lb : List Int) : (RFirstDifferent ma fa la mb fb lb).1.length ≤ 1000 := by
  unfold RFirstDifferent differR
  split
  · split
    · exact fw_length _ _ _ _
    · simp
  · simp
/-- two acceptors in variables of a call's own -/
theorem acc_two {A A' B B' : Option Addr} {c c' d d' : Nat} {ma mb : List Mp} {la lb : List Int} {fa fb : Int} {w : World} (h : SeeMaps w A ma) (h' : SeeInts w A' la) (k : SeeMaps w B mb) (k' : SeeInts w B' lb) :
    Below w.heap.size w ((w.alloc (Obj.cells #[Value.slice A ma.length c, .int .i64 fa, Value.slice A' la.length c'] 30)).alloc (Obj.cells #[Value.slice B mb.length d, .int .i64 fb, Value.slice B' lb.length d'] 30)) ∧
    AccAt ((w.alloc (Obj.cells #[Value.slice A ma.length c, .int .i64 fa, Value.slice A' la.length c'] 30)).alloc (Obj.cells #[Value.slice B mb.length d, .int .i64 fb, Value.slice B' lb.length d'] 30)) w.heap.size A A' c c' ma fa la ∧
    AccAt ((w.alloc (Obj.cells #[Value.slice A ma.length c, .int .i64 fa, Value.slice A' la.length c'] 30)).alloc (Obj.cells #[Value.slice B mb.length d, .int .i64 fb, Value.slice B' lb.length d'] 30)) (w.heap.size + 1) B B' d d' mb fb lb := by
  refine ⟨by go_grown, (AccAt.new h h' _).below (kbelow _ _), ?_⟩
  have := AccAt.new (w := w.alloc (Obj.cells #[Value.slice A ma.length c, .int .i64 fa, Value.slice A' la.length c'] 30)) (c := d) (c' := d') (f := fb) (k.below (kbelow _ _)) (k'.below (kbelow _ _)) 30
  simpa using this
set_option maxHeartbeats 2000000 in
theorem l07Two_c {A A' B B' : Option Addr} {c c' d d' : Nat} {ma mb : List Mp} {la lb : List Int} {fa fb : Int} {w : World} (h : SeeMaps w A ma) (hn : ma.length ≤ 2097152) (h' : SeeInts w A' la) (hn' : la.length ≤ 2097152) (k : SeeMaps w B mb) (kn : mb.length ≤ 2097152) (k' : SeeInts w B' lb) (kn' : lb.length ≤ 2097152) :
    Calls Try.prog 72 #[.agg #[.slice A ma.length c, .int .i64 fa, .slice A' la.length c'], .agg #[.slice B mb.length d, .int .i64 fb, .slice B' lb.length d']] w fun e w' => e = .returned (.int .i64 (twoC ma fa la mb fb lb)) ∧ Below w.heap.size w w' := by
  obtain ⟨k0, ata, atb⟩ := acc_two (c := c) (c' := c') (d := d) (d' := d') (fa := fa) (fb := fb) h h' k k'
  have q0 := ata.c0
  have q1 := ata.c1
  have q2 := ata.c2
  have s0 := atb.c0
  have s1 := atb.c1
  have s2 := atb.c2
  cases hacc : accB ma fa la
  · have e1 : twoC ma fa la mb fb lb = 1 := by simp [twoC, hacc]
    rw [e1]
    clear e1
    go_enter Try.func72, Try.ntmps72
    go_wp2_with fail
    refine (valB (l07Is_c _ _ _ _ ma fa la _ ata.sm hn ata.sl hn') hacc).mono ?_
    rintro e w2 ⟨rfl, hb2⟩
    go_wp2
    go_returns
    exact ⟨rfl, btrans k0 hb2⟩
  · cases hbcc : accB mb fb lb
    · have e1 : twoC ma fa la mb fb lb = 1 := by simp [twoC, hbcc]
      rw [e1]
      clear e1
      go_enter Try.func72, Try.ntmps72
      go_wp2_with fail
      refine (valB (l07Is_c _ _ _ _ ma fa la _ ata.sm hn ata.sl hn') hacc).mono ?_
      rintro e w2 ⟨rfl, hb2⟩
      replace s0 := bcell hb2 s0
      replace s1 := bcell hb2 s1
      replace s2 := bcell hb2 s2
      go_wp2_with fail
      refine (valB (l07Is_c _ _ _ _ mb fb lb _ (atb.sm.below hb2) kn (atb.sl.below hb2) kn') hbcc).mono ?_
      rintro e w3 ⟨rfl, hb3⟩
      go_wp2
      go_returns
      exact ⟨rfl, btrans (btrans k0 hb2) hb3⟩
    · by_cases hlen : ma.length = mb.length
      · have e1 : twoC ma fa la mb fb lb = 0 := by simp [twoC, hacc, hbcc, hlen]
        have hln : ((ma.length : Int) != (mb.length : Int)) = false := by simp [hlen]
        rw [e1]
        have HLEN := Lib.hid hlen
        clear e1 hlen
        go_enter Try.func72, Try.ntmps72
        go_wp2_with fail
        refine (valB (l07Is_c _ _ _ _ ma fa la _ ata.sm hn ata.sl hn') hacc).mono ?_
        rintro e w2 ⟨rfl, hb2⟩
        replace s0 := bcell hb2 s0
        replace s1 := bcell hb2 s1
        replace s2 := bcell hb2 s2
        go_wp2_with fail
        refine (valB (l07Is_c _ _ _ _ mb fb lb _ (atb.sm.below hb2) kn (atb.sl.below hb2) kn') hbcc).mono ?_
        rintro e w3 ⟨rfl, hb3⟩
        have q0 := bcell (btrans hb2 hb3) q0
        have s0 := bcell hb3 s0
        go_wp2
        go_returns
        exact ⟨rfl, btrans (btrans k0 hb2) hb3⟩
      · have e1 : twoC ma fa la mb fb lb = 5 := by simp [twoC, hacc, hbcc, hlen]
        have hln : ((ma.length : Int) != (mb.length : Int)) = true := bne_iff_ne.2 (fun e => hlen (by omega))
        rw [e1]
        clear e1 hlen
        go_enter Try.func72, Try.ntmps72
        go_wp2_with fail
        refine (valB (l07Is_c _ _ _ _ ma fa la _ ata.sm hn ata.sl hn') hacc).mono ?_
        rintro e w2 ⟨rfl, hb2⟩
        replace s0 := bcell hb2 s0
        replace s1 := bcell hb2 s1
        replace s2 := bcell hb2 s2
        go_wp2_with fail
        refine (valB (l07Is_c _ _ _ _ mb fb lb _ (atb.sm.below hb2) kn (atb.sl.below hb2) kn') hbcc).mono ?_
        rintro e w3 ⟨rfl, hb3⟩
        have q0 := bcell (btrans hb2 hb3) q0
        have s0 := bcell hb3 s0
        go_wp2
        go_returns
        exact ⟨rfl, btrans (btrans k0 hb2) hb3⟩
set_option maxHeartbeats 2000000 in
theorem implFirstDifferent_l {A A' B B' : Option Addr} {c c' d d' : Nat} {ma mb : List Mp} {la lb : List Int} {fa fb : Int} {w : World} (h : SeeMaps w A ma) (hn : ma.length ≤ 2097152) (hA : NilOk A c) (h' : SeeInts w A' la) (hn' : la.length ≤ 2097152) (_ : NilOk A' c') (k : SeeMaps w B mb) (kn : mb.length ≤ 2097152) (kA : NilOk B d) (k' : SeeInts w B' lb) (kn' : lb.length ≤ 2097152) (_ : NilOk B' d') :
    Calls Try.prog 34 #[.agg #[.slice A ma.length c, .int .i64 fa, .slice A' la.length c'], .agg #[.slice B mb.length d, .int .i64 fb, .slice B' lb.length d']] w fun e w' => ∃ v, e = .returned (.tuple #[v, .int .i64 (RFirstDifferent ma fa la mb fb lb).2]) ∧ OwnInts w' w.heap.size v (RFirstDifferent ma fa la mb fb lb).1 ∧ Below w.heap.size w w' := by
  show Calls _ _ _ w (WPost (differR ma fa la mb fb lb) w)
  obtain ⟨k0, ata, atb⟩ := acc_two (c := c) (c' := c') (d := d) (d' := d') (fa := fa) (fb := fb) h h' k k'
  have q0 := ata.c0
  have q1 := ata.c1
  have q2 := ata.c2
  have s0 := atb.c0
  have s1 := atb.c1
  have s2 := atb.c2
  go_enter Try.func34, Try.ntmps34
  go_wp2_with fail
  refine (differ_c ata.sm hn hA ata.sl hn' atb.sm kn kA atb.sl kn').mono ?_
  rintro e w2 ⟨v, rfl, hown, hb2⟩
  obtain ⟨A1, c1, rfl, _⟩ := hown.see
  go_wp2
  go_returns
  exact ⟨_, rfl, hown.mono k0.size, btrans k0 hb2⟩
set_option maxHeartbeats 2000000 in
theorem implAreEqual_l {A A' B B' : Option Addr} {c c' d d' : Nat} {ma mb : List Mp} {la lb : List Int} {fa fb : Int} {w : World} (h : SeeMaps w A ma) (hn : ma.length ≤ 2097152) (hA : NilOk A c) (h' : SeeInts w A' la) (hn' : la.length ≤ 2097152) (_ : NilOk A' c') (k : SeeMaps w B mb) (kn : mb.length ≤ 2097152) (kA : NilOk B d) (k' : SeeInts w B' lb) (kn' : lb.length ≤ 2097152) (_ : NilOk B' d') :
    Calls Try.prog 30 #[.agg #[.slice A ma.length c, .int .i64 fa, .slice A' la.length c'], .agg #[.slice B mb.length d, .int .i64 fb, .slice B' lb.length d']] w fun e w' => e = .returned (.tuple #[.bool (RAreEqual ma fa la mb fb lb).1, .int .i64 (RAreEqual ma fa la mb fb lb).2]) ∧ Below w.heap.size w w' := by
  obtain ⟨k0, ata, atb⟩ := acc_two (c := c) (c' := c') (d := d) (d' := d') (fa := fa) (fb := fb) h h' k k'
  have q0 := ata.c0
  have q1 := ata.c1
  have q2 := ata.c2
  have s0 := atb.c0
  have s1 := atb.c1
  have s2 := atb.c2
  have hdf := differ_c (c := c) (c' := c') (d := d) (d' := d') (fa := fa) (fb := fb) ata.sm hn hA ata.sl hn' atb.sm kn kA atb.sl kn'
  have HDF := Lib.hid hdf
  clear hdf
  by_cases h4 : (differR ma fa la mb fb lb).2 = 4
  · have e1 : RAreEqual ma fa la mb fb lb = (true, 0) := by unfold RAreEqual; rw [if_pos h4]
    rw [e1]
    clear e1
    have e4 : ((differR ma fa la mb fb lb).2 == 4) = true := by simp [h4]
    have HH4 := Lib.hid h4
    go_enter Try.func30, Try.ntmps30
    go_wp2_with fail
    refine HDF.out.mono ?_
    rintro e w2 ⟨v, rfl, hown, hb2⟩
    obtain ⟨A1, c1, rfl, _⟩ := hown.see
    rw [h4]
    go_wp2
    go_returns
    exact ⟨rfl, btrans k0 hb2⟩
  · have e1 : RAreEqual ma fa la mb fb lb = (false, (differR ma fa la mb fb lb).2) := by unfold RAreEqual; rw [if_neg h4]
    rw [e1]
    clear e1
    have e4 : ((differR ma fa la mb fb lb).2 == 4) = false := by simp [h4]
    clear h4
    go_enter Try.func30, Try.ntmps30
    go_wp2_with fail
    refine HDF.out.mono ?_
    rintro e w2 ⟨v, rfl, hown, hb2⟩
    obtain ⟨A1, c1, rfl, _⟩ := hown.see
    go_wp2
    go_returns
    exact ⟨rfl, btrans k0 hb2⟩
/-- what 'l07Apart' tells of two acceptors -/
theorem two_apart {A A' B B' : Option Addr} {c c' d d' : Nat} {ma mb : List Mp} {la lb : List Int} {fa fb : Int} {w0 : World} {b1 b2 : Nat} (hacc : accB ma fa la = true) (hbcc : accB mb fb lb = true) (hlen : ma.length = mb.length) (hn' : la.length ≤ 2097152) (kn' : lb.length ≤ 2097152) (ata : AccAt w0 b1 A A' c c' ma fa la) (atb : AccAt w0 b2 B B' d d' mb fb lb) (W : World) (hb : Below w0.heap.size w0 W) :
    Calls Try.prog 73 #[.agg #[.slice A ma.length c, .int .i64 fa, .slice A' la.length c'], .agg #[.slice B mb.length d, .int .i64 fb, .slice B' lb.length d'], .int .i64 fa, .int .i64 fb] W (ApPost (differR ma fa la mb fb lb) W) := by
  have ra := RightA.of hacc
  have rb := RightA.of hbcc
  have e1 : differR ma fa la mb fb lb = fw (stP ma mb) ma.length (fa, fb) (isP la lb) := by unfold differR; rw [if_pos ⟨hacc, hbcc⟩, if_pos hlen]
  rw [e1]
  exact l07Apart_c A A' B B' c c' d d' ma mb la lb fa fb fa fb _ _ W (ata.sm.below hb) (ata.sl.below hb) (atb.sm.below hb) (atb.sl.below hb) ra.list rb.list hlen ra.pts rb.pts hn' kn' ra.f0 ra.f1 rb.f0 rb.f1
theorem two_cases {ma mb : List Mp} {la lb : List Int} {fa fb : Int} (h : twoC ma fa la mb fb lb = 0) : accB ma fa la = true ∧ accB mb fb lb = true ∧ ma.length = mb.length := by
  unfold twoC at h
  split at h
  · rename_i h1
    split at h
    · rename_i h2; exact ⟨h1.1, h1.2, h2⟩
    · cases h
  · cases h
theorem two_not {ma mb : List Mp} {la lb : List Int} {fa fb : Int} (h : twoC ma fa la mb fb lb ≠ 0) : differR ma fa la mb fb lb = ([], twoC ma fa la mb fb lb) ∧ twoC ma fa la mb fb lb ≠ 4 := by
  unfold twoC at h ⊢
  unfold differR
  split
  · rename_i h1
    rw [if_pos h1] at h
    split
    · rename_i h2; rw [if_pos h2] at h; exact absurd rfl h
    · exact ⟨rfl, by decide⟩
  · exact ⟨rfl, by decide⟩
theorem differR_cases (ma : List Mp) (fa : Int) (la : List Int) (mb : List Mp) (fb : Int) (lb : List Int) (h : twoC ma fa la mb fb lb = 0) : (∃ u, differR ma fa la mb fb lb = (u, 0)) ∨ differR ma fa la mb fb lb = ([], 4) := by
  obtain ⟨h1, h2, h3⟩ := two_cases h
  unfold differR
  rw [if_pos ⟨h1, h2⟩, if_pos h3]
  exact fw_cases _ _ _ _
set_option maxHeartbeats 2000000 in
theorem specFirstDifferent_l {A A' B B' : Option Addr} {c c' d d' : Nat} {ma mb : List Mp} {la lb : List Int} {fa fb : Int} {w : World} (h : SeeMaps w A ma) (hn : ma.length ≤ 2097152) (_ : NilOk A c) (h' : SeeInts w A' la) (hn' : la.length ≤ 2097152) (_ : NilOk A' c') (k : SeeMaps w B mb) (kn : mb.length ≤ 2097152) (_ : NilOk B d) (k' : SeeInts w B' lb) (kn' : lb.length ≤ 2097152) (_ : NilOk B' d') :
    Calls Try.prog 33 #[.agg #[.slice A ma.length c, .int .i64 fa, .slice A' la.length c'], .agg #[.slice B mb.length d, .int .i64 fb, .slice B' lb.length d']] w fun e w' => ∃ v, e = .returned (.tuple #[v, .int .i64 (RFirstDifferent ma fa la mb fb lb).2]) ∧ OwnInts w' w.heap.size v (RFirstDifferent ma fa la mb fb lb).1 ∧ Below w.heap.size w w' := by
  show Calls _ _ _ w (WPost (differR ma fa la mb fb lb) w)
  obtain ⟨k0, ata, atb⟩ := acc_two (c := c) (c' := c') (d := d) (d' := d') (fa := fa) (fb := fb) h h' k k'
  have q0 := ata.c0
  have q1 := ata.c1
  have q2 := ata.c2
  have s0 := atb.c0
  have s1 := atb.c1
  have s2 := atb.c2
  have htw := l07Two_c (c := c) (c' := c') (d := d) (d' := d') (fa := fa) (fb := fb) ata.sm hn ata.sl hn' atb.sm kn atb.sl kn'
  have HTW := Lib.hid htw
  clear htw
  by_cases h0 : twoC ma fa la mb fb lb = 0
  · obtain ⟨t1, t2, t3⟩ := two_cases h0
    have hap := two_apart t1 t2 t3 hn' kn' ata atb
    have hc := differR_cases ma fa la mb fb lb h0
    have HAP := Lib.hid hap
    clear hap t1 t2 t3
    generalize differR ma fa la mb fb lb = r at HAP hc ⊢
    rcases hc with ⟨u, rfl⟩ | rfl
    all_goals
      go_enter Try.func33, Try.ntmps33
      go_wp2_with fail
      refine HTW.out.mono ?_
      rintro e w2 ⟨rfl, hb2⟩
      rw [h0]
      have q0 := bcell hb2 q0
      have q1 := bcell hb2 q1
      have q2 := bcell hb2 q2
      have s0 := bcell hb2 s0
      have s1 := bcell hb2 s1
      have s2 := bcell hb2 s2
      go_wp2_with fail
      refine (HAP.out _ hb2).mono ?_
      rintro e w5 ⟨v, rfl, hown, hb6⟩
      obtain ⟨A1, c1, rfl, _⟩ := hown.see
      have hb7 := btrans k0 hb2
      go_wp2
      go_returns
      first
        | exact ⟨_, rfl, hown.mono hb7.size, btrans hb7 hb6⟩
        | exact WPost.nil (btrans hb7 hb6)
  · obtain ⟨e1, e2⟩ := two_not h0
    rw [e1]
    have e0 : (twoC ma fa la mb fb lb != 0) = true := bne_iff_ne.2 h0
    clear e1 e2 h0
    go_enter Try.func33, Try.ntmps33
    go_wp2_with fail
    refine HTW.out.mono ?_
    rintro e w2 ⟨rfl, hb2⟩
    go_wp2
    go_returns
    exact WPost.nil (btrans k0 hb2)
set_option maxHeartbeats 2000000 in
theorem specAreEqual_l {A A' B B' : Option Addr} {c c' d d' : Nat} {ma mb : List Mp} {la lb : List Int} {fa fb : Int} {w : World} (h : SeeMaps w A ma) (hn : ma.length ≤ 2097152) (_ : NilOk A c) (h' : SeeInts w A' la) (hn' : la.length ≤ 2097152) (_ : NilOk A' c') (k : SeeMaps w B mb) (kn : mb.length ≤ 2097152) (_ : NilOk B d) (k' : SeeInts w B' lb) (kn' : lb.length ≤ 2097152) (_ : NilOk B' d') :
    Calls Try.prog 29 #[.agg #[.slice A ma.length c, .int .i64 fa, .slice A' la.length c'], .agg #[.slice B mb.length d, .int .i64 fb, .slice B' lb.length d']] w fun e w' => e = .returned (.tuple #[.bool (RAreEqual ma fa la mb fb lb).1, .int .i64 (RAreEqual ma fa la mb fb lb).2]) ∧ Below w.heap.size w w' := by
  obtain ⟨k0, ata, atb⟩ := acc_two (c := c) (c' := c') (d := d) (d' := d') (fa := fa) (fb := fb) h h' k k'
  have q0 := ata.c0
  have q1 := ata.c1
  have q2 := ata.c2
  have s0 := atb.c0
  have s1 := atb.c1
  have s2 := atb.c2
  have htw := l07Two_c (c := c) (c' := c') (d := d) (d' := d') (fa := fa) (fb := fb) ata.sm hn ata.sl hn' atb.sm kn atb.sl kn'
  have HTW := Lib.hid htw
  clear htw
  unfold RAreEqual
  by_cases h0 : twoC ma fa la mb fb lb = 0
  · obtain ⟨t1, t2, t3⟩ := two_cases h0
    have hap := two_apart t1 t2 t3 hn' kn' ata atb
    have hc := differR_cases ma fa la mb fb lb h0
    have HAP := Lib.hid hap
    clear hap t1 t2 t3
    generalize differR ma fa la mb fb lb = r at HAP hc ⊢
    rcases hc with ⟨u, rfl⟩ | rfl
    all_goals
      go_enter Try.func29, Try.ntmps29
      go_wp2_with fail
      refine HTW.out.mono ?_
      rintro e w2 ⟨rfl, hb2⟩
      rw [h0]
      have q0 := bcell hb2 q0
      have q1 := bcell hb2 q1
      have q2 := bcell hb2 q2
      have s0 := bcell hb2 s0
      have s1 := bcell hb2 s1
      have s2 := bcell hb2 s2
      go_wp2_with fail
      refine (HAP.out _ hb2).mono ?_
      rintro e w5 ⟨v, rfl, hown, hb6⟩
      obtain ⟨A1, c1, rfl, _⟩ := hown.see
      have hb7 := btrans k0 hb2
      go_wp2
      go_returns
      exact ⟨rfl, btrans hb7 hb6⟩
  · obtain ⟨e1, e2⟩ := two_not h0
    rw [e1, if_neg e2]
    have e0 : (twoC ma fa la mb fb lb != 0) = true := bne_iff_ne.2 h0
    clear e1 e2 h0
    go_enter Try.func29, Try.ntmps29
    go_wp2_with fail
    refine HTW.out.mono ?_
    rintro e w2 ⟨rfl, hb2⟩
    go_wp2
    go_returns
    exact ⟨rfl, btrans k0 hb2⟩
end Go.Proofs.Ytbodaefdaagelaa
