/- 'differ': the program's search for a word that tells two acceptors apart. No condition. -/
import Derived.Test.YtbodaefdaagelaaPrs
import Derived.Test.YtbodaefdaagelaaFirstB
namespace Go.Proofs.Ytbodaefdaagelaa
set_option linter.unusedSimpArgs false
set_option linter.unusedVariables false
set_option linter.unusedSectionVars false
open Go.RowKit
/-- what 'differ' hands back -/
noncomputable def differR (ma : List Mp) (fa : Int) (la : List Int) (mb : List Mp) (fb : Int) (lb : List Int) : List Int × Int :=
  if accB ma fa la = true ∧ accB mb fb lb = true then (if ma.length = mb.length then fw (stP ma mb) ma.length (fa, fb) (isP la lb) else ([], 5)) else ([], 1)
/-- the words of the queue's elements are the call's own -/
def PrEl (w : World) (base : Nat) (qs : List Pr) : Prop := ∀ m ∈ qs, OwnInts w base m.w m.word
theorem PrEl.below {w w' : World} {base : Nat} {qs : List Pr} (h : PrEl w base qs) (hb : Below w.heap.size w w') : PrEl w' base qs := fun m hm => (h m hm).below hb
theorem cell_set_new {W wr : World} {p a : Addr} {v u : Value} (h : wr.cell? p = some v) (hW : W.cell? p = some v) (ha : wr.heap.size ≤ a.block) : (W.setCell a u).cell? p = some v :=
  (kset W a u).cell (by show p.block ≠ a.block; have := World.block_lt_of_cell? wr p h; omega) hW
/-- the element that is looked at, in a variable of its own -/
def NowAt (w : World) (b : Nat) (m : Pr) : Prop := w.cell? ⟨b, 0, none⟩ = some (.int .i64 m.p) ∧ w.cell? ⟨b, 1, none⟩ = some (.int .i64 m.q) ∧ w.cell? ⟨b, 2, none⟩ = some (.slice m.B m.word.length m.d)
theorem NowAt.below {w w' : World} {b : Nat} {m : Pr} (h : NowAt w b m) (hb : Below w.heap.size w w') : NowAt w' b m := ⟨bcell hb h.1, bcell hb h.2.1, bcell hb h.2.2⟩
set_option maxHeartbeats 1000000 in
set_option maxRecDepth 100000 in
theorem differ_c {A A' B B' : Option Addr} {c c' d d' : Nat} {ma mb : List Mp} {la lb : List Int} {fa fb : Int} {w : World} (h : SeeMaps w A ma) (hn : ma.length ≤ 2097152) (hA : NilOk A c) (h' : SeeInts w A' la) (hn' : la.length ≤ 2097152) (k : SeeMaps w B mb) (kn : mb.length ≤ 2097152) (kA : NilOk B d) (k' : SeeInts w B' lb) (kn' : lb.length ≤ 2097152) :
    Calls Try.prog 74 #[.agg #[.slice A ma.length c, .int .i64 fa, .slice A' la.length c'], .agg #[.slice B mb.length d, .int .i64 fb, .slice B' lb.length d']] w (WPost (differR ma fa la mb fb lb) w) := by
  have k0 : Below w.heap.size w ((w.alloc (Obj.cells #[Value.slice A ma.length c, .int .i64 fa, Value.slice A' la.length c'] 30)).alloc (Obj.cells #[Value.slice B mb.length d, .int .i64 fb, Value.slice B' lb.length d'] 30)) := by go_grown
  have ata : AccAt ((w.alloc (Obj.cells #[Value.slice A ma.length c, .int .i64 fa, Value.slice A' la.length c'] 30)).alloc (Obj.cells #[Value.slice B mb.length d, .int .i64 fb, Value.slice B' lb.length d'] 30)) w.heap.size A A' c c' ma fa la := (AccAt.new h h' _).below (kbelow _ _)
  have atb : AccAt ((w.alloc (Obj.cells #[Value.slice A ma.length c, .int .i64 fa, Value.slice A' la.length c'] 30)).alloc (Obj.cells #[Value.slice B mb.length d, .int .i64 fb, Value.slice B' lb.length d'] 30)) (w.heap.size + 1) B B' d d' mb fb lb := by
    have := AccAt.new (w := w.alloc (Obj.cells #[Value.slice A ma.length c, .int .i64 fa, Value.slice A' la.length c'] 30)) (c := d) (c' := d') (f := fb) (k.below (kbelow _ _)) (k'.below (kbelow _ _)) 30
    simpa using this
  obtain ⟨qa0, qa1, qa2, _, _⟩ := ata
  cases hacc : accB ma fa la
  · have e1 : differR ma fa la mb fb lb = ([], 1) := by simp [differR, hacc]
    rw [e1]
    clear e1
    go_enter Try.func74, Try.ntmps74
    go_wp2_with fail
    refine (valB (IsAcceptor_c _ _ _ _ ma fa la _ (h.below k0) hn hA (h'.below k0) hn') hacc).mono ?_
    rintro e w2 ⟨rfl, hb2⟩
    go_wp2
    go_returns
    exact WPost.nil (btrans k0 hb2)
  · cases hbcc : accB mb fb lb
    · have e1 : differR ma fa la mb fb lb = ([], 1) := by simp [differR, hbcc]
      rw [e1]
      clear e1
      go_enter Try.func74, Try.ntmps74
      go_wp2_with fail
      refine (valB (IsAcceptor_c _ _ _ _ ma fa la _ (h.below k0) hn hA (h'.below k0) hn') hacc).mono ?_
      rintro e w2 ⟨rfl, hb2⟩
      have hk2 := btrans k0 hb2
      obtain ⟨q0, q1, q2, _, _⟩ := atb.below hb2
      go_wp2_with fail
      refine (valB (IsAcceptor_c _ _ _ _ mb fb lb _ (k.below hk2) kn kA (k'.below hk2) kn') hbcc).mono ?_
      rintro e w3 ⟨rfl, hb3⟩
      go_wp2
      go_returns
      exact WPost.nil (btrans hk2 hb3)
    · by_cases hlen : ma.length = mb.length
      · have e1 : differR ma fa la mb fb lb = fw (stP ma mb) ma.length (fa, fb) (isP la lb) := by unfold differR; rw [if_pos ⟨hacc, hbcc⟩, if_pos hlen]
        rw [e1]
        have RA := RightA.of hacc
        have RB := RightA.of hbcc
        generalize (ma.headD Mp.z).p = na at *
        generalize (mb.headD Mp.z).p = nb at *
        obtain ⟨r, hr⟩ : ∃ r, r = fw (stP ma mb) ma.length (fa, fb) (isP la lb) := ⟨_, rfl⟩
        rw [← hr]
        have HR := Lib.hid hr
        have hln : ((ma.length : Int) != (mb.length : Int)) = false := by simp [hlen]
        have HLEN := Lib.hid hlen
        have ata : AccAt _ _ _ _ _ _ _ _ _ := AccAt.mk qa0 qa1 qa2 (h.below k0) (h'.below k0)
        have IA := Lib.hid (IsAcceptor_c A A' c c' ma fa la _ (h.below k0) hn hA (h'.below k0) hn')
        have HK := Lib.hid k
        have HK' := Lib.hid k'
        have ATA := Lib.hid ata
        have ATB := Lib.hid atb
        clear hr e1 h h' k k' hlen ata atb
        go_enter Try.func74, Try.ntmps74
        go_wp2_with fail
        refine (valB IA.out hacc).mono ?_
        rintro e w2 ⟨rfl, hb2⟩
        have hk2 := btrans k0 hb2
        obtain ⟨q0, q1, q2, _, _⟩ := ATB.out.below hb2
        clear qa0 qa1 qa2
        go_wp2_with fail
        refine (valB (IsAcceptor_c _ _ _ _ mb fb lb _ (HK.out.below hk2) kn kA (HK'.out.below hk2) kn') hbcc).mono ?_
        rintro e w3 ⟨rfl, hb3⟩
        have hk3 := btrans hk2 hb3
        have ata := ATA.out.below (btrans hb2 hb3)
        have atb := ATB.out.below (btrans hb2 hb3)
        obtain ⟨r0, r1, r2, _, _⟩ := ata
        obtain ⟨s0, s1, s2, _, _⟩ := atb
        clear q0 q1 q2
        go_wp2
        have hU : Univ (stP ma mb) ma.length (fa, fb) ((ptsU na).flatMap fun x => (ptsU nb).map fun y => (x, y)) := univP RA.list RB.list HLEN.out RA.f0 RA.f1 RB.f0 RB.f1
        have HU := Lib.hid hU
        have PA := Lib.hid RA.pts
        have PB := Lib.hid RB.pts
        have HRA := Lib.hid RA
        have HRB := Lib.hid RB
        have six := RA.list.six
        have nab := RA.list.bounds
        have nbb := RB.list.bounds
        clear hU RA RB
        generalize w.heap.size + 1 = bb at *
        have own0 := OwnPrs.one w3 w3.heap.size (Nat.le_refl _) ⟨fa, fb, none, 0, []⟩
        go_loopw [7, 6] (fun i q wr => ∃ (k : Nat) (qs : List Pr), i = .int .i64 k ∧ k ≤ qs.length ∧ OwnPrs wr w3.heap.size q qs ∧ Hid (PrEl wr w3.heap.size qs) ∧ Hid (qs.map Pr.pw = gb (stP ma mb) ma.length (fa, fb) k) ∧ Hid (∀ i m, i < k → (gb (stP ma mb) ma.length (fa, fb) i)[i]? = some m → isP la lb m.1 = false) ∧ Below w3.heap.size w3 wr) (fun i _ _ => 1001 - (intOf i).toNat)
        case atStart => exact ⟨0, [⟨fa, fb, none, 0, []⟩], rfl, Nat.zero_le _, own0, fun m hm => by rw [List.mem_singleton.1 hm]; exact OwnInts.nil _ _, rfl, fun i m h _ => absurd h (Nat.not_lt_zero _), kbelow _ _⟩
        case round =>
          clear own0
          obtain ⟨k, qs, rfl, hk, own, hel, hq, hno, hb⟩ := hrel
          have hle := gb_length HU.out k
          have hlq : qs.length = (gb (stP ma mb) ma.length (fa, fb) k).length := by rw [← hq.out, List.length_map]
          rw [← hlq] at hle
          have HLQ := Lib.hid hlq
          clear hlq
          obtain ⟨Aq, cq, rfl, hsee⟩ := own.see
          by_cases hlt : k < qs.length
          · obtain ⟨bq, oq, m, rfl, hm, m0, m1, m2⟩ := hsee.at_ hlt
            have hn : (gb (stP ma mb) ma.length (fa, fb) k)[k]? = some m.pw := by rw [← hq.out, List.getElem?_map, hm]; rfl
            have HN := Lib.hid hn
            have HMM := Lib.hid hm
            obtain ⟨⟨u0, u1⟩, v0, v1⟩ := pair_in HRA.out.list HRB.out.list HLEN.out HRA.out.f0 HRA.out.f1 HRB.out.f0 HRB.out.f1 (List.mem_of_getElem? hn)
            replace u0 : 0 ≤ m.p := u0
            replace u1 : m.p < na := u1
            replace v0 : 0 ≤ m.q := v0
            replace v1 : m.q < nb := v1
            have l0 : (0 : Int) ≤ k := by omega
            have l1 : (k : Int) < qs.length := by omega
            have k1000 : k < 1000 := by omega
            have hmw := hel.out m (List.mem_of_getElem? hm)
            unfold Pr.w at hmw
            obtain ⟨bu, hbu⟩ : ∃ bu, decide (m.p ∈ la) = bu := ⟨_, rfl⟩
            obtain ⟨bv, hbv⟩ : ∃ bv, decide (m.q ∈ lb) = bv := ⟨_, rfl⟩
            have HIS := Lib.hid (show isP la lb m.pw.1 = (bu != bv) by unfold isP; rw [← hbu, ← hbv]; rfl)
            have HBU := Lib.hid hbu
            have HBV := Lib.hid hbv
            clear hn hm hsee hbu hbv
            have hbx : Below wr.heap.size wr (wr.alloc (.cells #[.int .i64 m.p, .int .i64 m.q, .slice m.B m.word.length m.d] 113)) := by go_grown
            have hb3x := btrans hb hbx
            have CA := bwcell (bcell hb3x r2)
            have CB := bwcell (bcell hb3x s2)
            have SA := ((ATA.out.sl.below (btrans hb2 hb3)).below hb3x).bw
            have SB := ((ATB.out.sl.below (btrans hb2 hb3)).below hb3x).bw
            have X0 := bwcell (show (wr.alloc (.cells #[.int .i64 m.p, .int .i64 m.q, .slice m.B m.word.length m.d] 113)).cell? ⟨wr.heap.size, 0, none⟩ = some (.int .i64 m.p) by simp [go_sem])
            have X1 := bwcell (show (wr.alloc (.cells #[.int .i64 m.p, .int .i64 m.q, .slice m.B m.word.length m.d] 113)).cell? ⟨wr.heap.size, 1, none⟩ = some (.int .i64 m.q) by simp [go_sem])
            have x2 : (wr.alloc (.cells #[.int .i64 m.p, .int .i64 m.q, .slice m.B m.word.length m.d] 113)).cell? ⟨wr.heap.size, 2, none⟩ = some (.slice m.B m.word.length m.d) := by simp [go_sem]
            by_cases hne : bv = bu
            · subst hne
              go_wp2
              refine wp_region_bw (by kernel_rfl) (by kernel_rfl) ?_
              repeat go_big_quiet_step ((first | (go_at_call_of 67 (Value.pointer (some ⟨w.heap.size, 0, none⟩)); exact Calls.bw _ (valB (isLast_c w.heap.size A' c' la _ _ (CA _) (SA _) hn') HBU.out)) | (go_at_call_of 67 (Value.pointer (some ⟨bb, 0, none⟩)); exact Calls.bw _ (valB (isLast_c bb B' d' lb _ _ (CB _) (SB _) kn') HBV.out))))
              refine wpQuiet_nil ?_
              rintro w4 ⟨⟨w4x, hb4⟩, rfl⟩
              have nb0 : isP la lb m.pw.1 = false := by rw [HIS.out]; simp
              have NB0 := Lib.hid nb0
              have hgq : gb (stP ma mb) ma.length (fa, fb) (k + 1) = gTo (stP ma mb) m.pw (gb (stP ma mb) ma.length (fa, fb) k) ma.length := gb_succ HN.out
              have HGQ := Lib.hid hgq
              have now4 : NowAt w4 wr.heap.size m := NowAt.below (w := wr.alloc (.cells #[.int .i64 m.p, .int .i64 m.q, .slice m.B m.word.length m.d] 113)) ⟨by simp [go_sem], by simp [go_sem], x2⟩ hb4
              have own4 := (own.below hbx).below hb4
              have el4 : Hid (PrEl w4 w3.heap.size qs) := Lib.hid ((hel.out.below hbx).below hb4)
              have hb34 := btrans hb3x hb4
              have hnq : (Value.slice (some ⟨bq, oq, none⟩) qs.length cq).ownBlock ≠ some wr.heap.size := fun e => by have := (own.lt _ e).2; omega
              have q40 := bcell hb34 r0
              generalize hbw : wr.heap.size = bw at *
              clear CA CB SA SB X0 X1 nb0 hgq own hel hb hmw x2 hb3x hbx hb4 hbw
              go_wp2
              go_loopw [57, 6] (fun i q wr => ∃ (j : Nat) (qs : List Pr), i = .int .i64 j ∧ j ≤ ma.length ∧ OwnPrs wr w3.heap.size q qs ∧ Hid (PrEl wr w3.heap.size qs) ∧ Hid (qs.map Pr.pw = gTo (stP ma mb) m.pw (gb (stP ma mb) ma.length (fa, fb) k) j) ∧ NowAt wr bw m ∧ q.ownBlock ≠ some bw ∧ Hid (qs[k]? = some m) ∧ Below w3.heap.size w3 wr) (fun i _ _ => ma.length - (intOf i).toNat)
              case atStart => exact ⟨0, qs, rfl, Nat.zero_le _, own4, el4, hq, now4, hnq, HMM, hb34⟩
              case round =>
                clear own4 el4 now4 hnq hb34 q40
                obtain ⟨j, qs, rfl, hj, own, hel, hqj, now, hnq, hmk, hb⟩ := hrel
                obtain ⟨Aq, cq, rfl, hsee⟩ := own.see
                by_cases hlj : j < ma.length
                · obtain ⟨ba1, oa1, f, ea1, hf, gf⟩ := ((ATA.out.sm.below (btrans hb2 hb3)).below hb).at_ hlj
                  obtain ⟨bb1, ob1, g, eb1, hg, gg⟩ := ((ATB.out.sm.below (btrans hb2 hb3)).below hb).at_ (k := j) (by rw [← HLEN.out]; exact hlj)
                  subst ea1
                  subst eb1
                  have hfn : MpN f na := HRA.out.list.all f (List.mem_of_getElem? hf)
                  have hgn : MpN g nb := HRB.out.list.all g (List.mem_of_getElem? hg)
                  have tf := gf.to (i := m.p.toNat) (by omega)
                  have tg := gg.to (i := m.q.toNat) (by omega)
                  have ef : f.to m.p.toNat = f.at m.p := rfl
                  have eg : g.to m.q.toNat = g.at m.q := rfl
                  rw [ef] at tf
                  rw [eg] at tg
                  have hst : stP ma mb j m.pw.1 = (f.at m.p, g.at m.q) := by
                    unfold stP
                    rw [List.getD_eq_getElem?_getD, List.getD_eq_getElem?_getD, hf, hg]
                    rfl
                  generalize f.at m.p = x at *
                  generalize g.at m.q = y at *
                  have HST := Lib.hid hst
                  have u5 : m.p < 5 := by omega
                  have v5 : m.q < 5 := by omega
                  have lj0 : (0 : Int) ≤ j := by omega
                  have lj1 : (j : Int) < ma.length := by omega
                  have lj2 : (j : Int) < mb.length := by rw [← HLEN.out]; exact lj1
                  have r0' := bcell hb r0
                  have s0' := bcell hb s0
                  clear ef eg hst hf hg gf gg hfn hgn hsee
                  go_upto_region 15 with fail
                  go_cut [10, 11] from 58 to 94 (fun p10 p11 wx => ∃ b10 b11 : Nat, p10 = .pointer (some ⟨b10, 0, none⟩) ∧ p11 = .pointer (some ⟨b11, 0, none⟩) ∧ b10 ≠ b11 ∧ VBox wx b10 (.int .i64 x) ∧ VBox wx b11 (.int .i64 y) ∧ Below wr.heap.size wr wx)
                  case first =>
                    refine wp_region_headS 21 (fun w' => w'.cell? ⟨w.heap.size, 0, none⟩ = some (.slice (some ⟨ba1, oa1, none⟩) ma.length c) ∧ w'.cell? ⟨bb, 0, none⟩ = some (.slice (some ⟨bb1, ob1, none⟩) mb.length d) ∧ w'.cell? ⟨ba1, oa1 + j * 6 + 1 + m.p.toNat, none⟩ = some (.int .i64 x) ∧ w'.cell? ⟨bb1, ob1 + j * 6 + 1 + m.q.toNat, none⟩ = some (.int .i64 y) ∧ w'.cell? ⟨bw, 0, none⟩ = some (.int .i64 m.p) ∧ w'.cell? ⟨bw, 1, none⟩ = some (.int .i64 m.q)) (by kernel_rfl) (by kernel_rfl) ⟨r0', s0', tf, tg, now.1, now.2.1⟩ (fun hHeld => ?_)
                    simp only [List.drop]
                    refine headH_takeS (i := 0) (v := ?_) 60 rfl (by kernel_rfl) (by kernel_rfl) (fun _ _ _ h => h) (Or.inl ⟨by rfl, ?_⟩) hHeld ?_
                    rotate_left
                    · intro w hSw
                      (try dsimp only at hSw)
                      go_simp
                      try with_reducible rfl
                    try simp only [Act.put, List.setIfInBounds_toArray, List.set_cons_zero, List.set_cons_succ]
                    refine headH_takeS (i := 1) (v := ?_) 61 rfl (by kernel_rfl) (by kernel_rfl) (fun _ _ _ h => h) (Or.inl ⟨by rfl, ?_⟩) hHeld ?_
                    rotate_left
                    · intro w hSw
                      (try dsimp only at hSw)
                      go_simp
                      try with_reducible rfl
                    try simp only [Act.put, List.setIfInBounds_toArray, List.set_cons_zero, List.set_cons_succ]
                    refine headH_takeS (i := 2) (v := ?_) 62 rfl (by kernel_rfl) (by kernel_rfl) (fun _ _ _ h => h) (Or.inl ⟨by rfl, ?_⟩) hHeld ?_
                    rotate_left
                    · intro w hSw
                      (try dsimp only at hSw)
                      go_simp
                      try with_reducible rfl
                    try simp only [Act.put, List.setIfInBounds_toArray, List.set_cons_zero, List.set_cons_succ]
                    refine headH_takeS (i := 3) (v := ?_) 63 rfl (by kernel_rfl) (by kernel_rfl) (fun _ _ _ h => h) (Or.inl ⟨by rfl, ?_⟩) hHeld ?_
                    rotate_left
                    · intro w hSw
                      (try dsimp only at hSw)
                      go_simp
                      try with_reducible rfl
                    try simp only [Act.put, List.setIfInBounds_toArray, List.set_cons_zero, List.set_cons_succ]
                    refine headH_takeS (i := 4) (v := ?_) 64 rfl (by kernel_rfl) (by kernel_rfl) (fun _ _ _ h => h) (Or.inl ⟨by rfl, ?_⟩) hHeld ?_
                    rotate_left
                    · intro w hSw
                      (try dsimp only at hSw)
                      go_simp
                      try with_reducible rfl
                    try simp only [Act.put, List.setIfInBounds_toArray, List.set_cons_zero, List.set_cons_succ]
                    refine headH_takeS (i := 5) (v := ?_) 65 rfl (by kernel_rfl) (by kernel_rfl) (fun _ _ _ h => h) (Or.inl ⟨by rfl, ?_⟩) hHeld ?_
                    rotate_left
                    · intro w hSw
                      (try dsimp only at hSw)
                      go_simp
                      try with_reducible rfl
                    try simp only [Act.put, List.setIfInBounds_toArray, List.set_cons_zero, List.set_cons_succ]
                    refine headH_takeS (i := 6) (v := ?_) 66 rfl (by kernel_rfl) (by kernel_rfl) (fun _ _ _ h => h) (Or.inl ⟨by rfl, ?_⟩) hHeld ?_
                    rotate_left
                    · intro w hSw
                      (try dsimp only at hSw)
                      go_simp
                      try with_reducible rfl
                    try simp only [Act.put, List.setIfInBounds_toArray, List.set_cons_zero, List.set_cons_succ]
                    refine headH_takeS (i := 7) (v := ?_) 67 rfl (by kernel_rfl) (by kernel_rfl) (fun _ _ _ h => h) (Or.inl ⟨by rfl, ?_⟩) hHeld ?_
                    rotate_left
                    · intro w hSw
                      (try dsimp only at hSw)
                      go_simp
                      try with_reducible rfl
                    try simp only [Act.put, List.setIfInBounds_toArray, List.set_cons_zero, List.set_cons_succ]
                    refine headH_takeS (i := 8) (v := ?_) 68 rfl (by kernel_rfl) (by kernel_rfl) (fun _ _ _ h => h) (Or.inl ⟨by rfl, ?_⟩) hHeld ?_
                    rotate_left
                    · intro w hSw
                      (try dsimp only at hSw)
                      go_simp
                      try with_reducible rfl
                    try simp only [Act.put, List.setIfInBounds_toArray, List.set_cons_zero, List.set_cons_succ]
                    refine headH_takeS (i := 9) (v := ?_) 69 rfl (by kernel_rfl) (by kernel_rfl) (fun _ _ _ h => h) (Or.inl ⟨by rfl, ?_⟩) hHeld ?_
                    rotate_left
                    · intro w hSw
                      (try dsimp only at hSw)
                      go_simp
                      try with_reducible rfl
                    try simp only [Act.put, List.setIfInBounds_toArray, List.set_cons_zero, List.set_cons_succ]
                    refine headH_takeS (i := 10) (v := ?_) 70 rfl (by kernel_rfl) (by kernel_rfl) (fun _ _ _ h => h) (Or.inl ⟨by rfl, ?_⟩) hHeld ?_
                    rotate_left
                    · intro w hSw
                      (try dsimp only at hSw)
                      go_simp
                      try with_reducible rfl
                    try simp only [Act.put, List.setIfInBounds_toArray, List.set_cons_zero, List.set_cons_succ]
                    refine headH_takeS (i := 11) (v := ?_) 71 rfl (by kernel_rfl) (by kernel_rfl) (fun _ _ _ h => h) (Or.inl ⟨by rfl, ?_⟩) hHeld ?_
                    rotate_left
                    · intro w hSw
                      (try dsimp only at hSw)
                      go_simp
                      try with_reducible rfl
                    try simp only [Act.put, List.setIfInBounds_toArray, List.set_cons_zero, List.set_cons_succ]
                    refine headH_takeS (i := 12) (v := ?_) 72 rfl (by kernel_rfl) (by kernel_rfl) (fun _ _ _ h => h) (Or.inl ⟨by rfl, ?_⟩) hHeld ?_
                    rotate_left
                    · intro w hSw
                      (try dsimp only at hSw)
                      go_simp
                      try with_reducible rfl
                    try simp only [Act.put, List.setIfInBounds_toArray, List.set_cons_zero, List.set_cons_succ]
                    refine headH_takeS (i := 13) (v := ?_) 73 rfl (by kernel_rfl) (by kernel_rfl) (fun _ _ _ h => h) (Or.inl ⟨by rfl, ?_⟩) hHeld ?_
                    rotate_left
                    · intro w hSw
                      (try dsimp only at hSw)
                      go_simp
                      try with_reducible rfl
                    try simp only [Act.put, List.setIfInBounds_toArray, List.set_cons_zero, List.set_cons_succ]
                    refine headH_takeS (i := 14) (v := ?_) 74 rfl (by kernel_rfl) (by kernel_rfl) (fun _ _ _ h => h) (Or.inl ⟨by rfl, ?_⟩) hHeld ?_
                    rotate_left
                    · intro w hSw
                      (try dsimp only at hSw)
                      go_simp
                      try with_reducible rfl
                    try simp only [Act.put, List.setIfInBounds_toArray, List.set_cons_zero, List.set_cons_succ]
                    refine headH_takeS (i := 15) (v := ?_) 75 rfl (by kernel_rfl) (by kernel_rfl) (fun _ _ _ h => h) (Or.inl ⟨by rfl, ?_⟩) hHeld ?_
                    rotate_left
                    · intro w hSw
                      (try dsimp only at hSw)
                      go_simp
                      try with_reducible rfl
                    try simp only [Act.put, List.setIfInBounds_toArray, List.set_cons_zero, List.set_cons_succ]
                    refine headH_takeS (i := 16) (v := ?_) 76 rfl (by kernel_rfl) (by kernel_rfl) (fun _ _ _ h => h) (Or.inl ⟨by rfl, ?_⟩) hHeld ?_
                    rotate_left
                    · intro w hSw
                      (try dsimp only at hSw)
                      go_simp
                      try with_reducible rfl
                    try simp only [Act.put, List.setIfInBounds_toArray, List.set_cons_zero, List.set_cons_succ]
                    refine headH_takeS (i := 17) (v := ?_) 77 rfl (by kernel_rfl) (by kernel_rfl) (fun _ _ _ h => h) (Or.inl ⟨by rfl, ?_⟩) hHeld ?_
                    rotate_left
                    · intro w hSw
                      (try dsimp only at hSw)
                      go_simp
                      try with_reducible rfl
                    try simp only [Act.put, List.setIfInBounds_toArray, List.set_cons_zero, List.set_cons_succ]
                    refine headH_all (rs := [18, 19]) (by kernel_rfl) (by kernel_rfl) (headH_cons rfl (fun K hK => ?_) (headH_cons rfl (fun K hK => ?_) headH_nil))
                    · go_simp
                      refine hK.out _ _ ⟨acell hHeld.1 _, acell hHeld.2.1 _, acell hHeld.2.2.1 _, acell hHeld.2.2.2.1 _, acell hHeld.2.2.2.2.1 _, acell hHeld.2.2.2.2.2 _⟩ (fun hHeldn => ?_)
                      clear hK K hHeld
                      have hHeld := hHeldn
                      clear hHeldn
                      try simp only [Act.put, List.setIfInBounds_toArray, List.set_cons_zero, List.set_cons_succ]
                      refine headH_all (rs := [19]) (by kernel_rfl) (by kernel_rfl) (headH_cons rfl (fun K hK => ?_) headH_nil)
                      · go_simp
                        refine hK.out _ _ ⟨acell hHeld.1 _, acell hHeld.2.1 _, acell hHeld.2.2.1 _, acell hHeld.2.2.2.1 _, acell hHeld.2.2.2.2.1 _, acell hHeld.2.2.2.2.2 _⟩ (fun hHeldn => ?_)
                        clear hK K hHeld
                        have hHeld := hHeldn
                        clear hHeldn
                        try simp only [Act.put, List.setIfInBounds_toArray, List.set_cons_zero, List.set_cons_succ]
                        refine headH_all (rs := [20]) (by kernel_rfl) (by kernel_rfl) (headH_cons rfl (fun K hK => ?_) headH_nil)
                        go_simp
                        refine hK.out _ _ ⟨bcell (by go_grown) r0', bcell (by go_grown) s0', bcell (by go_grown) tf, bcell (by go_grown) tg, bcell (by go_grown) now.1, bcell (by go_grown) now.2.1⟩ (fun hHeldn => ?_)
                        clear hK K hHeld
                        have hHeld := hHeldn
                        clear hHeldn
                        try simp only [Act.put, List.setIfInBounds_toArray, List.set_cons_zero, List.set_cons_succ]
                        refine headH_tail (by kernel_rfl) ?_
                        clear hHeld
                        go_wp2
                        go_meet
                        exact ⟨_, _, rfl, rfl, by omega, (VBox.new (w := wr) _ 2 rfl).keep _, VBox.new _ 2 (by simp), by go_grown⟩
                    · go_simp
                      refine hK.out _ _ ⟨acell hHeld.1 _, acell hHeld.2.1 _, acell hHeld.2.2.1 _, acell hHeld.2.2.2.1 _, acell hHeld.2.2.2.2.1 _, acell hHeld.2.2.2.2.2 _⟩ (fun hHeldn => ?_)
                      clear hK K hHeld
                      have hHeld := hHeldn
                      clear hHeldn
                      try simp only [Act.put, List.setIfInBounds_toArray, List.set_cons_zero, List.set_cons_succ]
                      refine headH_all (rs := [18]) (by kernel_rfl) (by kernel_rfl) (headH_cons rfl (fun K hK => ?_) headH_nil)
                      go_simp
                      refine hK.out _ _ ⟨acell hHeld.1 _, acell hHeld.2.1 _, acell hHeld.2.2.1 _, acell hHeld.2.2.2.1 _, acell hHeld.2.2.2.2.1 _, acell hHeld.2.2.2.2.2 _⟩ (fun hHeldn => ?_)
                      clear hK K hHeld
                      have hHeld := hHeldn
                      clear hHeldn
                      try simp only [Act.put, List.setIfInBounds_toArray, List.set_cons_zero, List.set_cons_succ]
                      refine headH_all (rs := [20]) (by kernel_rfl) (by kernel_rfl) (headH_cons rfl (fun K hK => ?_) headH_nil)
                      go_simp
                      refine hK.out _ _ ⟨bcell (by go_grown) r0', bcell (by go_grown) s0', bcell (by go_grown) tf, bcell (by go_grown) tg, bcell (by go_grown) now.1, bcell (by go_grown) now.2.1⟩ (fun hHeldn => ?_)
                      clear hK K hHeld
                      have hHeld := hHeldn
                      clear hHeldn
                      try simp only [Act.put, List.setIfInBounds_toArray, List.set_cons_zero, List.set_cons_succ]
                      refine headH_tail (by kernel_rfl) ?_
                      clear hHeld
                      go_wp2
                      go_meet
                      exact ⟨_, _, rfl, rfl, by omega, VBox.new _ 2 (by simp), (VBox.new (w := wr) _ 2 rfl).keep _, by go_grown⟩
                  case rest =>
                    obtain ⟨b10, b11, rfl, rfl, hne2, x10, y11, hbc⟩ := hcut
                    have own5 := own.below hbc
                    have el5 : Hid (PrEl wc w3.heap.size qs) := Lib.hid (hel.out.below hbc)
                    have now5 := now.below hbc
                    have hb5 := btrans hb hbc
                    have hlq5 : qs.length ≤ 1000 := by
                      have h1 := congrArg List.length hqj.out
                      rw [List.length_map] at h1
                      have hql := FineG.length (gTo_fine (st := stP ma mb) (now := m.pw) (gb_fine HU.out k) j (fun i hi => HU.out.step i (by omega) _ ((gb_fine HU.out k).mem m.pw (List.mem_of_getElem? HN.out))))
                      have hul := HU.out.len
                      rw [h1]
                      exact Nat.le_trans hql hul
                    obtain ⟨Aq5, cq5, e5, hsee5⟩ := own5.see
                    simp only [Value.slice.injEq] at e5
                    obtain ⟨rfl, -, rfl⟩ := e5
                    have hcf := ContainsFuncPr_c 112 #[.pointer (some ⟨b10, 0, none⟩), .pointer (some ⟨b11, 0, none⟩)] _ (enters_of Try.func112 (by kernel_rfl) rfl) Aq cq qs wc hsee5 (by omega) (differ1_p b10 b11 x y qs wc x10.cell y11.cell)
                    have HCF := Lib.hid hcf
                    clear hcf hsee5 own hel now hb r0' s0' tf tg
                    go_wp2_with fail
                    refine HCF.out.mono ?_
                    rintro e w6 ⟨rfl, hb6⟩
                    have own6 := own5.below hb6
                    have el6 : Hid (PrEl w6 w3.heap.size qs) := Lib.hid (el5.out.below hb6)
                    have now6 := now5.below hb6
                    have hb36 := btrans hb5 hb6
                    have x16 := x10.below hb6
                    have y16 := y11.below hb6
                    have hany : (gTo (stP ma mb) m.pw (gb (stP ma mb) ma.length (fa, fb) k) j).any (fun e => decide (e.1 = (x, y))) = qs.any (fun e => decide ((e.p, e.q) = (x, y))) := by
                      rw [← hqj.out, List.any_map]
                      rfl
                    have HANY := Lib.hid hany
                    clear hany own5 el5 now5 hb5 x10 y11 HCF
                    cases hin : qs.any (fun e => decide ((e.p, e.q) = (x, y)))
                    · have HIN := Lib.hid hin
                      clear hin
                      have hmw6 := el6.out m (List.mem_of_getElem? hmk.out)
                      unfold Pr.w at hmw6
                      have hwl : m.word.length ≤ 1000 := by
                        have h1 := gb_words (st := stP ma mb) (L := ma.length) (start := (fa, fb)) k m.pw (List.mem_of_getElem? HN.out)
                        show m.pw.2.length ≤ 1000
                        omega
                      have cx := x16.cell
                      have cy := y16.cell
                      have cw := now6.2.2
                      have z36 := hb36.size
                      go_wp2
                      refine wp_region_headS 11 (fun w' => w'.cell? ⟨b10, 0, none⟩ = some (.int .i64 x) ∧ w'.cell? ⟨b11, 0, none⟩ = some (.int .i64 y) ∧ w'.cell? ⟨bw, 2, none⟩ = some (.slice m.B m.word.length m.d)) (by kernel_rfl) (by kernel_rfl) ⟨cx, cy, cw⟩ (fun hHeld => ?_)
                      simp only [List.drop]
                      refine headH_takeS (i := 0) (v := ?_) 82 rfl (by kernel_rfl) (by kernel_rfl) (fun _ _ _ h => h) (Or.inl ⟨by rfl, ?_⟩) hHeld ?_
                      rotate_left
                      · intro w hSw
                        (try dsimp only at hSw)
                        go_simp
                        try with_reducible rfl
                      try simp only [Act.put, List.setIfInBounds_toArray, List.set_cons_zero, List.set_cons_succ]
                      refine headH_takeS (i := 1) (v := ?_) 83 rfl (by kernel_rfl) (by kernel_rfl) (fun _ _ _ h => h) (Or.inl ⟨by rfl, ?_⟩) hHeld ?_
                      rotate_left
                      · intro w hSw
                        (try dsimp only at hSw)
                        go_simp
                        try with_reducible rfl
                      try simp only [Act.put, List.setIfInBounds_toArray, List.set_cons_zero, List.set_cons_succ]
                      refine headH_takeS (i := 2) (v := ?_) 84 rfl (by kernel_rfl) (by kernel_rfl) (fun _ _ _ h => h) (Or.inl ⟨by rfl, ?_⟩) hHeld ?_
                      rotate_left
                      · intro w hSw
                        (try dsimp only at hSw)
                        go_simp
                        try with_reducible rfl
                      try simp only [Act.put, List.setIfInBounds_toArray, List.set_cons_zero, List.set_cons_succ]
                      refine headH_takeS (i := 3) (v := ?_) 85 rfl (by kernel_rfl) (by kernel_rfl) (fun _ _ _ h => h) (Or.inl ⟨by rfl, ?_⟩) hHeld ?_
                      rotate_left
                      · intro w hSw
                        (try dsimp only at hSw)
                        go_simp
                        try with_reducible rfl
                      try simp only [Act.put, List.setIfInBounds_toArray, List.set_cons_zero, List.set_cons_succ]
                      refine headH_takeS (i := 4) (v := ?_) 86 rfl (by kernel_rfl) (by kernel_rfl) (fun _ _ _ h => h) (Or.inl ⟨by rfl, ?_⟩) hHeld ?_
                      rotate_left
                      · intro w hSw
                        (try dsimp only at hSw)
                        go_simp
                        try with_reducible rfl
                      try simp only [Act.put, List.setIfInBounds_toArray, List.set_cons_zero, List.set_cons_succ]
                      refine headH_takeS (i := 6) (v := ?_) 88 rfl (by kernel_rfl) (by kernel_rfl) (fun _ _ _ h => h) (Or.inl ⟨by rfl, ?_⟩) hHeld ?_
                      rotate_left
                      · intro w hSw
                        (try dsimp only at hSw)
                        go_simp
                        try with_reducible rfl
                      try simp only [Act.put, List.setIfInBounds_toArray, List.set_cons_zero, List.set_cons_succ]
                      refine headH_all (rs := [5, 7]) (by kernel_rfl) (by kernel_rfl) (headH_cons rfl (fun K hK => ?_) (headH_cons rfl (fun K hK => ?_) headH_nil))
                      go_simp
                      go_at_call 113
                      refine (CloneI_c m.B m.d m.word _ (hmw6.see'.below (bdr (Below.refl _ _))) hmw6.nilok (by omega)).mono ?_
                      rintro e w7 ⟨v7, rfl, hown7, hb7⟩
                      obtain ⟨A7, c7, rfl, _⟩ := hown7.see
                      try go_simp
                      replace hb7 := bdr hb7
                      refine hK.out _ _ ⟨bcell hb7 cx, bcell hb7 cy, bcell hb7 cw⟩ (fun hHeldn => ?_)
                      clear hK K hHeld
                      have hHeld := hHeldn
                      clear hHeldn
                      try simp only [Act.put, List.setIfInBounds_toArray, List.set_cons_zero, List.set_cons_succ]
                      refine headH_all (rs := [7]) (by kernel_rfl) (by kernel_rfl) (headH_cons rfl (fun K hK => ?_) headH_nil)
                      go_simp
                      have hbX := btrans hb7 (kbelow w7 (.cells #[.int .i64 (j : Int)] 2))
                      refine hK.out _ _ ⟨bcell hbX cx, bcell hbX cy, bcell hbX cw⟩ (fun hHeldn => ?_)
                      clear hK K hHeld
                      have hHeld := hHeldn
                      clear hHeldn
                      try simp only [Act.put, List.setIfInBounds_toArray, List.set_cons_zero, List.set_cons_succ]
                      have hoX : OwnInts (w7.alloc (.cells #[.int .i64 (j : Int)] 2)) w6.heap.size _ m.word := OwnInts.mono (hown7.below (kbelow w7 (.cells #[.int .i64 (j : Int)] 2))) (by first | exact Nat.le_refl _ | (simp; omega) | simp)
                      have hjX : World.cell? (w7.alloc (.cells #[.int .i64 (j : Int)] 2)) ⟨w7.heap.size, 0, none⟩ = some (.int .i64 (j : Int)) := (by simp [go_sem])
                      rotate_left
                      go_simp
                      have hb4 : Below w6.heap.size w6 (w6.drew.alloc (.cells #[.int .i64 (j : Int)] 2)) := bdr (kbelow _ _)
                      refine hK.out _ _ ⟨bcell hb4 cx, bcell hb4 cy, bcell hb4 cw⟩ (fun hHeldn => ?_)
                      clear hK K hHeld
                      have hHeld := hHeldn
                      clear hHeldn
                      try simp only [Act.put, List.setIfInBounds_toArray, List.set_cons_zero, List.set_cons_succ]
                      refine headH_all (rs := [5]) (by kernel_rfl) (by kernel_rfl) (headH_cons rfl (fun K hK => ?_) headH_nil)
                      go_simp
                      go_at_call 113
                      refine (CloneI_c m.B m.d m.word _ (hmw6.see'.below hb4) hmw6.nilok (by omega)).mono ?_
                      rintro e w7 ⟨v7, rfl, hown7, hb7⟩
                      obtain ⟨A7, c7, rfl, _⟩ := hown7.see
                      try go_simp
                      have hb7a := hb7
                      have hbX := btrans hb4 hb7
                      refine hK.out _ _ ⟨bcell hbX cx, bcell hbX cy, bcell hbX cw⟩ (fun hHeldn => ?_)
                      clear hK K hHeld
                      have hHeld := hHeldn
                      clear hHeldn
                      try simp only [Act.put, List.setIfInBounds_toArray, List.set_cons_zero, List.set_cons_succ]
                      have hoX : OwnInts (w7) w6.heap.size _ m.word := OwnInts.mono hown7 (by first | exact Nat.le_refl _ | (simp; omega) | simp)
                      have hjX : World.cell? (w7) ⟨w6.heap.size, 0, none⟩ = some (.int .i64 (j : Int)) := (bcell hb7a (by simp [go_sem]))
                      all_goals
                        refine headH_all (rs := [8]) (by kernel_rfl) (by kernel_rfl) (headH_cons rfl (fun K hK => ?_) headH_nil)
                        refine step_push_int _ rfl (.tmp 87) (.tmp 89) rfl w6.heap.size _ m.word rfl hoX _ (j : Int) rfl hjX (by omega) hbX.size ?_
                        intro v8 w8 hown8 hgrow8 hv8
                        have hb8 : Below w6.heap.size w6 w8 := Below.grown hbX hgrow8 hbX.size (fun k hk => (hoX.lt k hk).1)
                        obtain ⟨wd, hwd⟩ : ∃ wd, wd = m.word ++ [(j : Int)] := ⟨_, rfl⟩
                        rw [← hwd] at hown8
                        have HWD := Lib.hid hwd
                        clear hwd
                        obtain ⟨A8, c8, rfl, _⟩ := hown8.see
                        refine hK.out _ _ ⟨bcell hb8 cx, bcell hb8 cy, bcell hb8 cw⟩ (fun hHeldn => ?_)
                        clear hK K hHeld
                        have hHeld := hHeldn
                        clear hHeldn
                        try simp only [Act.put, List.setIfInBounds_toArray, List.set_cons_zero, List.set_cons_succ]
                        refine headH_all (rs := [9]) (by kernel_rfl) (by kernel_rfl) (headH_cons rfl (fun K hK => ?_) headH_nil)
                        go_simp
                        refine hK.out _ _ ⟨bcell hb8 cx, bcell hb8 cy, bcell hb8 cw⟩ (fun hHeldn => ?_)
                        clear hK K hHeld
                        have hHeld := hHeldn
                        clear hHeldn
                        try simp only [Act.put, List.setIfInBounds_toArray, List.set_cons_zero, List.set_cons_succ]
                        refine headH_all (rs := [10]) (by kernel_rfl) (by kernel_rfl) (headH_cons rfl (fun K hK => ?_) headH_nil)
                        go_simp
                        have hb9 := btrans hb8 (kbelow w8 (.cells #[.int .i64 x, .int .i64 y, .slice A8 wd.length c8] 113))
                        refine hK.out _ _ ⟨bcell hb9 cx, bcell hb9 cy, bcell hb9 cw⟩ (fun hHeldn => ?_)
                        clear hK K hHeld
                        have hHeld := hHeldn
                        clear hHeldn
                        try simp only [Act.put, List.setIfInBounds_toArray, List.set_cons_zero, List.set_cons_succ]
                        refine headH_tail (by kernel_rfl) ?_
                        clear hHeld
                        refine wpList_push_pr _ rfl (.tmp 82) (.tmp 92) rfl w3.heap.size _ qs rfl (own6.below hb9) _ ⟨x, y, A8, c8, wd⟩ rfl (by simp [go_sem]) (by simp [go_sem]) (by simp [go_sem]) (by omega) (Nat.le_trans z36 hb9.size) ?_
                        intro v11 w11 hown11 hgrow11 hv11
                        go_wp2
                        go_roundw
                        case rel =>
                          have hown9 := hown8.below (kbelow w8 (.cells #[.int .i64 x, .int .i64 y, .slice A8 wd.length c8] 113))
                          have own9 := own6.below hb9
                          have el9 := el6.out.below hb9
                          have hb39 := btrans hb36 hb9
                          refine ⟨j + 1, qs ++ [⟨x, y, A8, c8, wd⟩], by go_num, by omega, hown11, Lib.hid fun m' hm' => ?_, Lib.hid ?_, ⟨cellPush (p := ⟨bw, 0, none⟩) (bcell hb9 now6.1) hgrow11 hnq, cellPush (p := ⟨bw, 1, none⟩) (bcell hb9 now6.2.1) hgrow11 hnq, cellPush (p := ⟨bw, 2, none⟩) (bcell hb9 now6.2.2) hgrow11 hnq⟩, fun e => ?_, Lib.hid ?_, ?_⟩
                          · rcases List.mem_append.1 hm' with hm' | hm'
                            · exact (el9 m' hm').grow hgrow11 (own_ne (el9 m' hm') own9 (by decide))
                            · rw [List.mem_singleton.1 hm']
                              exact (hown9.mono z36).grow hgrow11 (own_ne hown9 own9 (by decide))
                          · show (qs ++ [_]).map Pr.pw = g1 (stP ma mb) m.pw (gTo (stP ma mb) m.pw (gb (stP ma mb) ma.length (fa, fb) k) j) j
                            rw [g1_new (by rw [HST.out]; exact HANY.out.trans HIN.out), List.map_append, hqj.out, HST.out, HWD.out]
                            rfl
                          · rcases hv11 with h1 | h1
                            · exact hnq (h1 ▸ e)
                            · rw [h1] at e
                              have e2 := Option.some.inj e
                              have e3 := hb9.size
                              have e4 := World.block_lt_of_cell? w6 ⟨bw, 2, none⟩ cw
                              simp only at e4
                              omega
                          · exact (List.getElem?_append_left (List.getElem?_eq_some_iff.1 hmk.out).1).trans hmk.out
                          · exact Below.grown hb39 hgrow11 hb39.size (fun k hk => (own9.lt k hk).1)
                        case measure => simp [intOf]; omega
                    · have HIN := Lib.hid (HANY.out.trans hin)
                      clear hin
                      go_wp2
                      go_roundw
                      case rel =>
                        refine ⟨j + 1, qs, by go_num, by omega, own6, el6, Lib.hid ?_, now6, hnq, hmk, hb36⟩
                        show qs.map Pr.pw = g1 (stP ma mb) m.pw (gTo (stP ma mb) m.pw (gb (stP ma mb) ma.length (fa, fb) k) j) j
                        rw [g1_hit (by rw [HST.out]; exact HIN.out)]
                        exact hqj.out
                      case measure => simp [intOf]; omega
                · obtain rfl : j = ma.length := by omega
                  have hlen2 : k + 1 ≤ qs.length := by
                    have h1 := congrArg List.length hqj.out
                    obtain ⟨t, ht⟩ := gTo_prefix (st := stP ma mb) m.pw (gb (stP ma mb) ma.length (fa, fb) k) ma.length
                    rw [List.length_map, ht, List.length_append] at h1
                    have := (List.getElem?_eq_some_iff.1 HN.out).1
                    omega
                  clear hsee
                  go_wp2
                  go_roundw
                  case rel =>
                    refine ⟨k + 1, qs, by go_num, hlen2, own, hel, by rw [HGQ.out]; exact hqj, fun i m' hi hm => ?_, hb⟩
                    rcases Nat.lt_succ_iff_lt_or_eq.1 hi with hi | rfl
                    · exact hno.out i m' hi hm
                    · rw [HN.out] at hm; obtain rfl := Option.some.inj hm; exact NB0.out
                  case measure => simp [intOf]; omega
            · obtain rfl : bv = !bu := by cases bu <;> cases bv <;> simp_all
              clear hne
              have hit : isP la lb m.pw.1 = true := by rw [HIS.out]; simp
              have HIT := Lib.hid hit
              clear hit
              go_wp2
              refine wp_region_bw (by kernel_rfl) (by kernel_rfl) ?_
              repeat go_big_quiet_step ((first | (go_at_call_of 67 (Value.pointer (some ⟨w.heap.size, 0, none⟩)); exact Calls.bw _ (valB (isLast_c w.heap.size A' c' la _ _ (CA _) (SA _) hn') HBU.out)) | (go_at_call_of 67 (Value.pointer (some ⟨bb, 0, none⟩)); exact Calls.bw _ (valB (isLast_c bb B' d' lb _ _ (CB _) (SB _) kn') HBV.out))))
              refine wpQuiet_nil ?_
              rintro w4 ⟨⟨w4x, hb4⟩, rfl⟩
              have x24 := bcell hb4 x2
              clear CA CB SA SB X0 X1
              go_wp2
              go_returns
              have hfw : r = (m.word, 0) := by
                rw [HR.out]
                exact fw_some (gF_find (P := fun m => isP la lb m.1) HU.out HN.out HIT.out fun i m hi hm => hno.out i m hi hm)
              rw [hfw]
              exact ⟨_, rfl, ((hmw.below hbx).below hb4).mono (by have := hk3.size; omega), btrans (btrans hk3 hb3x) hb4⟩
          · have hk' : ¬ (k : Int) < qs.length := by omega
            clear hsee
            go_wp2
            go_returns
            have hn : (gb (stP ma mb) ma.length (fa, fb) k)[k]? = none := List.getElem?_eq_none (by rw [← HLQ.out]; omega)
            have hfw : r = ([], 4) := by
              rw [HR.out]
              refine fw_none (List.find?_eq_none.2 fun m hm => ?_)
              have := gF_ended (P := fun m => isP la lb m.1 = false) HU.out hn (fun i m hi hm => hno.out i m hi hm) m hm
              simp [this]
            rw [hfw]
            exact WPost.nil (btrans hk3 hb)
      · have e1 : differR ma fa la mb fb lb = ([], 5) := by simp [differR, hacc, hbcc, hlen]
        rw [e1]
        have hln : ((ma.length : Int) != (mb.length : Int)) = true := bne_iff_ne.2 (fun e => hlen (by omega))
        have at2 := fun w2 (hb2 : Below _ _ w2) => atb.below hb2
        have at1 := fun w2 (hb2 : Below _ _ w2) => (AccAt.mk qa0 qa1 qa2 (h.below k0) (h'.below k0)).below hb2
        clear e1
        go_enter Try.func74, Try.ntmps74
        go_wp2_with fail
        refine (valB (IsAcceptor_c _ _ _ _ ma fa la _ (h.below k0) hn hA (h'.below k0) hn') hacc).mono ?_
        rintro e w2 ⟨rfl, hb2⟩
        have hk2 := btrans k0 hb2
        obtain ⟨q0, q1, q2, _, _⟩ := atb.below hb2
        go_wp2_with fail
        refine (valB (IsAcceptor_c _ _ _ _ mb fb lb _ (k.below hk2) kn kA (k'.below hk2) kn') hbcc).mono ?_
        rintro e w3 ⟨rfl, hb3⟩
        have hb13 := btrans hb2 hb3
        obtain ⟨r0, r1, r2, _, _⟩ := at2 w3 hb13
        obtain ⟨s0, s1, s2, _, _⟩ := at1 w3 hb13
        clear at1 at2
        go_wp2
        go_returns
        exact WPost.nil (btrans hk2 hb3)
/-! 'AreEqual' and 'FirstDifferent', on both sides. -/
/-- the code of two acceptors -/
noncomputable def twoC (ma : List Mp) (fa : Int) (la : List Int) (mb : List Mp) (fb : Int) (lb : List Int) : Int :=
  if accB ma fa la = true ∧ accB mb fb lb = true then (if ma.length = mb.length then 0 else 5) else 1
noncomputable def RFirstDifferent (ma : List Mp) (fa : Int) (la : List Int) (mb : List Mp) (fb : Int) (lb : List Int) : List Int × Int := differR ma fa la mb fb lb
noncomputable def RAreEqual (ma : List Mp) (fa : Int) (la : List Int) (mb : List Mp) (fb : Int) (lb : List Int) : Bool × Int :=
  if (differR ma fa la mb fb lb).2 = 4 then (true, 0) else (false, (differR ma fa la mb fb lb).2)
theorem RFirstDifferent_len (ma : List Mp) (fa : Int) (la : List Int) (mb : List Mp) (fb : Int) (lb : List Int) : (RFirstDifferent ma fa la mb fb lb).1.length ≤ 1000 := by
  unfold RFirstDifferent differR
  split
  · split
    · exact fw_length _ _ _ _
    · simp
  · simp
/-- two acceptors in variables of a call's own -/
theorem acc_two {A A' B B' : Option Addr} {c c' d d' : Nat} {ma mb : List Mp} {la lb : List Int} {fa fb : Int} {w : World} (h : SeeMaps w A ma) (h' : SeeInts w A' la) (k : SeeMaps w B mb) (k' : SeeInts w B' lb) :
    Below w.heap.size w ((w.alloc (Obj.cells #[Value.slice A ma.length c, .int .i64 fa, Value.slice A' la.length c'] 30)).alloc (Obj.cells #[Value.slice B mb.length d, .int .i64 fb, Value.slice B' lb.length d'] 30)) ∧
    AccAt ((w.alloc (Obj.cells #[Value.slice A ma.length c, .int .i64 fa, Value.slice A' la.length c'] 30)).alloc (Obj.cells #[Value.slice B mb.length d, .int .i64 fb, Value.slice B' lb.length d'] 30)) w.heap.size A A' c c' ma fa la ∧
    AccAt ((w.alloc (Obj.cells #[Value.slice A ma.length c, .int .i64 fa, Value.slice A' la.length c'] 30)).alloc (Obj.cells #[Value.slice B mb.length d, .int .i64 fb, Value.slice B' lb.length d'] 30)) (w.heap.size + 1) B B' d d' mb fb lb := by
  refine ⟨by go_grown, (AccAt.new h h' _).below (kbelow _ _), ?_⟩
  have := AccAt.new (w := w.alloc (Obj.cells #[Value.slice A ma.length c, .int .i64 fa, Value.slice A' la.length c'] 30)) (c := d) (c' := d') (f := fb) (k.below (kbelow _ _)) (k'.below (kbelow _ _)) 30
  simpa using this
set_option maxHeartbeats 2000000 in
theorem l07Two_c {A A' B B' : Option Addr} {c c' d d' : Nat} {ma mb : List Mp} {la lb : List Int} {fa fb : Int} {w : World} (h : SeeMaps w A ma) (hn : ma.length ≤ 2097152) (h' : SeeInts w A' la) (hn' : la.length ≤ 2097152) (k : SeeMaps w B mb) (kn : mb.length ≤ 2097152) (k' : SeeInts w B' lb) (kn' : lb.length ≤ 2097152) :
    Calls Try.prog 72 #[.agg #[.slice A ma.length c, .int .i64 fa, .slice A' la.length c'], .agg #[.slice B mb.length d, .int .i64 fb, .slice B' lb.length d']] w fun e w' => e = .returned (.int .i64 (twoC ma fa la mb fb lb)) ∧ Below w.heap.size w w' := by
  obtain ⟨k0, ata, atb⟩ := acc_two (c := c) (c' := c') (d := d) (d' := d') (fa := fa) (fb := fb) h h' k k'
  have q0 := ata.c0
  have q1 := ata.c1
  have q2 := ata.c2
  have s0 := atb.c0
  have s1 := atb.c1
  have s2 := atb.c2
  cases hacc : accB ma fa la
  · have e1 : twoC ma fa la mb fb lb = 1 := by simp [twoC, hacc]
    rw [e1]
    clear e1
    go_enter Try.func72, Try.ntmps72
    go_wp2_with fail
    refine (valB (l07Is_c _ _ _ _ ma fa la _ ata.sm hn ata.sl hn') hacc).mono ?_
    rintro e w2 ⟨rfl, hb2⟩
    go_wp2
    go_returns
    exact ⟨rfl, btrans k0 hb2⟩
  · cases hbcc : accB mb fb lb
    · have e1 : twoC ma fa la mb fb lb = 1 := by simp [twoC, hbcc]
      rw [e1]
      clear e1
      go_enter Try.func72, Try.ntmps72
      go_wp2_with fail
      refine (valB (l07Is_c _ _ _ _ ma fa la _ ata.sm hn ata.sl hn') hacc).mono ?_
      rintro e w2 ⟨rfl, hb2⟩
      replace s0 := bcell hb2 s0
      replace s1 := bcell hb2 s1
      replace s2 := bcell hb2 s2
      go_wp2_with fail
      refine (valB (l07Is_c _ _ _ _ mb fb lb _ (atb.sm.below hb2) kn (atb.sl.below hb2) kn') hbcc).mono ?_
      rintro e w3 ⟨rfl, hb3⟩
      go_wp2
      go_returns
      exact ⟨rfl, btrans (btrans k0 hb2) hb3⟩
    · by_cases hlen : ma.length = mb.length
      · have e1 : twoC ma fa la mb fb lb = 0 := by simp [twoC, hacc, hbcc, hlen]
        have hln : ((ma.length : Int) != (mb.length : Int)) = false := by simp [hlen]
        rw [e1]
        have HLEN := Lib.hid hlen
        clear e1 hlen
        go_enter Try.func72, Try.ntmps72
        go_wp2_with fail
        refine (valB (l07Is_c _ _ _ _ ma fa la _ ata.sm hn ata.sl hn') hacc).mono ?_
        rintro e w2 ⟨rfl, hb2⟩
        replace s0 := bcell hb2 s0
        replace s1 := bcell hb2 s1
        replace s2 := bcell hb2 s2
        go_wp2_with fail
        refine (valB (l07Is_c _ _ _ _ mb fb lb _ (atb.sm.below hb2) kn (atb.sl.below hb2) kn') hbcc).mono ?_
        rintro e w3 ⟨rfl, hb3⟩
        have q0 := bcell (btrans hb2 hb3) q0
        have s0 := bcell hb3 s0
        go_wp2
        go_returns
        exact ⟨rfl, btrans (btrans k0 hb2) hb3⟩
      · have e1 : twoC ma fa la mb fb lb = 5 := by simp [twoC, hacc, hbcc, hlen]
        have hln : ((ma.length : Int) != (mb.length : Int)) = true := bne_iff_ne.2 (fun e => hlen (by omega))
        rw [e1]
        clear e1 hlen
        go_enter Try.func72, Try.ntmps72
        go_wp2_with fail
        refine (valB (l07Is_c _ _ _ _ ma fa la _ ata.sm hn ata.sl hn') hacc).mono ?_
        rintro e w2 ⟨rfl, hb2⟩
        replace s0 := bcell hb2 s0
        replace s1 := bcell hb2 s1
        replace s2 := bcell hb2 s2
        go_wp2_with fail
        refine (valB (l07Is_c _ _ _ _ mb fb lb _ (atb.sm.below hb2) kn (atb.sl.below hb2) kn') hbcc).mono ?_
        rintro e w3 ⟨rfl, hb3⟩
        have q0 := bcell (btrans hb2 hb3) q0
        have s0 := bcell hb3 s0
        go_wp2
        go_returns
        exact ⟨rfl, btrans (btrans k0 hb2) hb3⟩
set_option maxHeartbeats 2000000 in
theorem implFirstDifferent_l {A A' B B' : Option Addr} {c c' d d' : Nat} {ma mb : List Mp} {la lb : List Int} {fa fb : Int} {w : World} (h : SeeMaps w A ma) (hn : ma.length ≤ 2097152) (hA : NilOk A c) (h' : SeeInts w A' la) (hn' : la.length ≤ 2097152) (_ : NilOk A' c') (k : SeeMaps w B mb) (kn : mb.length ≤ 2097152) (kA : NilOk B d) (k' : SeeInts w B' lb) (kn' : lb.length ≤ 2097152) (_ : NilOk B' d') :
    Calls Try.prog 34 #[.agg #[.slice A ma.length c, .int .i64 fa, .slice A' la.length c'], .agg #[.slice B mb.length d, .int .i64 fb, .slice B' lb.length d']] w fun e w' => ∃ v, e = .returned (.tuple #[v, .int .i64 (RFirstDifferent ma fa la mb fb lb).2]) ∧ OwnInts w' w.heap.size v (RFirstDifferent ma fa la mb fb lb).1 ∧ Below w.heap.size w w' := by
  show Calls _ _ _ w (WPost (differR ma fa la mb fb lb) w)
  obtain ⟨k0, ata, atb⟩ := acc_two (c := c) (c' := c') (d := d) (d' := d') (fa := fa) (fb := fb) h h' k k'
  have q0 := ata.c0
  have q1 := ata.c1
  have q2 := ata.c2
  have s0 := atb.c0
  have s1 := atb.c1
  have s2 := atb.c2
  go_enter Try.func34, Try.ntmps34
  go_wp2_with fail
  refine (differ_c ata.sm hn hA ata.sl hn' atb.sm kn kA atb.sl kn').mono ?_
  rintro e w2 ⟨v, rfl, hown, hb2⟩
  obtain ⟨A1, c1, rfl, _⟩ := hown.see
  go_wp2
  go_returns
  exact ⟨_, rfl, hown.mono k0.size, btrans k0 hb2⟩
set_option maxHeartbeats 2000000 in
theorem implAreEqual_l {A A' B B' : Option Addr} {c c' d d' : Nat} {ma mb : List Mp} {la lb : List Int} {fa fb : Int} {w : World} (h : SeeMaps w A ma) (hn : ma.length ≤ 2097152) (hA : NilOk A c) (h' : SeeInts w A' la) (hn' : la.length ≤ 2097152) (_ : NilOk A' c') (k : SeeMaps w B mb) (kn : mb.length ≤ 2097152) (kA : NilOk B d) (k' : SeeInts w B' lb) (kn' : lb.length ≤ 2097152) (_ : NilOk B' d') :
    Calls Try.prog 30 #[.agg #[.slice A ma.length c, .int .i64 fa, .slice A' la.length c'], .agg #[.slice B mb.length d, .int .i64 fb, .slice B' lb.length d']] w fun e w' => e = .returned (.tuple #[.bool (RAreEqual ma fa la mb fb lb).1, .int .i64 (RAreEqual ma fa la mb fb lb).2]) ∧ Below w.heap.size w w' := by
  obtain ⟨k0, ata, atb⟩ := acc_two (c := c) (c' := c') (d := d) (d' := d') (fa := fa) (fb := fb) h h' k k'
  have q0 := ata.c0
  have q1 := ata.c1
  have q2 := ata.c2
  have s0 := atb.c0
  have s1 := atb.c1
  have s2 := atb.c2
  have hdf := differ_c (c := c) (c' := c') (d := d) (d' := d') (fa := fa) (fb := fb) ata.sm hn hA ata.sl hn' atb.sm kn kA atb.sl kn'
  have HDF := Lib.hid hdf
  clear hdf
  by_cases h4 : (differR ma fa la mb fb lb).2 = 4
  · have e1 : RAreEqual ma fa la mb fb lb = (true, 0) := by unfold RAreEqual; rw [if_pos h4]
    rw [e1]
    clear e1
    have e4 : ((differR ma fa la mb fb lb).2 == 4) = true := by simp [h4]
    have HH4 := Lib.hid h4
    go_enter Try.func30, Try.ntmps30
    go_wp2_with fail
    refine HDF.out.mono ?_
    rintro e w2 ⟨v, rfl, hown, hb2⟩
    obtain ⟨A1, c1, rfl, _⟩ := hown.see
    rw [h4]
    go_wp2
    go_returns
    exact ⟨rfl, btrans k0 hb2⟩
  · have e1 : RAreEqual ma fa la mb fb lb = (false, (differR ma fa la mb fb lb).2) := by unfold RAreEqual; rw [if_neg h4]
    rw [e1]
    clear e1
    have e4 : ((differR ma fa la mb fb lb).2 == 4) = false := by simp [h4]
    clear h4
    go_enter Try.func30, Try.ntmps30
    go_wp2_with fail
    refine HDF.out.mono ?_
    rintro e w2 ⟨v, rfl, hown, hb2⟩
    obtain ⟨A1, c1, rfl, _⟩ := hown.see
    go_wp2
    go_returns
    exact ⟨rfl, btrans k0 hb2⟩
/-- what 'l07Apart' tells of two acceptors -/
theorem two_apart {A A' B B' : Option Addr} {c c' d d' : Nat} {ma mb : List Mp} {la lb : List Int} {fa fb : Int} {w0 : World} {b1 b2 : Nat} (hacc : accB ma fa la = true) (hbcc : accB mb fb lb = true) (hlen : ma.length = mb.length) (hn' : la.length ≤ 2097152) (kn' : lb.length ≤ 2097152) (ata : AccAt w0 b1 A A' c c' ma fa la) (atb : AccAt w0 b2 B B' d d' mb fb lb) (W : World) (hb : Below w0.heap.size w0 W) :
    Calls Try.prog 73 #[.agg #[.slice A ma.length c, .int .i64 fa, .slice A' la.length c'], .agg #[.slice B mb.length d, .int .i64 fb, .slice B' lb.length d'], .int .i64 fa, .int .i64 fb] W (ApPost (differR ma fa la mb fb lb) W) := by
  have ra := RightA.of hacc
  have rb := RightA.of hbcc
  have e1 : differR ma fa la mb fb lb = fw (stP ma mb) ma.length (fa, fb) (isP la lb) := by unfold differR; rw [if_pos ⟨hacc, hbcc⟩, if_pos hlen]
  rw [e1]
  exact l07Apart_c A A' B B' c c' d d' ma mb la lb fa fb fa fb _ _ W (ata.sm.below hb) (ata.sl.below hb) (atb.sm.below hb) (atb.sl.below hb) ra.list rb.list hlen ra.pts rb.pts hn' kn' ra.f0 ra.f1 rb.f0 rb.f1
theorem two_cases {ma mb : List Mp} {la lb : List Int} {fa fb : Int} (h : twoC ma fa la mb fb lb = 0) : accB ma fa la = true ∧ accB mb fb lb = true ∧ ma.length = mb.length := by
  unfold twoC at h
  split at h
  · rename_i h1
    split at h
    · rename_i h2; exact ⟨h1.1, h1.2, h2⟩
    · cases h
  · cases h
theorem two_not {ma mb : List Mp} {la lb : List Int} {fa fb : Int} (h : twoC ma fa la mb fb lb ≠ 0) : differR ma fa la mb fb lb = ([], twoC ma fa la mb fb lb) ∧ twoC ma fa la mb fb lb ≠ 4 := by
  unfold twoC at h ⊢
  unfold differR
  split
  · rename_i h1
    rw [if_pos h1] at h
    split
    · rename_i h2; rw [if_pos h2] at h; exact absurd rfl h
    · exact ⟨rfl, by decide⟩
  · exact ⟨rfl, by decide⟩
theorem differR_cases (ma : List Mp) (fa : Int) (la : List Int) (mb : List Mp) (fb : Int) (lb : List Int) (h : twoC ma fa la mb fb lb = 0) : (∃ u, differR ma fa la mb fb lb = (u, 0)) ∨ differR ma fa la mb fb lb = ([], 4) := by
  obtain ⟨h1, h2, h3⟩ := two_cases h
  unfold differR
  rw [if_pos ⟨h1, h2⟩, if_pos h3]
  exact fw_cases _ _ _ _
set_option maxHeartbeats 2000000 in
theorem specFirstDifferent_l {A A' B B' : Option Addr} {c c' d d' : Nat} {ma mb : List Mp} {la lb : List Int} {fa fb : Int} {w : World} (h : SeeMaps w A ma) (hn : ma.length ≤ 2097152) (_ : NilOk A c) (h' : SeeInts w A' la) (hn' : la.length ≤ 2097152) (_ : NilOk A' c') (k : SeeMaps w B mb) (kn : mb.length ≤ 2097152) (_ : NilOk B d) (k' : SeeInts w B' lb) (kn' : lb.length ≤ 2097152) (_ : NilOk B' d') :
    Calls Try.prog 33 #[.agg #[.slice A ma.length c, .int .i64 fa, .slice A' la.length c'], .agg #[.slice B mb.length d, .int .i64 fb, .slice B' lb.length d']] w fun e w' => ∃ v, e = .returned (.tuple #[v, .int .i64 (RFirstDifferent ma fa la mb fb lb).2]) ∧ OwnInts w' w.heap.size v (RFirstDifferent ma fa la mb fb lb).1 ∧ Below w.heap.size w w' := by
  show Calls _ _ _ w (WPost (differR ma fa la mb fb lb) w)
  obtain ⟨k0, ata, atb⟩ := acc_two (c := c) (c' := c') (d := d) (d' := d') (fa := fa) (fb := fb) h h' k k'
  have q0 := ata.c0
  have q1 := ata.c1
  have q2 := ata.c2
  have s0 := atb.c0
  have s1 := atb.c1
  have s2 := atb.c2
  have htw := l07Two_c (c := c) (c' := c') (d := d) (d' := d') (fa := fa) (fb := fb) ata.sm hn ata.sl hn' atb.sm kn atb.sl kn'
  have HTW := Lib.hid htw
  clear htw
  by_cases h0 : twoC ma fa la mb fb lb = 0
  · obtain ⟨t1, t2, t3⟩ := two_cases h0
    have hap := two_apart t1 t2 t3 hn' kn' ata atb
    have hc := differR_cases ma fa la mb fb lb h0
    have HAP := Lib.hid hap
    clear hap t1 t2 t3
    generalize differR ma fa la mb fb lb = r at HAP hc ⊢
    rcases hc with ⟨u, rfl⟩ | rfl
    all_goals
      go_enter Try.func33, Try.ntmps33
      go_wp2_with fail
      refine HTW.out.mono ?_
      rintro e w2 ⟨rfl, hb2⟩
      rw [h0]
      have q0 := bcell hb2 q0
      have q1 := bcell hb2 q1
      have q2 := bcell hb2 q2
      have s0 := bcell hb2 s0
      have s1 := bcell hb2 s1
      have s2 := bcell hb2 s2
      go_wp2_with fail
      refine (HAP.out _ hb2).mono ?_
      rintro e w5 ⟨v, rfl, hown, hb6⟩
      obtain ⟨A1, c1, rfl, _⟩ := hown.see
      have hb7 := btrans k0 hb2
      go_wp2
      go_returns
      first
        | exact ⟨_, rfl, hown.mono hb7.size, btrans hb7 hb6⟩
        | exact WPost.nil (btrans hb7 hb6)
  · obtain ⟨e1, e2⟩ := two_not h0
    rw [e1]
    have e0 : (twoC ma fa la mb fb lb != 0) = true := bne_iff_ne.2 h0
    clear e1 e2 h0
    go_enter Try.func33, Try.ntmps33
    go_wp2_with fail
    refine HTW.out.mono ?_
    rintro e w2 ⟨rfl, hb2⟩
    go_wp2
    go_returns
    exact WPost.nil (btrans k0 hb2)
set_option maxHeartbeats 2000000 in
theorem specAreEqual_l {A A' B B' : Option Addr} {c c' d d' : Nat} {ma mb : List Mp} {la lb : List Int} {fa fb : Int} {w : World} (h : SeeMaps w A ma) (hn : ma.length ≤ 2097152) (_ : NilOk A c) (h' : SeeInts w A' la) (hn' : la.length ≤ 2097152) (_ : NilOk A' c') (k : SeeMaps w B mb) (kn : mb.length ≤ 2097152) (_ : NilOk B d) (k' : SeeInts w B' lb) (kn' : lb.length ≤ 2097152) (_ : NilOk B' d') :
    Calls Try.prog 29 #[.agg #[.slice A ma.length c, .int .i64 fa, .slice A' la.length c'], .agg #[.slice B mb.length d, .int .i64 fb, .slice B' lb.length d']] w fun e w' => e = .returned (.tuple #[.bool (RAreEqual ma fa la mb fb lb).1, .int .i64 (RAreEqual ma fa la mb fb lb).2]) ∧ Below w.heap.size w w' := by
  obtain ⟨k0, ata, atb⟩ := acc_two (c := c) (c' := c') (d := d) (d' := d') (fa := fa) (fb := fb) h h' k k'
  have q0 := ata.c0
  have q1 := ata.c1
  have q2 := ata.c2
  have s0 := atb.c0
  have s1 := atb.c1
  have s2 := atb.c2
  have htw := l07Two_c (c := c) (c' := c') (d := d) (d' := d') (fa := fa) (fb := fb) ata.sm hn ata.sl hn' atb.sm kn atb.sl kn'
  have HTW := Lib.hid htw
  clear htw
  unfold RAreEqual
  by_cases h0 : twoC ma fa la mb fb lb = 0
  · obtain ⟨t1, t2, t3⟩ := two_cases h0
    have hap := two_apart t1 t2 t3 hn' kn' ata atb
    have hc := differR_cases ma fa la mb fb lb h0
    have HAP := Lib.hid hap
    clear hap t1 t2 t3
    generalize differR ma fa la mb fb lb = r at HAP hc ⊢
    rcases hc with ⟨u, rfl⟩ | rfl
    all_goals
      go_enter Try.func29, Try.ntmps29
      go_wp2_with fail
      refine HTW.out.mono ?_
      rintro e w2 ⟨rfl, hb2⟩
      rw [h0]
      have q0 := bcell hb2 q0
      have q1 := bcell hb2 q1
      have q2 := bcell hb2 q2
      have s0 := bcell hb2 s0
      have s1 := bcell hb2 s1
      have s2 := bcell hb2 s2
      go_wp2_with fail
      refine (HAP.out _ hb2).mono ?_
      rintro e w5 ⟨v, rfl, hown, hb6⟩
      obtain ⟨A1, c1, rfl, _⟩ := hown.see
      have hb7 := btrans k0 hb2
      go_wp2
      go_returns
      exact ⟨rfl, btrans hb7 hb6⟩
  · obtain ⟨e1, e2⟩ := two_not h0
    rw [e1, if_neg e2]
    have e0 : (twoC ma fa la mb fb lb != 0) = true := bne_iff_ne.2 h0
    clear e1 e2 h0
    go_enter Try.func29, Try.ntmps29
    go_wp2_with fail
    refine HTW.out.mono ?_
    rintro e w2 ⟨rfl, hb2⟩
    go_wp2
    go_returns
    exact ⟨rfl, btrans k0 hb2⟩
end Go.Proofs.Ytbodaefdaagelaa
