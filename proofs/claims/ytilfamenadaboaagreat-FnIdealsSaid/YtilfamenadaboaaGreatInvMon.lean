/- 'RegularElements', on both sides. No condition. -/
import Derived.Test.YtilfamenadaboaaGreatRegMon
import Derived.Test.YtilfamenadaboaaGreatOf
namespace Go.Proofs.YtilfamenadaboaaGreat
set_option linter.unusedSimpArgs false
set_option linter.unusedVariables false
set_option linter.unusedSectionVars false
open Go.RowKit
noncomputable def RRegularElements (ms : List Mp) : List Mp × Int := RThat ms regB
theorem RThat_len {ms : List Mp} {P : List Mp → Mp → Bool} : (RThat ms P).1.length ≤ 1000 := by
  unfold RThat
  split
  · rename_i h
    have := (MonR.of h).len
    have h2 := List.length_filter_le (P (elsOf ms)) (elsOf ms)
    show ((elsOf ms).filter (P (elsOf ms))).length ≤ 1000
    omega
  · simp
theorem RRegularElements_len (ms : List Mp) : (RRegularElements ms).1.length ≤ 1000 := RThat_len
set_option maxHeartbeats 2000000 in
set_option maxRecDepth 100000 in
theorem implRegularElements_l {A : Option Addr} {c : Nat} {ms : List Mp} {w : World} (h : SeeMaps w A ms) (hn : ms.length ≤ 2097152) (hA : NilOk A c) :
    Calls Tryz.prog 13 #[.slice A ms.length c] w fun e w' => ∃ v, e = .returned (.tuple #[v, .int .i64 (RRegularElements ms).2]) ∧ OwnMaps w' w.heap.size v (RRegularElements ms).1 ∧ Below w.heap.size w w' := by
  show Calls _ _ _ w (MsPost (RThat ms regB) w)
  have he := elementsThat_c 45 regB (enters_of Tryz.func45 (by kernel_rfl) rfl) h hn hA (fun hm W M i f mon hi => isRegular_c hm.clo mon hi)
  have HE := Lib.hid he
  clear he h
  go_enter Tryz.func13, Tryz.ntmps13
  go_wp2_with fail
  refine HE.out.mono ?_
  rintro e w1 ⟨v, rfl, hown, hb1⟩
  obtain ⟨Av, cv, rfl, _⟩ := hown.see
  go_wp2
  go_returns
  exact ⟨_, rfl, hown, hb1⟩
set_option maxHeartbeats 2000000 in
theorem specRegularElements_l {A : Option Addr} {c : Nat} {ms : List Mp} {w : World} (h : SeeMaps w A ms) (hn : ms.length ≤ 2097152) (_ : NilOk A c) :
    Calls Tryz.prog 14 #[.slice A ms.length c] w fun e w' => ∃ v, e = .returned (.tuple #[v, .int .i64 (RRegularElements ms).2]) ∧ OwnMaps w' w.heap.size v (RRegularElements ms).1 ∧ Below w.heap.size w w' := by
  show Calls _ _ _ w (MsPost (RThat ms regB) w)
  have hmo := l04All_c A none c 0 ms [] w hn (by simp) h (see_nil w)
  have HMO := Lib.hid hmo
  obtain ⟨r, hr⟩ : ∃ r, r = RThat ms regB := ⟨_, rfl⟩
  rw [← hr]
  have HR := Lib.hid hr
  clear hmo h hr
  go_enter Tryz.func14, Tryz.ntmps14
  go_wp2_with fail
  refine HMO.out.mono ?_
  rintro e w1 h1
  rcases h1 with ⟨hc, rfl, hb1⟩ | ⟨hc, v, rfl, hown, hb1⟩
  · have e1 : r = ([], moC ms []) := by rw [HR.out]; unfold RThat; rw [if_neg hc]
    have E1 := Lib.hid e1
    have d : (moC ms [] != 0) = true := bne_iff_ne.2 hc
    clear hc e1
    go_wp2
    go_returns
    rw [E1.out]
    exact MsPost.nil hb1
  · have e1 : r = ((elsOf ms).filter (regB (elsOf ms)), 0) := by rw [HR.out]; unfold RThat; rw [if_pos hc]
    have E1 := Lib.hid e1
    have clo := (MonR.of hc).clo
    have hlen := clo.len
    have CLO := Lib.hid clo
    clear hc e1 clo
    generalize elsOf ms = l at *
    obtain ⟨Av, cv, rfl, hsv⟩ := hown.see
    have own0 : OwnMaps (w1.alloc (.cells #[] 27)) w1.heap.size (.slice (some ⟨w1.heap.size, 0, none⟩) 0 0) ((l.take 0).filter (regB l)) :=
      ⟨[], World.ownsRow_made (e := 27) (size := 6) w1 #[] 0 (Nat.le_refl _) (by decide) rfl, ⟨rfl, fun k m hk => by simp at hk⟩⟩
    have kk := kbelow w1 (.cells #[] 27)
    clear hown
    go_wp2
    go_loopw [7, 6] (fun i v wr => ∃ k : Nat, k ≤ l.length ∧ i = .int .i64 k ∧ OwnMaps wr w1.heap.size v ((l.take k).filter (regB l)) ∧ Below w1.heap.size w1 wr) (fun i _ _ => l.length - (intOf i).toNat)
    case atStart => exact ⟨0, Nat.zero_le _, rfl, own0, kk⟩
    case round =>
      clear own0 kk
      obtain ⟨k, hk, rfl, own, hb⟩ := hrel
      by_cases hlt : k < l.length
      · have see := hsv.below hb
        obtain ⟨b, o, f, rfl, hf, gf⟩ := see.at_ hlt
        have l0 : (0 : Int) ≤ k := by omega
        have l1 : (k : Int) < l.length := by omega
        have GF := gf
        obtain ⟨f0, f1, f2, f3, f4, f5⟩ := gf
        have hcall := l04Regular_c (some ⟨b, o, none⟩) cv l (ptsL ms) f wr see CLO.out (List.mem_of_getElem? hf)
        have hlen2 : ((l.take k).filter (regB l)).length ≤ 300 := by
          have := List.length_filter_le (regB l) (l.take k)
          rw [List.length_take] at this
          omega
        have hsn2 : regB l f = false → (l.take (k + 1)).filter (regB l) = (l.take k).filter (regB l) := fun e => by
          rw [List.take_add_one, hf, List.filter_append]
          simp [e]
        have hsn1 : regB l f = true → (l.take (k + 1)).filter (regB l) = (l.take k).filter (regB l) ++ [f] := fun e => by
          rw [List.take_add_one, hf, List.filter_append]
          simp [e]
        have S1 := Lib.hid hsn1
        have S2 := Lib.hid hsn2
        obtain ⟨xs, hxs⟩ : ∃ xs, xs = (l.take k).filter (regB l) := ⟨_, rfl⟩
        rw [← hxs] at own hlen2 S1 S2
        clear hf see hsn1 hsn2 hxs
        obtain ⟨Ao, co, rfl, _⟩ := own.see
        cases e : regB l f
        · rw [e] at hcall
          have HE := Lib.hid e
          clear e
          go_wp2_with fail
          refine hcall.mono ?_
          rintro e w3 ⟨rfl, hb3⟩
          go_wp2
          go_roundw
          case rel => exact ⟨k + 1, by omega, by go_num, by rw [S2.out HE.out]; exact own.below hb3, btrans hb hb3⟩
          case measure => simp [intOf]; omega
        · rw [e] at hcall
          have HE := Lib.hid e
          clear e
          go_wp2_with fail
          refine hcall.mono ?_
          rintro e w3 ⟨rfl, hb3⟩
          have own3 := own.below hb3
          have hb4 := btrans hb hb3
          replace f0 := bcell hb3 f0
          replace f1 := bcell hb3 f1
          replace f2 := bcell hb3 f2
          replace f3 := bcell hb3 f3
          replace f4 := bcell hb3 f4
          replace f5 := bcell hb3 f5
          go_wp2_with (at_builtin; refine wpList_push_map _ rfl (.tmp 29) (.tmp 34) rfl w1.heap.size _ xs rfl (own3.below (kbelow _ _)) _ f rfl (MpBox.new f 27 rfl) (by omega) (btrans hb4 (kbelow _ _)).size ?_; intro v8 w8 hown8 hg8 hv8)
          have hb8 : Below w1.heap.size w1 w8 := Below.grown (btrans hb4 (kbelow _ _)) hg8 (btrans hb4 (kbelow _ _)).size (fun q hq => (own3.lt q hq).1)
          go_wp2
          go_roundw
          case rel => exact ⟨k + 1, by omega, by go_num, by rw [S1.out HE.out]; exact hown8, hb8⟩
          case measure => simp [intOf]; omega
      · obtain rfl : k = l.length := by omega
        rw [List.take_length] at own
        obtain ⟨Ao, co, rfl, _⟩ := own.see
        go_wp2
        go_returns
        rw [E1.out]
        exact ⟨_, rfl, own.mono hb1.size, btrans hb1 hb⟩
/-! 'inverses': all inverses of an element, and those with which it commutes. -/
section
variable {l : List Mp} {n : Int} {M i bm bf : Nat} {f : Mp} {w : World}
set_option maxRecDepth 100000 in
set_option maxHeartbeats 2000000 in
theorem inverses1_p (hc : Clo l n) (mon : MonAt w M l n) (hi : l[i]? = some f) (qm : w.cell? ⟨bm, 0, none⟩ = some (.pointer (some ⟨M, 0, none⟩))) (qf : w.cell? ⟨bf, 0, none⟩ = some (.int .i64 i)) :
    PredM 80 #[] #[.pointer (some ⟨bm, 0, none⟩), .pointer (some ⟨bf, 0, none⟩)] l (invB f) w := fun W j g hW hj => by
  have qm1 := bcell hW qm
  have qf1 := bcell hW qf
  obtain ⟨q, hq, h1⟩ := hc.call (mon.below hW) hi hj
  obtain ⟨q2, hq2, h2⟩ := hc.call (mon.below hW) hq hi
  obtain ⟨q3, hq3, h3⟩ := hc.call (mon.below hW) hj hq
  have hs2 := hc.same hq2 hi
  have hs3 := hc.same hq3 hj
  have H1 := Lib.hid h1
  have H2 := Lib.hid h2
  have H3 := Lib.hid h3
  show Calls Tryz.prog 80 #[.int .i64 (j : Int), .pointer (some ⟨bm, 0, none⟩), .pointer (some ⟨bf, 0, none⟩)] W fun e w' => e = .returned (.bool (decide (mulM (mulM f g) f = f) && decide (mulM g (mulM f g) = g))) ∧ Below W.heap.size W w'
  cases e2 : decide (mulM (mulM f g) f = f)
  · rw [e2] at hs2
    clear e2 hs3 h1 h2 h3 hq hq2 hq3 qm qf hW hj hi mon hc
    go_enter Tryz.func80, Tryz.ntmps80
    go_wp2_with fail
    refine (H1.out ⟨W, Below.refl _ _⟩).mono ?_
    rintro e w2 ⟨rfl, hb2⟩
    have QM := bwcell (bcell hb2 qm1)
    have QF := bwcell (bcell hb2 qf1)
    have H2' := fun x : BW w2 => H2.out ⟨x.1, btrans hb2 x.2⟩
    clear qm1 qf1
    go_wp2
    refine wp_region_bw (by kernel_rfl) (by kernel_rfl) ?_
    repeat go_big_quiet_step ((go_at_call 68; exact Calls.bw _ (H2' _)))
    refine wpQuiet_nil ?_
    rintro w4 ⟨⟨w4x, hb4⟩, rfl⟩
    go_wp2
    go_returns
    exact ⟨rfl, btrans hb2 hb4⟩
  · cases e3 : decide (mulM g (mulM f g) = g)
    all_goals
      rw [e2] at hs2
      rw [e3] at hs3
      clear e2 e3 h1 h2 h3 hq hq2 hq3 qm qf hW hj hi mon hc
      go_enter Tryz.func80, Tryz.ntmps80
      go_wp2_with fail
      refine (H1.out ⟨W, Below.refl _ _⟩).mono ?_
      rintro e w2 ⟨rfl, hb2⟩
      have QM := bwcell (bcell hb2 qm1)
      have QF := bwcell (bcell hb2 qf1)
      have H2' := fun x : BW w2 => H2.out ⟨x.1, btrans hb2 x.2⟩
      have H3' := fun x : BW w2 => H3.out ⟨x.1, btrans hb2 x.2⟩
      clear qm1 qf1
      go_wp2
      refine wp_region_bw (by kernel_rfl) (by kernel_rfl) ?_
      repeat go_big_quiet_step ((first | (go_at_call_of 68 (Value.int .i64 (i : Int)); exact Calls.bw _ (H2' _)) | (go_at_call_of 68 (Value.int .i64 (j : Int)); exact Calls.bw _ (H3' _))))
      refine wpQuiet_nil ?_
      rintro w4 ⟨⟨w4x, hb4⟩, rfl⟩
      go_wp2
      go_returns
      exact ⟨rfl, btrans hb2 hb4⟩
set_option maxRecDepth 100000 in
set_option maxHeartbeats 2000000 in
theorem inverses_m (hc : Clo l n) : MethM 41 l n (fun f => l.filter (invB f)) := fun w M i f mon hi => by
  have kk : Below w.heap.size w ((w.alloc (.cells #[.pointer (some ⟨M, 0, none⟩)] 48)).alloc (.cells #[.int .i64 (i : Int)] 3)) := by go_grown
  have qm : ((w.alloc (.cells #[.pointer (some ⟨M, 0, none⟩)] 48)).alloc (.cells #[.int .i64 (i : Int)] 3)).cell? ⟨w.heap.size, 0, none⟩ = some (.pointer (some ⟨M, 0, none⟩)) := by simp [go_sem]
  have qf : ((w.alloc (.cells #[.pointer (some ⟨M, 0, none⟩)] 48)).alloc (.cells #[.int .i64 (i : Int)] 3)).cell? ⟨w.heap.size + 1, 0, none⟩ = some (.int .i64 (i : Int)) := by simp [go_sem]
  have hp := inverses1_p hc (mon.below kk) hi qm qf
  have honly := only_c M l n 80 _ _ (enters_of Tryz.func80 (by kernel_rfl) rfl) _ (mon.below kk) hc.len hp
  have HA := Lib.hid honly
  clear honly hp qf hi mon hc
  go_enter Tryz.func41, Tryz.ntmps41
  go_wp2_with fail
  refine HA.out.mono ?_
  rintro e w2 ⟨v, rfl, hown, hb2⟩
  obtain ⟨Av, cv, rfl, _⟩ := hown.see
  go_wp2
  go_returns
  exact ⟨_, rfl, hown.mono kk.size, btrans kk hb2⟩
end
/-! 'InversesIn', on both sides. -/
noncomputable def RInversesIn (ms : List Mp) (f : Mp) : List Mp × Int := ROf ms f (fun l f => l.filter (invB f))
theorem RInversesIn_len (ms : List Mp) (f : Mp) : (RInversesIn ms f).1.length ≤ 1000 := by
  unfold RInversesIn ROf
  split
  · rename_i h
    have := (MonR.of h).len
    have h2 := List.length_filter_le (invB f) (elsOf ms)
    show ((elsOf ms).filter (invB f)).length ≤ 1000
    omega
  · simp
set_option maxHeartbeats 2000000 in
set_option maxRecDepth 100000 in
theorem implInversesIn_l {A : Option Addr} {c : Nat} {ms : List Mp} {f : Mp} {w : World} (h : SeeMaps w A ms) (hn : ms.length ≤ 2097152) (hA : NilOk A c) :
    Calls Tryz.prog 7 #[.slice A ms.length c, .agg #[.int .i64 f.p, .int .i64 f.a, .int .i64 f.b, .int .i64 f.c, .int .i64 f.d, .int .i64 f.e]] w fun e w' => ∃ v, e = .returned (.tuple #[v, .int .i64 (RInversesIn ms f).2]) ∧ OwnMaps w' w.heap.size v (RInversesIn ms f).1 ∧ Below w.heap.size w w' := by
  show Calls _ _ _ w (MsPost (ROf ms f (fun l f => l.filter (invB f))) w)
  have kk := kbelow w (.cells #[.int .i64 f.p, .int .i64 f.a, .int .i64 f.b, .int .i64 f.c, .int .i64 f.d, .int .i64 f.e] 27)
  have he := of_c (f := f) 41 (fun l f => l.filter (invB f)) (enters_of Tryz.func41 (by kernel_rfl) rfl) (h.below kk) hn hA (fun hm => inverses_m hm.clo)
  have HE := Lib.hid he
  clear he h
  go_enter Tryz.func7, Tryz.ntmps7
  go_wp2_with fail
  refine HE.out.mono ?_
  rintro e w1 ⟨v, rfl, hown, hb1⟩
  obtain ⟨Av, cv, rfl, _⟩ := hown.see
  go_wp2
  go_returns
  exact ⟨_, rfl, hown.mono kk.size, btrans kk hb1⟩
set_option maxHeartbeats 2000000 in
theorem specInversesIn_l {A : Option Addr} {c : Nat} {ms : List Mp} {f : Mp} {w : World} (h : SeeMaps w A ms) (hn : ms.length ≤ 2097152) (_ : NilOk A c) :
    Calls Tryz.prog 8 #[.slice A ms.length c, .agg #[.int .i64 f.p, .int .i64 f.a, .int .i64 f.b, .int .i64 f.c, .int .i64 f.d, .int .i64 f.e]] w fun e w' => ∃ v, e = .returned (.tuple #[v, .int .i64 (RInversesIn ms f).2]) ∧ OwnMaps w' w.heap.size v (RInversesIn ms f).1 ∧ Below w.heap.size w w' := by
  show Calls _ _ _ w (MsPost (ROf ms f (fun l f => l.filter (invB f))) w)
  have k0 : Below w.heap.size w ((w.alloc (.cells #[.int .i64 f.p, .int .i64 f.a, .int .i64 f.b, .int .i64 f.c, .int .i64 f.d, .int .i64 f.e] 27)).alloc (.cells #[.int .i64 f.p, .int .i64 f.a, .int .i64 f.b, .int .i64 f.c, .int .i64 f.d, .int .i64 f.e] 27)) := by go_grown
  have b1 : MpBox ((w.alloc (.cells #[.int .i64 f.p, .int .i64 f.a, .int .i64 f.b, .int .i64 f.c, .int .i64 f.d, .int .i64 f.e] 27)).alloc (.cells #[.int .i64 f.p, .int .i64 f.a, .int .i64 f.b, .int .i64 f.c, .int .i64 f.d, .int .i64 f.e] 27)) (w.heap.size + 1) f := MpBox.new f 27 (by simp)
  have b0 : MpBox ((w.alloc (.cells #[.int .i64 f.p, .int .i64 f.a, .int .i64 f.b, .int .i64 f.c, .int .i64 f.d, .int .i64 f.e] 27)).alloc (.cells #[.int .i64 f.p, .int .i64 f.a, .int .i64 f.b, .int .i64 f.c, .int .i64 f.d, .int .i64 f.e] 27)) w.heap.size f := (MpBox.new f 27 rfl).keep _
  have hmo := l04All_c A (some ⟨w.heap.size + 1, 0, none⟩) c 1 ms [f] _ hn (by simp) (h.below k0) (see_one b1)
  have HMO := Lib.hid hmo
  obtain ⟨r, hr⟩ : ∃ r, r = ROf ms f (fun l f => l.filter (invB f)) := ⟨_, rfl⟩
  rw [← hr]
  have HR := Lib.hid hr
  clear hmo h hr b1
  go_enter Tryz.func8, Tryz.ntmps8
  go_wp2_with fail
  refine HMO.out.mono ?_
  rintro e w1 h1
  rcases h1 with ⟨hc, rfl, hb1⟩ | ⟨hc, v, rfl, hown, hb1⟩
  · have e1 : r = ([], moC ms [f]) := by rw [HR.out]; unfold ROf; rw [if_neg hc]
    have E1 := Lib.hid e1
    have d : (moC ms [f] != 0) = true := bne_iff_ne.2 hc
    clear hc e1
    go_wp2
    go_returns
    rw [E1.out]
    exact MsPost.nil (btrans k0 hb1)
  · have e1 : r = ((elsOf ms).filter (invB f), 0) := by rw [HR.out]; unfold ROf; rw [if_pos hc]
    have E1 := Lib.hid e1
    have hmr := MonR.of hc
    have clo := hmr.clo
    have hfm := hmr.mem f (by simp)
    obtain ⟨Av, cv, rfl, hsv⟩ := hown.see
    have hi := l04Inverses_c Av cv (elsOf ms) (ptsL ms) f w1 hsv clo.all clo.len (clo.all f hfm)
    have HI := Lib.hid hi
    obtain ⟨t0, t1, t2, t3, t4, t5⟩ := (b0.below hb1).at.cells0
    clear hi hmr clo hfm hc e1 hown hsv b0
    go_wp2_with fail
    refine HI.out.mono ?_
    rintro e w3 ⟨v3, rfl, hown3, hb3⟩
    obtain ⟨A3, c3, rfl, _⟩ := hown3.see
    go_wp2
    go_returns
    rw [E1.out]
    have hb4 := btrans k0 hb1
    exact ⟨_, rfl, hown3.mono hb4.size, btrans hb4 hb3⟩
/-! 'IsInverseMonoid', on both sides. -/
def oneB (l : List Mp) (f : Mp) : Bool := decide ((l.filter (invB f)).length = 1)
theorem oneB_eq (l : List Mp) (f : Mp) : (((l.filter (invB f)).length : Int) == 1) = oneB l f := by
  unfold oneB
  by_cases h : (l.filter (invB f)).length = 1
  · rw [h]; rfl
  · rw [decide_eq_false h]
    exact beq_eq_false_iff_ne.2 (by omega)
theorem oneB_ne (l : List Mp) (f : Mp) : (((l.filter (invB f)).length : Int) != 1) = !oneB l f := by
  rw [← oneB_eq]
  rfl
noncomputable def RIsInverseMonoid (ms : List Mp) : Bool × Int := if moC ms [] = 0 then ((elsOf ms).all (oneB (elsOf ms)), 0) else (false, moC ms [])
set_option maxHeartbeats 2000000 in
set_option maxRecDepth 100000 in
theorem implIsInverseMonoid_l {A : Option Addr} {c : Nat} {ms : List Mp} {w : World} (h : SeeMaps w A ms) (hn : ms.length ≤ 2097152) (hA : NilOk A c) :
    Calls Tryz.prog 17 #[.slice A ms.length c] w fun e w' => e = .returned (.tuple #[.bool (RIsInverseMonoid ms).1, .int .i64 (RIsInverseMonoid ms).2]) ∧ Below w.heap.size w w' := by
  have hmo := monoidOf_c A none c 0 ms [] w hn (by simp) h (see_nil w) hA (fun _ => rfl)
  have HMO := Lib.hid hmo
  clear hmo h
  obtain ⟨r, hr⟩ : ∃ r, r = RIsInverseMonoid ms := ⟨_, rfl⟩
  rw [← hr]
  have HR := Lib.hid hr
  clear hr
  go_enter Tryz.func17, Tryz.ntmps17
  go_wp2_with fail
  refine HMO.out.mono ?_
  rintro e w1 h1
  rcases h1 with ⟨hc, rfl, hb1⟩ | ⟨hc, M, vp, rfl, mon, hown, hb1⟩
  · have e1 : r = (false, moC ms []) := by rw [HR.out]; unfold RIsInverseMonoid; rw [if_neg hc]
    have E1 := Lib.hid e1
    have d : (moC ms [] == 0) = false := beq_eq_false_iff_ne.2 hc
    clear hc e1
    go_wp2
    go_returns
    exact ⟨by rw [E1.out]; rfl, btrans hb1 (kbelow _ _)⟩
  · have e1 : r = ((elsOf ms).all (oneB (elsOf ms)), 0) := by rw [HR.out]; unfold RIsInverseMonoid; rw [if_pos hc]
    have E1 := Lib.hid e1
    have clo := (MonR.of hc).clo
    have hb2 : Below w1.heap.size w1 (w1.alloc (.cells #[.pointer (some ⟨M, 0, none⟩)] 48)) := kbelow _ _
    have q2 : (w1.alloc (.cells #[.pointer (some ⟨M, 0, none⟩)] 48)).cell? ⟨w1.heap.size, 0, none⟩ = some (.pointer (some ⟨M, 0, none⟩)) := by simp [go_sem]
    have mon2 := mon.below hb2
    have hp : PredM 51 #[] #[.pointer (some ⟨w1.heap.size, 0, none⟩)] (elsOf ms) (oneB (elsOf ms)) (w1.alloc (.cells #[.pointer (some ⟨M, 0, none⟩)] 48)) := fun W i f hW hi => by
      have p2 := bcell hW q2
      have hcall := inverses_m clo W M i f (mon2.below hW) hi
      simp only [] at hcall
      have hone := oneB_eq (elsOf ms) f
      show Calls Tryz.prog 51 #[.int .i64 (i : Int), .pointer (some ⟨w1.heap.size, 0, none⟩)] W fun e w' => e = .returned (.bool (oneB (elsOf ms) f)) ∧ Below W.heap.size W w'
      generalize oneB (elsOf ms) f = b at *
      generalize (elsOf ms).filter (invB f) = xs at *
      clear hW hi mon2 hb2 q2 hown mon clo e1 hc hb1
      go_enter Tryz.func51, Tryz.ntmps51
      go_wp2_with fail
      refine hcall.mono ?_
      rintro e w3 ⟨v, rfl, hown3, hb3⟩
      obtain ⟨Av, cv, rfl, _⟩ := hown3.see
      go_wp2
      go_returns
      exact ⟨rfl, hb3⟩
    have hall := all_c M (elsOf ms) (ptsL ms) 51 #[.pointer (some ⟨w1.heap.size, 0, none⟩)] (oneB (elsOf ms)) (enters_of Tryz.func51 (by kernel_rfl) rfl) _ mon2 clo.len hp
    obtain ⟨An, cn, rfl, _⟩ := hown.see
    have HA := Lib.hid hall
    clear hall hp clo mon mon2 hc e1 hown
    generalize (elsOf ms).all (oneB (elsOf ms)) = b at *
    go_wp2_with fail
    refine HA.out.mono ?_
    rintro e w2 ⟨rfl, hb3⟩
    go_wp2
    go_returns
    exact ⟨by rw [E1.out]; rfl, btrans hb1 (btrans hb2 hb3)⟩
set_option maxHeartbeats 2000000 in
theorem specIsInverseMonoid_l {A : Option Addr} {c : Nat} {ms : List Mp} {w : World} (h : SeeMaps w A ms) (hn : ms.length ≤ 2097152) (_ : NilOk A c) :
    Calls Tryz.prog 18 #[.slice A ms.length c] w fun e w' => e = .returned (.tuple #[.bool (RIsInverseMonoid ms).1, .int .i64 (RIsInverseMonoid ms).2]) ∧ Below w.heap.size w w' := by
  have hmo := l04All_c A none c 0 ms [] w hn (by simp) h (see_nil w)
  have HMO := Lib.hid hmo
  clear hmo h
  obtain ⟨r, hr⟩ : ∃ r, r = RIsInverseMonoid ms := ⟨_, rfl⟩
  rw [← hr]
  have HR := Lib.hid hr
  clear hr
  go_enter Tryz.func18, Tryz.ntmps18
  go_wp2_with fail
  refine HMO.out.mono ?_
  rintro e w1 h1
  rcases h1 with ⟨hc, rfl, hb1⟩ | ⟨hc, v, rfl, hown, hb1⟩
  · have e1 : r = (false, moC ms []) := by rw [HR.out]; unfold RIsInverseMonoid; rw [if_neg hc]
    have E1 := Lib.hid e1
    have d : (moC ms [] != 0) = true := bne_iff_ne.2 hc
    clear hc e1
    go_wp2
    go_returns
    exact ⟨by rw [E1.out]; rfl, hb1⟩
  · have e1 : r = ((elsOf ms).all (oneB (elsOf ms)), 0) := by rw [HR.out]; unfold RIsInverseMonoid; rw [if_pos hc]
    have E1 := Lib.hid e1
    have clo := (MonR.of hc).clo
    have hlen := clo.len
    have CLO := Lib.hid clo
    clear hc e1 clo
    generalize elsOf ms = l at *
    obtain ⟨Av, cv, rfl, hsv⟩ := hown.see
    go_wp2
    go_loopw [6] (fun i wr => ∃ k : Nat, k ≤ l.length ∧ i = .int .i64 k ∧ AllTo (fun f => oneB l f = true) l k ∧ Below w1.heap.size w1 wr) (fun i _ => l.length - (intOf i).toNat)
    case atStart => exact ⟨0, Nat.zero_le _, rfl, AllTo.zero _ _, Below.refl _ _⟩
    case round =>
      obtain ⟨k, hk, rfl, hj, hb⟩ := hrel
      by_cases hlt : k < l.length
      · have see := hsv.below hb
        obtain ⟨b, o, f, rfl, hf, gf⟩ := see.at_ hlt
        have l0 : (0 : Int) ≤ k := by omega
        have l1 : (k : Int) < l.length := by omega
        obtain ⟨f0, f1, f2, f3, f4, f5⟩ := gf
        have hcall := l04Inverses_c (some ⟨b, o, none⟩) cv l (ptsL ms) f wr see CLO.out.all hlen (CLO.out.get hf).2
        have hone := oneB_ne l f
        have HJ := Lib.hid hj
        have HX := Lib.hid hf
        clear hj hf see
        generalize l.filter (invB f) = xs at *
        cases e : oneB l f
        · rw [e] at hone
          have HE := Lib.hid e
          have d : ((xs.length : Int) != 1) = true := hone
          clear e hone
          go_wp2_with fail
          refine hcall.mono ?_
          rintro e w3 ⟨v3, rfl, hown3, hb3⟩
          obtain ⟨A3, c3, rfl, _⟩ := hown3.see
          go_wp2
          go_returns
          refine ⟨?_, btrans hb1 (btrans hb hb3)⟩
          have : l.all (oneB l) = false := List.all_eq_false.2 ⟨f, List.mem_of_getElem? HX.out, by rw [HE.out]; simp⟩
          rw [E1.out, this]
          rfl
        · rw [e] at hone
          have HE := Lib.hid e
          have d : ((xs.length : Int) != 1) = false := hone
          clear e hone
          go_wp2_with fail
          refine hcall.mono ?_
          rintro e w3 ⟨v3, rfl, hown3, hb3⟩
          obtain ⟨A3, c3, rfl, _⟩ := hown3.see
          go_wp2
          go_roundw
          case rel => exact ⟨k + 1, by omega, by go_num, HJ.out.snoc HX.out HE.out, btrans hb hb3⟩
          case measure => simp [intOf]; omega
      · obtain rfl : k = l.length := by omega
        have HT := Lib.hid (List.all_eq_true.2 hj.all : l.all (oneB l) = true)
        clear hj
        go_wp2
        go_returns
        exact ⟨by rw [E1.out, HT.out]; rfl, btrans hb1 hb⟩
end Go.Proofs.YtilfamenadaboaaGreat
