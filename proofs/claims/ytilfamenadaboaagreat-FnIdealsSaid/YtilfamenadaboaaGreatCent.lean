/- 'CentraliserIn', on both sides. No condition. -/
import Derived.Test.YtilfamenadaboaaGreatRegMon
import Derived.Test.YtilfamenadaboaaGreatInvMon
namespace Go.Proofs.YtilfamenadaboaaGreat
set_option linter.unusedSimpArgs false
set_option linter.unusedVariables false
set_option linter.unusedSectionVars false
open Go.RowKit
section
variable {l : List Mp} {n : Int} {M i bm bf : Nat} {f : Mp} {w : World}
set_option maxRecDepth 100000 in
set_option maxHeartbeats 2000000 in
theorem cent11_p (hc : Clo l n) (mon : MonAt w M l n) (hi : l[i]? = some f) (qm : w.cell? ⟨bm, 0, none⟩ = some (.pointer (some ⟨M, 0, none⟩))) (qf : w.cell? ⟨bf, 0, none⟩ = some (.int .i64 i)) :
    PredM 67 #[] #[.pointer (some ⟨bm, 0, none⟩), .pointer (some ⟨bf, 0, none⟩)] l (comB f) w := fun W j g hW hj => by
  have QM := bwcell (bcell hW qm)
  have QF := bwcell (bcell hW qf)
  obtain ⟨q, hq, h1⟩ := hc.call (mon.below hW) hi hj
  obtain ⟨q2, hq2, h2⟩ := hc.call (mon.below hW) hj hi
  have hs := hc.same hq hq2
  have H1 := Lib.hid h1
  have H2 := Lib.hid h2
  show Calls Tryz.prog 67 #[.int .i64 (j : Int), .pointer (some ⟨bm, 0, none⟩), .pointer (some ⟨bf, 0, none⟩)] W fun e w' => e = .returned (.bool (decide (mulM f g = mulM g f))) ∧ Below W.heap.size W w'
  rw [← hs]
  clear hs h1 h2 hq hq2 qm qf hW hj hi mon hc
  go_enter Tryz.func67, Tryz.ntmps67
  go_wp2
  refine wp_region_bw (by kernel_rfl) (by kernel_rfl) ?_
  repeat go_big_quiet_step ((go_at_call 68; first | (with_reducible exact Calls.bw _ (H1.out _)) | (with_reducible exact Calls.bw _ (H2.out _))))
  refine wpQuiet_nil ?_
  rintro w2 ⟨⟨w2x, hb2⟩, rfl⟩
  go_wp2
  go_returns
  exact ⟨rfl, hb2⟩
set_option maxRecDepth 100000 in
set_option maxHeartbeats 2000000 in
theorem cent1_m (hc : Clo l n) : MethM 65 l n (fun f => l.filter (comB f)) := fun w M i f mon hi => by
  have kk : Below w.heap.size w ((w.alloc (.cells #[.pointer (some ⟨M, 0, none⟩)] 48)).alloc (.cells #[.int .i64 (i : Int)] 3)) := by go_grown
  have qm : ((w.alloc (.cells #[.pointer (some ⟨M, 0, none⟩)] 48)).alloc (.cells #[.int .i64 (i : Int)] 3)).cell? ⟨w.heap.size, 0, none⟩ = some (.pointer (some ⟨M, 0, none⟩)) := by simp [go_sem]
  have qf : ((w.alloc (.cells #[.pointer (some ⟨M, 0, none⟩)] 48)).alloc (.cells #[.int .i64 (i : Int)] 3)).cell? ⟨w.heap.size + 1, 0, none⟩ = some (.int .i64 (i : Int)) := by simp [go_sem]
  have hp := cent11_p hc (mon.below kk) hi qm qf
  have honly := only_c M l n 67 _ _ (enters_of Tryz.func67 (by kernel_rfl) rfl) _ (mon.below kk) hc.len hp
  have HA := Lib.hid honly
  clear honly hp qf hi mon hc
  go_enter Tryz.func65, Tryz.ntmps65
  go_wp2_with fail
  refine HA.out.mono ?_
  rintro e w2 ⟨v, rfl, hown, hb2⟩
  obtain ⟨Av, cv, rfl, _⟩ := hown.see
  go_wp2
  go_returns
  exact ⟨_, rfl, hown.mono kk.size, btrans kk hb2⟩
end
noncomputable def RCentraliserIn (ms : List Mp) (f : Mp) : List Mp × Int := ROf ms f (fun l f => l.filter (comB f))
theorem RCentraliserIn_len (ms : List Mp) (f : Mp) : (RCentraliserIn ms f).1.length ≤ 1000 := by
  unfold RCentraliserIn ROf
  split
  · rename_i h
    have := (MonR.of h).len
    have h2 := List.length_filter_le (comB f) (elsOf ms)
    show ((elsOf ms).filter (comB f)).length ≤ 1000
    omega
  · simp
set_option maxHeartbeats 2000000 in
set_option maxRecDepth 100000 in
theorem implCentraliserIn_l {A : Option Addr} {c : Nat} {ms : List Mp} {f : Mp} {w : World} (h : SeeMaps w A ms) (hn : ms.length ≤ 2097152) (hA : NilOk A c) :
    Calls Tryz.prog 31 #[.slice A ms.length c, .agg #[.int .i64 f.p, .int .i64 f.a, .int .i64 f.b, .int .i64 f.c, .int .i64 f.d, .int .i64 f.e]] w fun e w' => ∃ v, e = .returned (.tuple #[v, .int .i64 (RCentraliserIn ms f).2]) ∧ OwnMaps w' w.heap.size v (RCentraliserIn ms f).1 ∧ Below w.heap.size w w' := by
  show Calls _ _ _ w (MsPost (ROf ms f (fun l f => l.filter (comB f))) w)
  have kk := kbelow w (.cells #[.int .i64 f.p, .int .i64 f.a, .int .i64 f.b, .int .i64 f.c, .int .i64 f.d, .int .i64 f.e] 27)
  have he := of_c (f := f) 65 (fun l f => l.filter (comB f)) (enters_of Tryz.func65 (by kernel_rfl) rfl) (h.below kk) hn hA (fun hm => cent1_m hm.clo)
  have HE := Lib.hid he
  clear he h
  go_enter Tryz.func31, Tryz.ntmps31
  go_wp2_with fail
  refine HE.out.mono ?_
  rintro e w1 ⟨v, rfl, hown, hb1⟩
  obtain ⟨Av, cv, rfl, _⟩ := hown.see
  go_wp2
  go_returns
  exact ⟨_, rfl, hown.mono kk.size, btrans kk hb1⟩
set_option maxHeartbeats 4000000 in
theorem specCentraliserIn_l {A : Option Addr} {c : Nat} {ms : List Mp} {f : Mp} {w : World} (h : SeeMaps w A ms) (hn : ms.length ≤ 2097152) (_ : NilOk A c) :
    Calls Tryz.prog 32 #[.slice A ms.length c, .agg #[.int .i64 f.p, .int .i64 f.a, .int .i64 f.b, .int .i64 f.c, .int .i64 f.d, .int .i64 f.e]] w fun e w' => ∃ v, e = .returned (.tuple #[v, .int .i64 (RCentraliserIn ms f).2]) ∧ OwnMaps w' w.heap.size v (RCentraliserIn ms f).1 ∧ Below w.heap.size w w' := by
  show Calls _ _ _ w (MsPost (ROf ms f (fun l f => l.filter (comB f))) w)
  have k0 : Below w.heap.size w ((w.alloc (.cells #[.int .i64 f.p, .int .i64 f.a, .int .i64 f.b, .int .i64 f.c, .int .i64 f.d, .int .i64 f.e] 27)).alloc (.cells #[.int .i64 f.p, .int .i64 f.a, .int .i64 f.b, .int .i64 f.c, .int .i64 f.d, .int .i64 f.e] 27)) := by go_grown
  have b1 : MpBox ((w.alloc (.cells #[.int .i64 f.p, .int .i64 f.a, .int .i64 f.b, .int .i64 f.c, .int .i64 f.d, .int .i64 f.e] 27)).alloc (.cells #[.int .i64 f.p, .int .i64 f.a, .int .i64 f.b, .int .i64 f.c, .int .i64 f.d, .int .i64 f.e] 27)) (w.heap.size + 1) f := MpBox.new f 27 (by simp)
  have b0 : MpBox ((w.alloc (.cells #[.int .i64 f.p, .int .i64 f.a, .int .i64 f.b, .int .i64 f.c, .int .i64 f.d, .int .i64 f.e] 27)).alloc (.cells #[.int .i64 f.p, .int .i64 f.a, .int .i64 f.b, .int .i64 f.c, .int .i64 f.d, .int .i64 f.e] 27)) w.heap.size f := (MpBox.new f 27 rfl).keep _
  have hmo := l04All_c A (some ⟨w.heap.size + 1, 0, none⟩) c 1 ms [f] _ hn (by simp) (h.below k0) (see_one b1)
  have HMO := Lib.hid hmo
  obtain ⟨r, hr⟩ : ∃ r, r = ROf ms f (fun l f => l.filter (comB f)) := ⟨_, rfl⟩
  rw [← hr]
  have HR := Lib.hid hr
  clear hmo h hr b1
  go_enter Tryz.func32, Tryz.ntmps32
  go_wp2_with fail
  refine HMO.out.mono ?_
  rintro e w1 h1
  rcases h1 with ⟨hc, rfl, hb1⟩ | ⟨hc, v, rfl, hown, hb1⟩
  · have e1 : r = ([], moC ms [f]) := by rw [HR.out]; unfold ROf; rw [if_neg hc]
    have E1 := Lib.hid e1
    have d : (moC ms [f] != 0) = true := bne_iff_ne.2 hc
    clear hc e1
    go_wp2
    go_returns
    rw [E1.out]
    exact MsPost.nil (btrans k0 hb1)
  · have e1 : r = ((elsOf ms).filter (comB f), 0) := by rw [HR.out]; unfold ROf; rw [if_pos hc]
    have E1 := Lib.hid e1
    have hmr := MonR.of hc
    have clo := hmr.clo
    have fN := clo.all f (hmr.mem f (by simp))
    have CLO := Lib.hid clo
    have hlen := clo.len
    have bt := b0.below hb1
    have hbw := btrans k0 hb1
    clear hmr clo hc e1 b0 k0 hb1
    generalize elsOf ms = l at *
    obtain ⟨Av, cv, rfl, hsv⟩ := hown.see
    have own0 : OwnMaps (w1.alloc (.cells #[] 27)) w1.heap.size (.slice (some ⟨w1.heap.size, 0, none⟩) 0 0) ((l.take 0).filter (comB f)) :=
      ⟨[], World.ownsRow_made (e := 27) (size := 6) w1 #[] 0 (Nat.le_refl _) (by decide) rfl, ⟨rfl, fun k m hk => by simp at hk⟩⟩
    have kk := kbelow w1 (.cells #[] 27)
    clear hown
    go_wp2
    go_loopw [9, 8] (fun i v wr => ∃ k : Nat, k ≤ l.length ∧ i = .int .i64 k ∧ OwnMaps wr w1.heap.size v ((l.take k).filter (comB f)) ∧ Below w1.heap.size w1 wr) (fun i _ _ => l.length - (intOf i).toNat)
    case atStart => exact ⟨0, Nat.zero_le _, rfl, own0, kk⟩
    case round =>
      clear own0 kk
      obtain ⟨k, hk, rfl, own, hb⟩ := hrel
      by_cases hlt : k < l.length
      · obtain ⟨b, o, g, rfl, hg, gg⟩ := (hsv.below hb).at_ hlt
        have l0 : (0 : Int) ≤ k := by omega
        have l1 : (k : Int) < l.length := by omega
        have gN := (CLO.out.get hg).2
        obtain ⟨g0, g1, g2, g3, g4, g5⟩ := gg.bw
        obtain ⟨t0, t1, t2, t3, t4, t5⟩ := (bt.below hb).at.bw
        simp only [Nat.zero_add] at t0 t1 t2 t3 t4 t5
        have h1 := fun W => l01Times_c g f (ptsL ms) W gN fN
        have h2 := fun W => l01Times_c f g (ptsL ms) W fN gN
        have H1 := Lib.hid h1
        have H2 := Lib.hid h2
        have GG := Lib.hid gg
        have he := eq_map (mulM g f) (mulM f g)
        have hcomm : decide (mulM g f = mulM f g) = comB f g := by unfold comB; exact decide_eq_decide.2 eq_comm
        simp only [hcomm] at he
        have hlen2 : ((l.take k).filter (comB f)).length ≤ 300 := by
          have := List.length_filter_le (comB f) (l.take k)
          rw [List.length_take] at this
          omega
        have hsn2 : comB f g = false → (l.take (k + 1)).filter (comB f) = (l.take k).filter (comB f) := fun e => by
          rw [List.take_add_one, hg, List.filter_append]
          simp [e]
        have hsn1 : comB f g = true → (l.take (k + 1)).filter (comB f) = (l.take k).filter (comB f) ++ [g] := fun e => by
          rw [List.take_add_one, hg, List.filter_append]
          simp [e]
        have S1 := Lib.hid hsn1
        have S2 := Lib.hid hsn2
        obtain ⟨xs, hxs⟩ : ∃ xs, xs = (l.take k).filter (comB f) := ⟨_, rfl⟩
        rw [← hxs] at own hlen2 S1 S2
        clear hg hsn1 hsn2 hxs h1 h2 hcomm gg
        obtain ⟨Ao, co, rfl, _⟩ := own.see
        cases e : comB f g
        · simp only [e] at he
          have HE := Lib.hid e
          clear e
          go_wp2
          refine wp_region_bw (by kernel_rfl) (by kernel_rfl) ?_
          repeat go_big_quiet_step ((go_at_call 69; first | (with_reducible exact Calls.bw _ (H1.out _)) | (with_reducible exact Calls.bw _ (H2.out _))))
          refine wpQuiet_nil ?_
          rintro w3 ⟨⟨w3x, hb3⟩, rfl⟩
          go_wp2
          go_roundw
          case rel => exact ⟨k + 1, by omega, by go_num, by rw [S2.out HE.out]; exact own.below hb3, btrans hb hb3⟩
          case measure => simp [intOf]; omega
        · simp only [e] at he
          have HE := Lib.hid e
          clear e
          go_wp2
          refine wp_region_bw (by kernel_rfl) (by kernel_rfl) ?_
          repeat go_big_quiet_step ((go_at_call 69; first | (with_reducible exact Calls.bw _ (H1.out _)) | (with_reducible exact Calls.bw _ (H2.out _))))
          refine wpQuiet_nil ?_
          rintro w3 ⟨⟨w3x, hb3⟩, rfl⟩
          have own3 := own.below hb3
          have hb4 := btrans hb hb3
          have f0 := bcell hb3 GG.out.h0
          have f1 := bcell hb3 GG.out.h1
          have f2 := bcell hb3 GG.out.h2
          have f3 := bcell hb3 GG.out.h3
          have f4 := bcell hb3 GG.out.h4
          have f5 := bcell hb3 GG.out.h5
          clear g0 g1 g2 g3 g4 g5 t0 t1 t2 t3 t4 t5
          go_wp2_with (at_builtin; refine wpList_push_map _ rfl (.tmp 40) (.tmp 45) rfl w1.heap.size _ xs rfl (own3.below (kbelow _ _)) _ g rfl (MpBox.new g 27 rfl) (by omega) (btrans hb4 (kbelow _ _)).size ?_; intro v8 w8 hown8 hg8 hv8)
          have hb8 : Below w1.heap.size w1 w8 := Below.grown (btrans hb4 (kbelow _ _)) hg8 (btrans hb4 (kbelow _ _)).size (fun q hq => (own3.lt q hq).1)
          go_wp2
          go_roundw
          case rel => exact ⟨k + 1, by omega, by go_num, by rw [S1.out HE.out]; exact hown8, hb8⟩
          case measure => simp [intOf]; omega
      · obtain rfl : k = l.length := by omega
        rw [List.take_length] at own
        obtain ⟨Ao, co, rfl, _⟩ := own.see
        go_wp2
        go_returns
        rw [E1.out]
        exact ⟨_, rfl, own.mono hbw.size, btrans hbw hb⟩
end Go.Proofs.YtilfamenadaboaaGreat
