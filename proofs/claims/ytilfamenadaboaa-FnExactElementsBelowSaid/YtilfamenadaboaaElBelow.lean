/- 'ElementsBelow', on both sides. No condition. -/
import Derived.Test.YtilfamenadaboaaBelowS
namespace Go.Proofs.Ytilfamenadaboaa
set_option linter.unusedSimpArgs false
set_option linter.unusedVariables false
set_option linter.unusedSectionVars false
open Go.RowKit
section
variable {l : List Mp} {n : Int} {M i bm bf : Nat} {f : Mp} {w : World}
set_option maxRecDepth 100000 in
set_option maxHeartbeats 2000000 in
theorem elb11_p (hc : Clo l n) (mon : MonAt w M l n) (hi : l[i]? = some f) (qm : w.cell? ⟨bm, 0, none⟩ = some (.pointer (some ⟨M, 0, none⟩))) (qf : w.cell? ⟨bf, 0, none⟩ = some (.int .i64 i)) :
    PredM 68 #[] #[.pointer (some ⟨bm, 0, none⟩), .pointer (some ⟨bf, 0, none⟩)] l (fun g => belowB l g f) w := fun W j g hW hj => by
  have qm1 := bcell hW qm
  have qf1 := bcell hW qf
  have h1 := isBelow_c hc (mon.below hW) hj hi
  show Calls Try.prog 68 #[.int .i64 (j : Int), .pointer (some ⟨bm, 0, none⟩), .pointer (some ⟨bf, 0, none⟩)] W fun e w' => e = .returned (.bool (belowB l g f)) ∧ Below W.heap.size W w'
  generalize belowB l g f = b at *
  clear qm qf hW hj hi mon hc
  go_enter Try.func68, Try.ntmps68
  go_wp2_with fail
  refine h1.mono ?_
  rintro e w2 ⟨rfl, hb2⟩
  go_wp2
  go_returns
  exact ⟨rfl, hb2⟩
set_option maxRecDepth 100000 in
set_option maxHeartbeats 2000000 in
theorem elb1_m (hc : Clo l n) : MethM 67 l n (fun f => l.filter (fun g => belowB l g f)) := fun w M i f mon hi => by
  have kk : Below w.heap.size w ((w.alloc (.cells #[.pointer (some ⟨M, 0, none⟩)] 44)).alloc (.cells #[.int .i64 (i : Int)] 3)) := by go_grown
  have qm : ((w.alloc (.cells #[.pointer (some ⟨M, 0, none⟩)] 44)).alloc (.cells #[.int .i64 (i : Int)] 3)).cell? ⟨w.heap.size, 0, none⟩ = some (.pointer (some ⟨M, 0, none⟩)) := by simp [go_sem]
  have qf : ((w.alloc (.cells #[.pointer (some ⟨M, 0, none⟩)] 44)).alloc (.cells #[.int .i64 (i : Int)] 3)).cell? ⟨w.heap.size + 1, 0, none⟩ = some (.int .i64 (i : Int)) := by simp [go_sem]
  have hp := elb11_p hc (mon.below kk) hi qm qf
  have honly := only_c M l n 68 _ _ (enters_of Try.func68 (by kernel_rfl) rfl) _ (mon.below kk) hc.len hp
  have HA := Lib.hid honly
  clear honly hp qf hi mon hc
  go_enter Try.func67, Try.ntmps67
  go_wp2_with fail
  refine HA.out.mono ?_
  rintro e w2 ⟨v, rfl, hown, hb2⟩
  obtain ⟨Av, cv, rfl, _⟩ := hown.see
  go_wp2
  go_returns
  exact ⟨_, rfl, hown.mono kk.size, btrans kk hb2⟩
end
noncomputable def RElementsBelow (ms : List Mp) (f : Mp) : List Mp × Int := ROf ms f (fun l f => l.filter (fun g => belowB l g f))
theorem RElementsBelow_len (ms : List Mp) (f : Mp) : (RElementsBelow ms f).1.length ≤ 1000 := by
  unfold RElementsBelow ROf
  split
  · rename_i h
    have := (MonR.of h).len
    have h2 := List.length_filter_le (fun g => belowB (elsOf ms) g f) (elsOf ms)
    show ((elsOf ms).filter (fun g => belowB (elsOf ms) g f)).length ≤ 1000
    omega
  · simp
set_option maxHeartbeats 2000000 in
set_option maxRecDepth 100000 in
theorem implElementsBelow_l {A : Option Addr} {c : Nat} {ms : List Mp} {f : Mp} {w : World} (h : SeeMaps w A ms) (hn : ms.length ≤ 2097152) (hA : NilOk A c) :
    Calls Try.prog 37 #[.slice A ms.length c, .agg #[.int .i64 f.p, .int .i64 f.a, .int .i64 f.b, .int .i64 f.c, .int .i64 f.d, .int .i64 f.e]] w fun e w' => ∃ v, e = .returned (.tuple #[v, .int .i64 (RElementsBelow ms f).2]) ∧ OwnMaps w' w.heap.size v (RElementsBelow ms f).1 ∧ Below w.heap.size w w' := by
  show Calls _ _ _ w (MsPost (ROf ms f (fun l f => l.filter (fun g => belowB l g f))) w)
  have kk := kbelow w (.cells #[.int .i64 f.p, .int .i64 f.a, .int .i64 f.b, .int .i64 f.c, .int .i64 f.d, .int .i64 f.e] 34)
  have he := of_c (f := f) 67 (fun l f => l.filter (fun g => belowB l g f)) (enters_of Try.func67 (by kernel_rfl) rfl) (h.below kk) hn hA (fun hm => elb1_m hm.clo)
  have HE := Lib.hid he
  clear he h
  go_enter Try.func37, Try.ntmps37
  go_wp2_with fail
  refine HE.out.mono ?_
  rintro e w1 ⟨v, rfl, hown, hb1⟩
  obtain ⟨Av, cv, rfl, _⟩ := hown.see
  go_wp2
  go_returns
  exact ⟨_, rfl, hown.mono kk.size, btrans kk hb1⟩
set_option maxHeartbeats 4000000 in
theorem specElementsBelow_l {A : Option Addr} {c : Nat} {ms : List Mp} {f : Mp} {w : World} (h : SeeMaps w A ms) (hn : ms.length ≤ 2097152) (_ : NilOk A c) :
    Calls Try.prog 36 #[.slice A ms.length c, .agg #[.int .i64 f.p, .int .i64 f.a, .int .i64 f.b, .int .i64 f.c, .int .i64 f.d, .int .i64 f.e]] w fun e w' => ∃ v, e = .returned (.tuple #[v, .int .i64 (RElementsBelow ms f).2]) ∧ OwnMaps w' w.heap.size v (RElementsBelow ms f).1 ∧ Below w.heap.size w w' := by
  show Calls _ _ _ w (MsPost (ROf ms f (fun l f => l.filter (fun g => belowB l g f))) w)
  have k0 : Below w.heap.size w ((w.alloc (.cells #[.int .i64 f.p, .int .i64 f.a, .int .i64 f.b, .int .i64 f.c, .int .i64 f.d, .int .i64 f.e] 34)).alloc (.cells #[.int .i64 f.p, .int .i64 f.a, .int .i64 f.b, .int .i64 f.c, .int .i64 f.d, .int .i64 f.e] 34)) := by go_grown
  have b1 : MpBox ((w.alloc (.cells #[.int .i64 f.p, .int .i64 f.a, .int .i64 f.b, .int .i64 f.c, .int .i64 f.d, .int .i64 f.e] 34)).alloc (.cells #[.int .i64 f.p, .int .i64 f.a, .int .i64 f.b, .int .i64 f.c, .int .i64 f.d, .int .i64 f.e] 34)) (w.heap.size + 1) f := MpBox.new f 34 (by simp)
  have b0 : MpBox ((w.alloc (.cells #[.int .i64 f.p, .int .i64 f.a, .int .i64 f.b, .int .i64 f.c, .int .i64 f.d, .int .i64 f.e] 34)).alloc (.cells #[.int .i64 f.p, .int .i64 f.a, .int .i64 f.b, .int .i64 f.c, .int .i64 f.d, .int .i64 f.e] 34)) w.heap.size f := (MpBox.new f 34 rfl).keep _
  have hmo := l04All_c A (some ⟨w.heap.size + 1, 0, none⟩) c 1 ms [f] _ hn (by simp) (h.below k0) (see_one b1)
  have HMO := Lib.hid hmo
  obtain ⟨r, hr⟩ : ∃ r, r = ROf ms f (fun l f => l.filter (fun g => belowB l g f)) := ⟨_, rfl⟩
  rw [← hr]
  have HR := Lib.hid hr
  clear hmo h hr b1
  go_enter Try.func36, Try.ntmps36
  go_wp2_with fail
  refine HMO.out.mono ?_
  rintro e w1 h1
  rcases h1 with ⟨hc, rfl, hb1⟩ | ⟨hc, v, rfl, hown, hb1⟩
  · have e1 : r = ([], moC ms [f]) := by rw [HR.out]; unfold ROf; rw [if_neg hc]
    have E1 := Lib.hid e1
    have d : (moC ms [f] != 0) = true := bne_iff_ne.2 hc
    clear hc e1
    go_wp2
    go_returns
    rw [E1.out]
    exact MsPost.nil (btrans k0 hb1)
  · have e1 : r = ((elsOf ms).filter (fun g => belowB (elsOf ms) g f), 0) := by rw [HR.out]; unfold ROf; rw [if_pos hc]
    have E1 := Lib.hid e1
    have hmr := MonR.of hc
    have clo := hmr.clo
    have fN := clo.all f (hmr.mem f (by simp))
    have CLO := Lib.hid clo
    have hlen := clo.len
    have bt := b0.below hb1
    have hbw := btrans k0 hb1
    clear hmr clo hc e1 b0 k0 hb1
    generalize elsOf ms = l at *
    obtain ⟨Av, cv, rfl, hsv⟩ := hown.see
    have own0 : OwnMaps (w1.alloc (.cells #[] 34)) w1.heap.size (.slice (some ⟨w1.heap.size, 0, none⟩) 0 0) ((l.take 0).filter (fun g => belowB l g f)) :=
      ⟨[], World.ownsRow_made (e := 34) (size := 6) w1 #[] 0 (Nat.le_refl _) (by decide) rfl, ⟨rfl, fun k m hk => by simp at hk⟩⟩
    have kk := kbelow w1 (.cells #[] 34)
    clear hown
    go_wp2
    go_loopw [9, 8] (fun i v wr => ∃ k : Nat, k ≤ l.length ∧ i = .int .i64 k ∧ OwnMaps wr w1.heap.size v ((l.take k).filter (fun g => belowB l g f)) ∧ Below w1.heap.size w1 wr) (fun i _ _ => l.length - (intOf i).toNat)
    case atStart => exact ⟨0, Nat.zero_le _, rfl, own0, kk⟩
    case round =>
      clear own0 kk
      obtain ⟨k, hk, rfl, own, hb⟩ := hrel
      by_cases hlt : k < l.length
      · obtain ⟨b, o, g, rfl, hg, gg⟩ := (hsv.below hb).at_ hlt
        have l0 : (0 : Int) ≤ k := by omega
        have l1 : (k : Int) < l.length := by omega
        have gN := (CLO.out.get hg).2
        obtain ⟨g0, g1, g2, g3, g4, g5⟩ := gg.bw
        obtain ⟨t0, t1, t2, t3, t4, t5⟩ := (bt.below hb).at.bw
        simp only [Nat.zero_add] at t0 t1 t2 t3 t4 t5
        have hcall := l04Below_c (some ⟨b, o, none⟩) cv l (ptsOf ms) g f
        have hsv2 := hsv.below hb
        have GG := Lib.hid gg
        have H1 := Lib.hid (fun W (hW : Below wr.heap.size wr W) => hcall W (hsv2.below hW) CLO.out gN fN)
        have hlen2 : ((l.take k).filter (fun g => belowB l g f)).length ≤ 300 := by
          have := List.length_filter_le (fun g => belowB l g f) (l.take k)
          rw [List.length_take] at this
          omega
        have hsn2 : belowB l g f = false → (l.take (k + 1)).filter (fun g => belowB l g f) = (l.take k).filter (fun g => belowB l g f) := fun e => by
          rw [List.take_add_one, hg, List.filter_append]
          simp [e]
        have hsn1 : belowB l g f = true → (l.take (k + 1)).filter (fun g => belowB l g f) = (l.take k).filter (fun g => belowB l g f) ++ [g] := fun e => by
          rw [List.take_add_one, hg, List.filter_append]
          simp [e]
        have S1 := Lib.hid hsn1
        have S2 := Lib.hid hsn2
        obtain ⟨xs, hxs⟩ : ∃ xs, xs = (l.take k).filter (fun g => belowB l g f) := ⟨_, rfl⟩
        rw [← hxs] at own hlen2 S1 S2
        clear hg hsn1 hsn2 hxs hcall hsv2 gg
        obtain ⟨Ao, co, rfl, _⟩ := own.see
        cases e : belowB l g f
        · have HC := Lib.hid (fun W hW => valB (H1.out W hW) e)
          have HE := Lib.hid e
          clear e H1
          go_wp2
          refine wp_region_bw (by kernel_rfl) (by kernel_rfl) ?_
          repeat go_big_quiet_step ((go_at_call 48; exact Calls.bw _ (HC.out _ (Subtype.property _))))
          refine wpQuiet_nil ?_
          rintro w3 ⟨⟨w3x, hb3⟩, rfl⟩
          go_wp2
          go_roundw
          case rel => exact ⟨k + 1, by omega, by go_num, by rw [S2.out HE.out]; exact own.below hb3, btrans hb hb3⟩
          case measure => simp [intOf]; omega
        · have HC := Lib.hid (fun W hW => valB (H1.out W hW) e)
          have HE := Lib.hid e
          clear e H1
          go_wp2
          refine wp_region_bw (by kernel_rfl) (by kernel_rfl) ?_
          repeat go_big_quiet_step ((go_at_call 48; exact Calls.bw _ (HC.out _ (Subtype.property _))))
          refine wpQuiet_nil ?_
          rintro w3 ⟨⟨w3x, hb3⟩, rfl⟩
          have own3 := own.below hb3
          have hb4 := btrans hb hb3
          have f0 := bcell hb3 GG.out.h0
          have f1 := bcell hb3 GG.out.h1
          have f2 := bcell hb3 GG.out.h2
          have f3 := bcell hb3 GG.out.h3
          have f4 := bcell hb3 GG.out.h4
          have f5 := bcell hb3 GG.out.h5
          clear g0 g1 g2 g3 g4 g5 t0 t1 t2 t3 t4 t5
          go_wp2_with (at_builtin; refine wpList_push_map _ rfl (.tmp 34) (.tmp 39) rfl w1.heap.size _ xs rfl (own3.below (kbelow _ _)) _ g rfl (MpBox.new g 34 rfl) (by omega) (btrans hb4 (kbelow _ _)).size ?_; intro v8 w8 hown8 hg8 hv8)
          have hb8 : Below w1.heap.size w1 w8 := Below.grown (btrans hb4 (kbelow _ _)) hg8 (btrans hb4 (kbelow _ _)).size (fun q hq => (own3.lt q hq).1)
          go_wp2
          go_roundw
          case rel => exact ⟨k + 1, by omega, by go_num, by rw [S1.out HE.out]; exact hown8, hb8⟩
          case measure => simp [intOf]; omega
      · obtain rfl : k = l.length := by omega
        rw [List.take_length] at own
        obtain ⟨Ao, co, rfl, _⟩ := own.see
        go_wp2
        go_returns
        rw [E1.out]
        exact ⟨_, rfl, own.mono hbw.size, btrans hbw hb⟩
end Go.Proofs.Ytilfamenadaboaa
