/- The reference's inverses and regular elements. No condition. -/
import Derived.Test.YtilfamenadaboaaGreatSpecE
import Derived.Test.YtilfamenadaboaaGreatRegular
namespace Go.Proofs.YtilfamenadaboaaGreat
open Go.RowKit
theorem regB_inv {l : List Mp} {n : Int} (hc : Clo l n) {f : Mp} (hf : f ∈ l) : regB l f = decide (0 < (l.filter (invB f)).length) := by
  rw [Bool.eq_iff_iff, decide_eq_true_eq, List.length_pos_iff_exists_mem]
  unfold regB
  rw [List.any_eq_true]
  constructor
  · rintro ⟨g, hg, e⟩
    have E : mulM (mulM f g) f = f := by simpa using e
    have fN := hc.all f hf
    have gN := hc.all g hg
    have fgN := mulM_MpN fN gN
    have idem : mulM (mulM f g) (mulM f g) = mulM f g := by rw [← mulM_assoc fgN fN gN, E]
    refine ⟨mulM g (mulM f g), List.mem_filter.2 ⟨hc.mul _ hg _ (hc.mul _ hf _ hg), ?_⟩⟩
    have fh : mulM f (mulM g (mulM f g)) = mulM f g := by rw [← mulM_assoc fN gN fgN, idem]
    unfold invB
    rw [fh, E, mulM_assoc gN fgN fgN, idem]
    simp
  · rintro ⟨g, hg⟩
    obtain ⟨h1, h2⟩ := List.mem_filter.1 hg
    unfold invB at h2
    rw [Bool.and_eq_true] at h2
    exact ⟨g, h1, h2.1⟩
set_option maxHeartbeats 4000000 in
theorem l04Inverses_c (A : Option Addr) (c : Nat) (l : List Mp) (n : Int) (f : Mp) (w : World) (hs : SeeMaps w A l) (hN : ∀ g ∈ l, MpN g n) (hl : l.length ≤ 300) (hf : MpN f n) :
    Calls Tryz.prog 43 #[.slice A l.length c, .agg #[.int .i64 f.p, .int .i64 f.a, .int .i64 f.b, .int .i64 f.c, .int .i64 f.d, .int .i64 f.e]] w fun e w' => ∃ v, e = .returned v ∧ OwnMaps w' w.heap.size v (l.filter (invB f)) ∧ Below w.heap.size w w' := by
  have kk := kbelow w (.cells #[.int .i64 f.p, .int .i64 f.a, .int .i64 f.b, .int .i64 f.c, .int .i64 f.d, .int .i64 f.e] 27)
  have bt := MpBox.new (w := w) f 27 rfl
  have see := hs.below kk
  have HN := Lib.hid hN
  clear hN hs
  go_enter Tryz.func43, Tryz.ntmps43
  go_wp2
  obtain ⟨W1, hW1⟩ : ∃ W1, W1 = w.alloc (.cells #[.int .i64 f.p, .int .i64 f.a, .int .i64 f.b, .int .i64 f.c, .int .i64 f.d, .int .i64 f.e] 27) := ⟨_, rfl⟩
  have own0 : OwnMaps (W1.alloc (.cells #[] 27)) W1.heap.size (.slice (some ⟨w.heap.size + 1, 0, none⟩) 0 0) ((l.take 0).filter (invB f)) := by
    have h1 := World.ownsRow_made (e := 27) (size := 6) W1 #[] 0 (Nat.le_refl _) (by decide) rfl
    have h2 : (W1.alloc (.cells #[] 27)).ownsRow W1.heap.size 27 6 (.slice (some ⟨w.heap.size + 1, 0, none⟩) 0 0) 0 [] := by rw [hW1] at h1 ⊢; simpa using h1
    exact ⟨[], h2, ⟨rfl, fun k m hk => by simp at hk⟩⟩
  rw [← hW1] at kk bt see ⊢
  clear hW1
  have kk2 := kbelow W1 (.cells #[] 27)
  go_loopw [6, 5] (fun i v wr => ∃ k : Nat, k ≤ l.length ∧ i = .int .i64 k ∧ OwnMaps wr W1.heap.size v ((l.take k).filter (invB f)) ∧ Below W1.heap.size W1 wr) (fun i _ _ => l.length - (intOf i).toNat)
  case atStart => exact ⟨0, Nat.zero_le _, rfl, own0, kk2⟩
  case round =>
    clear own0 kk2
    obtain ⟨k, hk, rfl, own, hb⟩ := hrel
    by_cases hlt : k < l.length
    · obtain ⟨b, o, g, rfl, hg, gg⟩ := (see.below hb).at_ hlt
      have l0 : (0 : Int) ≤ k := by omega
      have l1 : (k : Int) < l.length := by omega
      have gN := HN.out g (List.mem_of_getElem? hg)
      have fgN := mulM_MpN hf gN
      obtain ⟨g0, g1, g2, g3, g4, g5⟩ := gg
      have kg := kbelow wr (.cells #[.int .i64 g.p, .int .i64 g.a, .int .i64 g.b, .int .i64 g.c, .int .i64 g.d, .int .i64 g.e] 27)
      have bg := MpBox.new (w := wr) g 27 rfl
      have bf := (bt.below hb).below kg
      obtain ⟨t0, t1, t2, t3, t4, t5⟩ := bf.at.cells0
      have h1 := l01Times_c f g n (wr.alloc (.cells #[.int .i64 g.p, .int .i64 g.a, .int .i64 g.b, .int .i64 g.c, .int .i64 g.d, .int .i64 g.e] 27)) hf gN
      have h2 := fun W => l01Times_c (mulM f g) f n W fgN hf
      have h3 := fun W => l01Times_c g (mulM f g) n W gN fgN
      have H2 := Lib.hid h2
      have H3 := Lib.hid h3
      have he1 := eq_map (mulM (mulM f g) f) f
      have he2 := eq_map (mulM g (mulM f g)) g
      have hlen : ((l.take k).filter (invB f)).length ≤ 300 := by
        have := List.length_filter_le (invB f) (l.take k)
        rw [List.length_take] at this
        omega
      have hsn2 : invB f g = false → (l.take (k + 1)).filter (invB f) = (l.take k).filter (invB f) := fun e => by
        rw [List.take_add_one, hg, List.filter_append]
        simp [e]
      have hsn1 : invB f g = true → (l.take (k + 1)).filter (invB f) = (l.take k).filter (invB f) ++ [g] := fun e => by
        rw [List.take_add_one, hg, List.filter_append]
        simp [e]
      have S1 := Lib.hid hsn1
      have S2 := Lib.hid hsn2
      have hinv : invB f g = (decide (mulM (mulM f g) f = f) && decide (mulM g (mulM f g) = g)) := rfl
      obtain ⟨xs, hxs⟩ : ∃ xs, xs = (l.take k).filter (invB f) := ⟨_, rfl⟩
      rw [← hxs] at own hlen S1 S2
      clear hxs hsn1 hsn2 h2 h3 hg see
      obtain ⟨Ao, co, rfl, _⟩ := own.see
      have own1 := own.below kg
      have hb1 := btrans hb kg
      obtain ⟨fg, hfg⟩ : ∃ fg, fg = mulM f g := ⟨_, rfl⟩
      rw [← hfg] at h1 H2 H3 he1 he2 hinv fgN
      clear hfg
      obtain ⟨p1, hp1⟩ : ∃ p1, p1 = mulM fg f := ⟨_, rfl⟩
      obtain ⟨p2, hp2⟩ : ∃ p2, p2 = mulM g fg := ⟨_, rfl⟩
      rw [← hp1] at H2 he1 hinv
      rw [← hp2] at H3 he2 hinv
      clear hp1 hp2
      have HINV := Lib.hid hinv
      clear hinv
      go_wp2_with fail
      refine h1.mono ?_
      rintro e w3 ⟨rfl, hb3⟩
      have kf := kbelow w3 (.cells #[.int .i64 fg.p, .int .i64 fg.a, .int .i64 fg.b, .int .i64 fg.c, .int .i64 fg.d, .int .i64 fg.e] 27)
      have bfg := MpBox.new (w := w3) fg 27 rfl
      have k4 := btrans hb3 kf
      have bf4 := bf.below k4
      have bg4 := bg.below k4
      have own4 := own1.below k4
      have hb4 := btrans hb1 k4
      obtain ⟨a0, a1, a2, a3, a4, a5⟩ := bf4.at.bw
      obtain ⟨b0, b1, b2, b3, b4, b5⟩ := bg4.at.bw
      obtain ⟨c0, c1, c2, c3, c4, c5⟩ := bfg.at.bw
      simp only [Nat.zero_add] at a0 a1 a2 a3 a4 a5 b0 b1 b2 b3 b4 b5 c0 c1 c2 c3 c4 c5
      clear t0 t1 t2 t3 t4 t5 g0 g1 g2 g3 g4 g5 h1
      cases e1 : decide (p1 = f)
      · simp only [e1] at he1
        have hF : invB f g = false := by rw [HINV.out, e1]; rfl
        have HF := Lib.hid hF
        clear hF e1
        go_wp2
        refine wp_region_bw (by kernel_rfl) (by kernel_rfl) ?_
        repeat go_big_quiet_step ((go_at_call 69; exact Calls.bw _ (H2.out _)))
        refine wpQuiet_nil ?_
        rintro w6 ⟨⟨w6x, hb6⟩, rfl⟩
        go_wp2
        go_roundw
        case rel => exact ⟨k + 1, by omega, by go_num, by rw [S2.out HF.out]; exact own4.below hb6, btrans hb4 hb6⟩
        case measure => simp [intOf]; omega
      · simp only [e1] at he1
        cases e2 : decide (p2 = g)
        · simp only [e2] at he2
          have hF : invB f g = false := by rw [HINV.out, e1, e2]; rfl
          have HF := Lib.hid hF
          clear hF e1 e2
          go_wp2
          refine wp_region_bw (by kernel_rfl) (by kernel_rfl) ?_
          repeat go_big_quiet_step ((first | (go_at_call_of 69 (Value.agg #[.int .i64 f.p, .int .i64 f.a, .int .i64 f.b, .int .i64 f.c, .int .i64 f.d, .int .i64 f.e]); exact Calls.bw _ (H2.out _)) | (go_at_call_of 69 (Value.agg #[.int .i64 g.p, .int .i64 g.a, .int .i64 g.b, .int .i64 g.c, .int .i64 g.d, .int .i64 g.e]); exact Calls.bw _ (H3.out _))))
          refine wpQuiet_nil ?_
          rintro w6 ⟨⟨w6x, hb6⟩, rfl⟩
          go_wp2
          go_roundw
          case rel => exact ⟨k + 1, by omega, by go_num, by rw [S2.out HF.out]; exact own4.below hb6, btrans hb4 hb6⟩
          case measure => simp [intOf]; omega
        · simp only [e2] at he2
          have hT : invB f g = true := by rw [HINV.out, e1, e2]; rfl
          have HT := Lib.hid hT
          clear hT e1 e2
          go_wp2
          refine wp_region_bw (by kernel_rfl) (by kernel_rfl) ?_
          repeat go_big_quiet_step ((first | (go_at_call_of 69 (Value.agg #[.int .i64 f.p, .int .i64 f.a, .int .i64 f.b, .int .i64 f.c, .int .i64 f.d, .int .i64 f.e]); exact Calls.bw _ (H2.out _)) | (go_at_call_of 69 (Value.agg #[.int .i64 g.p, .int .i64 g.a, .int .i64 g.b, .int .i64 g.c, .int .i64 g.d, .int .i64 g.e]); exact Calls.bw _ (H3.out _))))
          refine wpQuiet_nil ?_
          rintro w6 ⟨⟨w6x, hb6⟩, rfl⟩
          have own6 := own4.below hb6
          have hb7 := btrans hb4 hb6
          obtain ⟨t0, t1, t2, t3, t4, t5⟩ := (bg4.below hb6).at.cells0
          clear a0 a1 a2 a3 a4 a5 b0 b1 b2 b3 b4 b5 c0 c1 c2 c3 c4 c5
          go_wp2_with (at_builtin; refine wpList_push_map _ rfl (.tmp 35) (.tmp 37) rfl W1.heap.size _ xs rfl (own6.below (kbelow _ _)) _ g rfl (MpBox.new g 27 rfl) (by omega) (btrans hb7 (kbelow _ _)).size ?_; intro v8 w8 hown8 hg8 hv8)
          have hb8 : Below W1.heap.size W1 w8 := Below.grown (btrans hb7 (kbelow _ _)) hg8 (btrans hb7 (kbelow _ _)).size (fun q hq => (own6.lt q hq).1)
          go_wp2
          go_roundw
          case rel => exact ⟨k + 1, by omega, by go_num, by rw [S1.out HT.out]; exact hown8, hb8⟩
          case measure => simp [intOf]; omega
    · obtain rfl : k = l.length := by omega
      rw [List.take_length] at own
      obtain ⟨Ao, co, rfl, _⟩ := own.see
      go_wp2
      go_returns
      exact ⟨_, rfl, own.mono kk.size, btrans kk hb⟩
/-! 'IsRegularMonoid', on both sides. -/
set_option maxHeartbeats 2000000 in
theorem l04Regular_c (A : Option Addr) (c : Nat) (l : List Mp) (n : Int) (f : Mp) (w : World) (hs : SeeMaps w A l) (hc : Clo l n) (hf : f ∈ l) :
    Calls Tryz.prog 46 #[.slice A l.length c, .agg #[.int .i64 f.p, .int .i64 f.a, .int .i64 f.b, .int .i64 f.c, .int .i64 f.d, .int .i64 f.e]] w fun e w' => e = .returned (.bool (regB l f)) ∧ Below w.heap.size w w' := by
  have kk := kbelow w (.cells #[.int .i64 f.p, .int .i64 f.a, .int .i64 f.b, .int .i64 f.c, .int .i64 f.d, .int .i64 f.e] 27)
  have hi := l04Inverses_c A c l n f _ (hs.below kk) hc.all hc.len (hc.all f hf)
  have e1 := regB_inv hc hf
  have E1 := Lib.hid e1
  clear e1 hs
  have hlen : (l.filter (invB f)).length ≤ 300 := Nat.le_trans (List.length_filter_le _ _) hc.len
  clear hc
  generalize l.filter (invB f) = xs at *
  go_enter Tryz.func46, Tryz.ntmps46
  go_wp2_with fail
  refine hi.mono ?_
  rintro e w2 ⟨v, rfl, hown, hb2⟩
  obtain ⟨Av, cv, rfl, _⟩ := hown.see
  go_wp2
  go_returns
  exact ⟨ret_bool (by rw [E1.out]), btrans kk hb2⟩
noncomputable def RIsRegularMonoid (ms : List Mp) : Bool × Int := if moC ms [] = 0 then ((elsOf ms).all (regB (elsOf ms)), 0) else (false, moC ms [])
theorem see_nil (w : World) : SeeMaps w none [] := fun h => absurd rfl h
set_option maxHeartbeats 2000000 in
set_option maxRecDepth 100000 in
theorem implIsRegularMonoid_l {A : Option Addr} {c : Nat} {ms : List Mp} {w : World} (h : SeeMaps w A ms) (hn : ms.length ≤ 2097152) (hA : NilOk A c) :
    Calls Tryz.prog 15 #[.slice A ms.length c] w fun e w' => e = .returned (.tuple #[.bool (RIsRegularMonoid ms).1, .int .i64 (RIsRegularMonoid ms).2]) ∧ Below w.heap.size w w' := by
  have hmo := monoidOf_c A none c 0 ms [] w hn (by simp) h (see_nil w) hA (fun _ => rfl)
  have HMO := Lib.hid hmo
  clear hmo h
  obtain ⟨r, hr⟩ : ∃ r, r = RIsRegularMonoid ms := ⟨_, rfl⟩
  rw [← hr]
  have HR := Lib.hid hr
  clear hr
  go_enter Tryz.func15, Tryz.ntmps15
  go_wp2_with fail
  refine HMO.out.mono ?_
  rintro e w1 h1
  rcases h1 with ⟨hc, rfl, hb1⟩ | ⟨hc, M, vp, rfl, mon, hown, hb1⟩
  · have e1 : r = (false, moC ms []) := by rw [HR.out]; unfold RIsRegularMonoid; rw [if_neg hc]
    have E1 := Lib.hid e1
    have d : (moC ms [] == 0) = false := beq_eq_false_iff_ne.2 hc
    clear hc e1
    go_wp2
    go_returns
    exact ⟨by rw [E1.out]; rfl, hb1⟩
  · have e1 : r = ((elsOf ms).all (regB (elsOf ms)), 0) := by rw [HR.out]; unfold RIsRegularMonoid; rw [if_pos hc]
    have E1 := Lib.hid e1
    have clo := (MonR.of hc).clo
    have hp : PredM 45 #[.pointer (some ⟨M, 0, none⟩)] #[] (elsOf ms) (regB (elsOf ms)) w1 := fun W i f hW hi => isRegular_c clo (mon.below hW) hi
    have hall := all_cB M (elsOf ms) (ptsL ms) 45 (.pointer (some ⟨M, 0, none⟩)) (regB (elsOf ms)) (enters_of Tryz.func45 (by kernel_rfl) rfl) w1 mon clo.len hp
    obtain ⟨An, cn, rfl, _⟩ := hown.see
    have HA := Lib.hid hall
    clear hall hp clo mon hc e1 hown
    generalize (elsOf ms).all (regB (elsOf ms)) = b at *
    go_wp2_with fail
    refine HA.out.mono ?_
    rintro e w2 ⟨rfl, hb2⟩
    go_wp2
    go_returns
    exact ⟨by rw [E1.out]; rfl, btrans hb1 hb2⟩
set_option maxHeartbeats 2000000 in
theorem specIsRegularMonoid_l {A : Option Addr} {c : Nat} {ms : List Mp} {w : World} (h : SeeMaps w A ms) (hn : ms.length ≤ 2097152) (_ : NilOk A c) :
    Calls Tryz.prog 16 #[.slice A ms.length c] w fun e w' => e = .returned (.tuple #[.bool (RIsRegularMonoid ms).1, .int .i64 (RIsRegularMonoid ms).2]) ∧ Below w.heap.size w w' := by
  have hmo := l04All_c A none c 0 ms [] w hn (by simp) h (see_nil w)
  have HMO := Lib.hid hmo
  clear hmo h
  obtain ⟨r, hr⟩ : ∃ r, r = RIsRegularMonoid ms := ⟨_, rfl⟩
  rw [← hr]
  have HR := Lib.hid hr
  clear hr
  go_enter Tryz.func16, Tryz.ntmps16
  go_wp2_with fail
  refine HMO.out.mono ?_
  rintro e w1 h1
  rcases h1 with ⟨hc, rfl, hb1⟩ | ⟨hc, v, rfl, hown, hb1⟩
  · have e1 : r = (false, moC ms []) := by rw [HR.out]; unfold RIsRegularMonoid; rw [if_neg hc]
    have E1 := Lib.hid e1
    have d : (moC ms [] != 0) = true := bne_iff_ne.2 hc
    clear hc e1
    go_wp2
    go_returns
    exact ⟨by rw [E1.out]; rfl, hb1⟩
  · have e1 : r = ((elsOf ms).all (regB (elsOf ms)), 0) := by rw [HR.out]; unfold RIsRegularMonoid; rw [if_pos hc]
    have E1 := Lib.hid e1
    have clo := (MonR.of hc).clo
    have hlen := clo.len
    have CLO := Lib.hid clo
    clear hc e1 clo
    generalize elsOf ms = l at *
    obtain ⟨Av, cv, rfl, hsv⟩ := hown.see
    go_wp2
    go_loopw [6] (fun i wr => ∃ k : Nat, k ≤ l.length ∧ i = .int .i64 k ∧ AllTo (fun f => regB l f = true) l k ∧ Below w1.heap.size w1 wr) (fun i _ => l.length - (intOf i).toNat)
    case atStart => exact ⟨0, Nat.zero_le _, rfl, AllTo.zero _ _, Below.refl _ _⟩
    case round =>
      obtain ⟨k, hk, rfl, hj, hb⟩ := hrel
      by_cases hlt : k < l.length
      · have see := hsv.below hb
        obtain ⟨b, o, f, rfl, hf, gf⟩ := see.at_ hlt
        have l0 : (0 : Int) ≤ k := by omega
        have l1 : (k : Int) < l.length := by omega
        obtain ⟨f0, f1, f2, f3, f4, f5⟩ := gf
        have hcall := l04Regular_c (some ⟨b, o, none⟩) cv l (ptsL ms) f wr see CLO.out (List.mem_of_getElem? hf)
        have HJ := Lib.hid hj
        have HX := Lib.hid hf
        clear hj hf see
        cases e : regB l f
        · rw [e] at hcall
          have HE := Lib.hid e
          clear e
          go_wp2_with fail
          refine hcall.mono ?_
          rintro e w3 ⟨rfl, hb3⟩
          go_wp2
          go_returns
          refine ⟨?_, btrans hb1 (btrans hb hb3)⟩
          have : l.all (regB l) = false := List.all_eq_false.2 ⟨f, List.mem_of_getElem? HX.out, by rw [HE.out]; simp⟩
          rw [E1.out, this]
          rfl
        · rw [e] at hcall
          have HE := Lib.hid e
          clear e
          go_wp2_with fail
          refine hcall.mono ?_
          rintro e w3 ⟨rfl, hb3⟩
          go_wp2
          go_roundw
          case rel => exact ⟨k + 1, by omega, by go_num, HJ.out.snoc HX.out HE.out, btrans hb hb3⟩
          case measure => simp [intOf]; omega
      · obtain rfl : k = l.length := by omega
        have : l.all (regB l) = true := List.all_eq_true.2 hj.all
        have HT := Lib.hid this
        clear this hj
        go_wp2
        go_returns
        exact ⟨by rw [E1.out, HT.out]; rfl, btrans hb1 hb⟩
end Go.Proofs.YtilfamenadaboaaGreat
