/- 'l04Below': the reference's test whether an element is below another one. No condition. -/
import Derived.Test.YtilfamenadaboaaGreatBelow
namespace Go.Proofs.YtilfamenadaboaaGreat
set_option linter.unusedSimpArgs false
set_option linter.unusedVariables false
set_option linter.unusedSectionVars false
open Go.RowKit
theorem any_snoc {α : Type} {l : List α} {k : Nat} {x : α} (P : α → Bool) (hk : l[k]? = some x) : (l.take (k + 1)).any P = ((l.take k).any P || P x) := by
  rw [List.take_add_one, hk, List.any_append]
  simp
set_option maxRecDepth 100000 in
set_option maxHeartbeats 8000000 in
theorem l04Below_c (A : Option Addr) (c : Nat) (l : List Mp) (n : Int) (f g : Mp) (w : World) (hs : SeeMaps w A l) (hc : Clo l n) (fN : MpN f n) (gN : MpN g n) :
    Calls Tryz.prog 75 #[.slice A l.length c, .agg #[.int .i64 f.p, .int .i64 f.a, .int .i64 f.b, .int .i64 f.c, .int .i64 f.d, .int .i64 f.e], .agg #[.int .i64 g.p, .int .i64 g.a, .int .i64 g.b, .int .i64 g.c, .int .i64 g.d, .int .i64 g.e]] w fun e w' => e = .returned (.bool (belowB l f g)) ∧ Below w.heap.size w w' := by
  obtain ⟨W1, hW1⟩ : ∃ W1, W1 = (w.alloc (.cells #[.int .i64 f.p, .int .i64 f.a, .int .i64 f.b, .int .i64 f.c, .int .i64 f.d, .int .i64 f.e] 27)).alloc (.cells #[.int .i64 g.p, .int .i64 g.a, .int .i64 g.b, .int .i64 g.c, .int .i64 g.d, .int .i64 g.e] 27) := ⟨_, rfl⟩
  have kk : Below w.heap.size w W1 := by rw [hW1]; go_grown
  have bf : MpBox W1 w.heap.size f := by rw [hW1]; exact (MpBox.new f 27 rfl).keep _
  have bg : MpBox W1 (w.heap.size + 1) g := by rw [hW1]; exact MpBox.new g 27 (by simp)
  have see := hs.below kk
  obtain ⟨r, hr⟩ : ∃ r, r = belowB l f g := ⟨_, rfl⟩
  rw [← hr]
  have HR := Lib.hid hr
  have CLO := Lib.hid hc
  have hlen := hc.len
  clear hr hc hs
  go_enter Tryz.func75, Tryz.ntmps75
  go_wp2
  rw [← hW1]
  clear hW1
  go_loopw [9, 7, 8] (fun i L R wr => ∃ k : Nat, k ≤ l.length ∧ i = .int .i64 k ∧ L = .bool ((l.take k).any (lB f g)) ∧ R = .bool ((l.take k).any (rB f g)) ∧ Below W1.heap.size W1 wr) (fun i _ _ _ => l.length - (intOf i).toNat)
  case atStart => exact ⟨0, Nat.zero_le _, rfl, rfl, rfl, Below.refl _ _⟩
  case round =>
    obtain ⟨k, hk, rfl, rfl, rfl, hb⟩ := hrel
    obtain ⟨a, ha⟩ : ∃ a, a = (l.take k).any (lB f g) := ⟨_, rfl⟩
    obtain ⟨b, hbb⟩ : ∃ b, b = (l.take k).any (rB f g) := ⟨_, rfl⟩
    rw [← ha, ← hbb]
    have HA := Lib.hid ha
    have HB := Lib.hid hbb
    clear ha hbb
    by_cases hlt : k < l.length
    · obtain ⟨bl, ol, e, rfl, he, ge⟩ := (see.below hb).at_ hlt
      have l0 : (0 : Int) ≤ k := by omega
      have l1 : (k : Int) < l.length := by omega
      have eN := (CLO.out.get he).2
      have hid := fun W => l01Idempotent_c e n W eN
      have h1 := fun W => l01Times_c e g n W eN gN
      have h2 := fun W => l01Times_c g e n W gN eN
      have hl1 := any_snoc (lB f g) he
      have hr1 := any_snoc (rB f g) he
      rw [← HA.out] at hl1
      rw [← HB.out] at hr1
      have he1 := eq_map (mulM e g) f
      have he2 := eq_map (mulM g e) f
      have GE := Lib.hid ge
      obtain ⟨x0, x1, x2, x3, x4, x5⟩ := ge
      cases e1 : idemB e
      · have HI := Lib.hid (fun W => valB (hid W) e1)
        have HL : Hid ((l.take (k + 1)).any (lB f g) = a) := Lib.hid (by rw [hl1]; unfold lB; rw [e1]; simp)
        have HRR : Hid ((l.take (k + 1)).any (rB f g) = b) := Lib.hid (by rw [hr1]; unfold rB; rw [e1]; simp)
        clear e1 hid h1 h2 hl1 hr1 he1 he2 he
        go_wp2_with fail
        refine (HI.out _).mono ?_
        rintro e w2 ⟨rfl, hb2⟩
        go_wp2
        go_roundw
        case rel => exact ⟨k + 1, by omega, by go_num, by rw [HL.out], by rw [HRR.out], btrans hb hb2⟩
        case measure => simp [intOf]; omega
      · have HI := Lib.hid (fun W => valB (hid W) e1)
        obtain ⟨d1, hd1⟩ : ∃ d1, d1 = decide (mulM e g = f) := ⟨_, rfl⟩
        obtain ⟨d2, hd2⟩ : ∃ d2, d2 = decide (mulM g e = f) := ⟨_, rfl⟩
        have HL : Hid ((l.take (k + 1)).any (lB f g) = (a || d1)) := Lib.hid (by rw [hl1]; unfold lB; rw [e1, ← hd1]; simp)
        have HRR : Hid ((l.take (k + 1)).any (rB f g) = (b || d2)) := Lib.hid (by rw [hr1]; unfold rB; rw [e1, ← hd2]; simp)
        simp only [← hd1] at he1
        simp only [← hd2] at he2
        have H1 := Lib.hid h1
        have H2 := Lib.hid h2
        clear e1 hid h1 h2 hl1 hr1 hd1 hd2 HA HB he
        cases a <;> cases b <;> cases d1 <;> cases d2
        all_goals
          go_wp2_with fail
          refine (HI.out _).mono ?_
          rintro e w2 ⟨rfl, hb2⟩
          have ge2 := GE.out.below hb2
          have bf2 := (bf.below hb).below hb2
          have bg2 := (bg.below hb).below hb2
          obtain ⟨u0, u1, u2, u3, u4, u5⟩ := ge2.bw
          obtain ⟨v0, v1, v2, v3, v4, v5⟩ := bf2.at.bw
          obtain ⟨t0, t1, t2, t3, t4, t5⟩ := bg2.at.bw
          simp only [Nat.zero_add] at v0 v1 v2 v3 v4 v5 t0 t1 t2 t3 t4 t5
          clear x0 x1 x2 x3 x4 x5
          go_wp2
          refine wp_region_bw (by kernel_rfl) (by kernel_rfl) ?_
          repeat go_big_quiet_step ((go_at_call 69; first | (with_reducible exact Calls.bw _ (H1.out _)) | (with_reducible exact Calls.bw _ (H2.out _))))
          refine wpQuiet_nil ?_
          rintro w4 ⟨⟨w4x, hb4⟩, rfl⟩
          have ge4 := ge2.below hb4
          have bf4 := bf2.below hb4
          have bg4 := bg2.below hb4
          clear u0 u1 u2 u3 u4 u5 v0 v1 v2 v3 v4 v5 t0 t1 t2 t3 t4 t5
          obtain ⟨u0, u1, u2, u3, u4, u5⟩ := ge4.bw
          obtain ⟨v0, v1, v2, v3, v4, v5⟩ := bf4.at.bw
          obtain ⟨t0, t1, t2, t3, t4, t5⟩ := bg4.at.bw
          simp only [Nat.zero_add] at v0 v1 v2 v3 v4 v5 t0 t1 t2 t3 t4 t5
          go_wp2
          refine wp_region_bw (by kernel_rfl) (by kernel_rfl) ?_
          repeat go_big_quiet_step ((go_at_call 69; first | (with_reducible exact Calls.bw _ (H1.out _)) | (with_reducible exact Calls.bw _ (H2.out _))))
          refine wpQuiet_nil ?_
          rintro w6 ⟨⟨w6x, hb6⟩, rfl⟩
          go_wp2
          go_roundw
          case rel => exact ⟨k + 1, by omega, by go_num, by rw [HL.out]; rfl, by rw [HRR.out]; rfl, btrans hb (btrans hb2 (btrans hb4 hb6))⟩
          case measure => simp [intOf]; omega
    · obtain rfl : k = l.length := by omega
      have hfin : r = (a && b) := by rw [HR.out]; unfold belowB; rw [HA.out, HB.out, List.take_length]
      have HF := Lib.hid hfin
      clear hfin HA HB
      cases a <;> cases b
      all_goals
        go_wp2
        go_returns
        exact ⟨by rw [HF.out]; rfl, btrans kk hb⟩
/-! 'IsBelow', on both sides. -/
noncomputable def RIsBelow (ms : List Mp) (f g : Mp) : Bool × Int := if moC ms [f, g] = 0 then (belowB (elsOf ms) f g, 0) else (false, moC ms [f, g])
theorem see_two {w : World} {b : Nat} {f g : Mp} (h : MpAt w b 0 f) (h' : MpAt w b 6 g) : SeeMaps w (some ⟨b, 0, none⟩) [f, g] := fun _ => ⟨b, 0, rfl, fun k m hk => by
  match k with
  | 0 => simp at hk; subst hk; exact h
  | 1 => simp at hk; subst hk; exact h'
  | k + 2 => simp at hk⟩
theorem two_at (w : World) (f g : Mp) (t : TypeId) : MpAt (w.alloc (.cells #[.int .i64 f.p, .int .i64 f.a, .int .i64 f.b, .int .i64 f.c, .int .i64 f.d, .int .i64 f.e, .int .i64 g.p, .int .i64 g.a, .int .i64 g.b, .int .i64 g.c, .int .i64 g.d, .int .i64 g.e] t)) w.heap.size 0 f ∧ MpAt (w.alloc (.cells #[.int .i64 f.p, .int .i64 f.a, .int .i64 f.b, .int .i64 f.c, .int .i64 f.d, .int .i64 f.e, .int .i64 g.p, .int .i64 g.a, .int .i64 g.b, .int .i64 g.c, .int .i64 g.d, .int .i64 g.e] t)) w.heap.size 6 g := by
  constructor <;> constructor <;> simp [go_sem]
set_option maxHeartbeats 2000000 in
set_option maxRecDepth 100000 in
theorem implIsBelow_l {A : Option Addr} {c : Nat} {ms : List Mp} {f g : Mp} {w : World} (h : SeeMaps w A ms) (hn : ms.length ≤ 2097152) (hA : NilOk A c) :
    Calls Tryz.prog 34 #[.slice A ms.length c, .agg #[.int .i64 f.p, .int .i64 f.a, .int .i64 f.b, .int .i64 f.c, .int .i64 f.d, .int .i64 f.e], .agg #[.int .i64 g.p, .int .i64 g.a, .int .i64 g.b, .int .i64 g.c, .int .i64 g.d, .int .i64 g.e]] w fun e w' => e = .returned (.tuple #[.bool (RIsBelow ms f g).1, .int .i64 (RIsBelow ms f g).2]) ∧ Below w.heap.size w w' := by
  obtain ⟨W0, hW0⟩ : ∃ W0, W0 = (w.alloc (.cells #[.int .i64 f.p, .int .i64 f.a, .int .i64 f.b, .int .i64 f.c, .int .i64 f.d, .int .i64 f.e] 27)).alloc (.cells #[.int .i64 g.p, .int .i64 g.a, .int .i64 g.b, .int .i64 g.c, .int .i64 g.d, .int .i64 g.e] 27) := ⟨_, rfl⟩
  obtain ⟨W1, hW1⟩ : ∃ W1, W1 = W0.alloc (.cells #[.int .i64 f.p, .int .i64 f.a, .int .i64 f.b, .int .i64 f.c, .int .i64 f.d, .int .i64 f.e, .int .i64 g.p, .int .i64 g.a, .int .i64 g.b, .int .i64 g.c, .int .i64 g.d, .int .i64 g.e] 27) := ⟨_, rfl⟩
  have hz : W0.heap.size = w.heap.size + 1 + 1 := by rw [hW0]; simp
  have k0 : Below w.heap.size w W1 := by rw [hW1, hW0]; go_grown
  obtain ⟨t1, t2⟩ := two_at W0 f g 27
  rw [← hW1] at t1 t2
  have hmo := monoidOf_c A (some ⟨W0.heap.size, 0, none⟩) c 2 ms [f, g] _ hn (by simp) (h.below k0) (see_two t1 t2) hA (fun e => by cases e)
  rw [hz] at hmo
  have HMO := Lib.hid hmo
  obtain ⟨r, hr⟩ : ∃ r, r = RIsBelow ms f g := ⟨_, rfl⟩
  rw [← hr]
  have HR := Lib.hid hr
  clear hmo h hr t1 t2
  go_enter Tryz.func34, Tryz.ntmps34
  go_wp2_with fail
  rw [← hW0, ← hW1]
  clear hW0 hW1 hz
  refine HMO.out.mono ?_
  rintro e w1 h1
  rcases h1 with ⟨hc, rfl, hb1⟩ | ⟨hc, M, vp, rfl, mon, hown, hb1⟩
  · have e1 : r = (false, moC ms [f, g]) := by rw [HR.out]; unfold RIsBelow; rw [if_neg hc]
    have E1 := Lib.hid e1
    have d : (moC ms [f, g] != 0) = true := bne_iff_ne.2 hc
    clear hc e1
    go_wp2
    go_returns
    exact ⟨by rw [E1.out]; rfl, btrans k0 hb1⟩
  · have e1 : r = (belowB (elsOf ms) f g, 0) := by rw [HR.out]; unfold RIsBelow; rw [if_pos hc]
    have E1 := Lib.hid e1
    have hmr := MonR.of hc
    obtain ⟨i, hi, hli⟩ := plc_mem hmr.asc (hmr.mem f (by simp))
    obtain ⟨j, hj, hlj⟩ := plc_mem hmr.asc (hmr.mem g (by simp))
    obtain ⟨An, cn, rfl, hsn⟩ := hown.see
    obtain ⟨bn, on, x, rfl, hx, qx⟩ := hsn.at_ (k := 0) (by simp)
    obtain ⟨bn', on', y, e, hy, qy⟩ := hsn.at_ (k := 1) (by simp)
    simp only [Option.some.injEq, Addr.mk.injEq, and_true] at e
    obtain ⟨rfl, rfl⟩ := e
    have ex : x = (i : Int) := by simp at hx; rw [← hx, hi]
    have ey : y = (j : Int) := by simp at hy; rw [← hy, hj]
    subst ex ey
    rw [Nat.add_zero] at qx
    have QX := bwcell qx
    have QY := bwcell qy
    have hcall := fun (W : BW w1) => isBelow_c (w := W.1) hmr.clo (mon.below W.2) hli hlj
    have HCALL := Lib.hid hcall
    generalize belowB (elsOf ms) f g = b at *
    clear hmr hc e1 hown hi hli hj hlj hsn hx hy mon hcall qx qy
    go_wp2
    refine wp_region_bw (by kernel_rfl) (by kernel_rfl) ?_
    repeat go_big_quiet_step ((go_at_call 74; exact Calls.bw _ (HCALL.out _)))
    refine wpQuiet_nil ?_
    rintro w2 ⟨⟨w2x, hb2⟩, rfl⟩
    go_wp2
    go_returns
    exact ⟨by rw [E1.out]; rfl, btrans k0 (btrans hb1 hb2)⟩
set_option maxHeartbeats 2000000 in
set_option maxRecDepth 100000 in
theorem specIsBelow_l {A : Option Addr} {c : Nat} {ms : List Mp} {f g : Mp} {w : World} (h : SeeMaps w A ms) (hn : ms.length ≤ 2097152) (_ : NilOk A c) :
    Calls Tryz.prog 35 #[.slice A ms.length c, .agg #[.int .i64 f.p, .int .i64 f.a, .int .i64 f.b, .int .i64 f.c, .int .i64 f.d, .int .i64 f.e], .agg #[.int .i64 g.p, .int .i64 g.a, .int .i64 g.b, .int .i64 g.c, .int .i64 g.d, .int .i64 g.e]] w fun e w' => e = .returned (.tuple #[.bool (RIsBelow ms f g).1, .int .i64 (RIsBelow ms f g).2]) ∧ Below w.heap.size w w' := by
  obtain ⟨W0, hW0⟩ : ∃ W0, W0 = (w.alloc (.cells #[.int .i64 f.p, .int .i64 f.a, .int .i64 f.b, .int .i64 f.c, .int .i64 f.d, .int .i64 f.e] 27)).alloc (.cells #[.int .i64 g.p, .int .i64 g.a, .int .i64 g.b, .int .i64 g.c, .int .i64 g.d, .int .i64 g.e] 27) := ⟨_, rfl⟩
  obtain ⟨W1, hW1⟩ : ∃ W1, W1 = W0.alloc (.cells #[.int .i64 f.p, .int .i64 f.a, .int .i64 f.b, .int .i64 f.c, .int .i64 f.d, .int .i64 f.e, .int .i64 g.p, .int .i64 g.a, .int .i64 g.b, .int .i64 g.c, .int .i64 g.d, .int .i64 g.e] 27) := ⟨_, rfl⟩
  have hz : W0.heap.size = w.heap.size + 1 + 1 := by rw [hW0]; simp
  have k00 : Below w.heap.size w W1 := by rw [hW1, hW0]; go_grown
  have k01 : Below W0.heap.size W0 W1 := by rw [hW1]; exact kbelow _ _
  have bf : MpBox W1 w.heap.size f := MpBox.below (by rw [hW0]; exact (MpBox.new f 27 rfl).keep _) k01
  have bg : MpBox W1 (w.heap.size + 1) g := MpBox.below (by rw [hW0]; exact MpBox.new g 27 (by simp)) k01
  obtain ⟨t1, t2⟩ := two_at W0 f g 27
  rw [← hW1] at t1 t2
  have hmo := l04All_c A (some ⟨W0.heap.size, 0, none⟩) c 2 ms [f, g] _ hn (by simp) (h.below k00) (see_two t1 t2)
  rw [hz] at hmo
  have HMO := Lib.hid hmo
  obtain ⟨r, hr⟩ : ∃ r, r = RIsBelow ms f g := ⟨_, rfl⟩
  rw [← hr]
  have HR := Lib.hid hr
  clear hmo h hr t1 t2
  go_enter Tryz.func35, Tryz.ntmps35
  go_wp2_with fail
  rw [← hW0, ← hW1]
  clear hW0 hW1 hz k01
  refine HMO.out.mono ?_
  rintro e w1 h1
  rcases h1 with ⟨hc, rfl, hb1⟩ | ⟨hc, v, rfl, hown, hb1⟩
  · have e1 : r = (false, moC ms [f, g]) := by rw [HR.out]; unfold RIsBelow; rw [if_neg hc]
    have E1 := Lib.hid e1
    have d : (moC ms [f, g] != 0) = true := bne_iff_ne.2 hc
    clear hc e1
    go_wp2
    go_returns
    exact ⟨by rw [E1.out]; rfl, btrans k00 hb1⟩
  · have e1 : r = (belowB (elsOf ms) f g, 0) := by rw [HR.out]; unfold RIsBelow; rw [if_pos hc]
    have E1 := Lib.hid e1
    have hmr := MonR.of hc
    have clo := hmr.clo
    have fN := clo.all f (hmr.mem f (by simp))
    have gN := clo.all g (hmr.mem g (by simp))
    obtain ⟨f0, f1, f2, f3, f4, f5⟩ := (bf.below hb1).at.cells0
    obtain ⟨g0, g1, g2, g3, g4, g5⟩ := (bg.below hb1).at.cells0
    obtain ⟨Av, cv, rfl, hsv⟩ := hown.see
    have hcall := l04Below_c Av cv _ (ptsL ms) f g w1 hsv clo fN gN
    have HCALL := Lib.hid hcall
    generalize belowB (elsOf ms) f g = b at *
    clear hmr hc e1 hown hsv hcall clo fN gN bf bg
    go_wp2_with fail
    refine HCALL.out.mono ?_
    rintro e w2 ⟨rfl, hb2⟩
    go_wp2
    go_returns
    exact ⟨by rw [E1.out]; rfl, btrans k00 (btrans hb1 hb2)⟩
/-! 'ElementsBelow', on both sides. -/
section
variable {l : List Mp} {n : Int} {M i bm bf : Nat} {f : Mp} {w : World}
set_option maxRecDepth 100000 in
set_option maxHeartbeats 2000000 in
theorem elb11_p (hc : Clo l n) (mon : MonAt w M l n) (hi : l[i]? = some f) (qm : w.cell? ⟨bm, 0, none⟩ = some (.pointer (some ⟨M, 0, none⟩))) (qf : w.cell? ⟨bf, 0, none⟩ = some (.int .i64 i)) :
    PredM 77 #[] #[.pointer (some ⟨bm, 0, none⟩), .pointer (some ⟨bf, 0, none⟩)] l (fun g => belowB l g f) w := fun W j g hW hj => by
  have qm1 := bcell hW qm
  have qf1 := bcell hW qf
  have h1 := isBelow_c hc (mon.below hW) hj hi
  show Calls Tryz.prog 77 #[.int .i64 (j : Int), .pointer (some ⟨bm, 0, none⟩), .pointer (some ⟨bf, 0, none⟩)] W fun e w' => e = .returned (.bool (belowB l g f)) ∧ Below W.heap.size W w'
  generalize belowB l g f = b at *
  clear qm qf hW hj hi mon hc
  go_enter Tryz.func77, Tryz.ntmps77
  go_wp2_with fail
  refine h1.mono ?_
  rintro e w2 ⟨rfl, hb2⟩
  go_wp2
  go_returns
  exact ⟨rfl, hb2⟩
set_option maxRecDepth 100000 in
set_option maxHeartbeats 2000000 in
theorem elb1_m (hc : Clo l n) : MethM 76 l n (fun f => l.filter (fun g => belowB l g f)) := fun w M i f mon hi => by
  have kk : Below w.heap.size w ((w.alloc (.cells #[.pointer (some ⟨M, 0, none⟩)] 48)).alloc (.cells #[.int .i64 (i : Int)] 3)) := by go_grown
  have qm : ((w.alloc (.cells #[.pointer (some ⟨M, 0, none⟩)] 48)).alloc (.cells #[.int .i64 (i : Int)] 3)).cell? ⟨w.heap.size, 0, none⟩ = some (.pointer (some ⟨M, 0, none⟩)) := by simp [go_sem]
  have qf : ((w.alloc (.cells #[.pointer (some ⟨M, 0, none⟩)] 48)).alloc (.cells #[.int .i64 (i : Int)] 3)).cell? ⟨w.heap.size + 1, 0, none⟩ = some (.int .i64 (i : Int)) := by simp [go_sem]
  have hp := elb11_p hc (mon.below kk) hi qm qf
  have honly := only_c M l n 77 _ _ (enters_of Tryz.func77 (by kernel_rfl) rfl) _ (mon.below kk) hc.len hp
  have HA := Lib.hid honly
  clear honly hp qf hi mon hc
  go_enter Tryz.func76, Tryz.ntmps76
  go_wp2_with fail
  refine HA.out.mono ?_
  rintro e w2 ⟨v, rfl, hown, hb2⟩
  obtain ⟨Av, cv, rfl, _⟩ := hown.see
  go_wp2
  go_returns
  exact ⟨_, rfl, hown.mono kk.size, btrans kk hb2⟩
end
noncomputable def RElementsBelow (ms : List Mp) (f : Mp) : List Mp × Int := ROf ms f (fun l f => l.filter (fun g => belowB l g f))
theorem RElementsBelow_len (ms : List Mp) (f : Mp) : (RElementsBelow ms f).1.length ≤ 1000 := by
  unfold RElementsBelow ROf
  split
  · rename_i h
    have := (MonR.of h).len
    have h2 := List.length_filter_le (fun g => belowB (elsOf ms) g f) (elsOf ms)
    show ((elsOf ms).filter (fun g => belowB (elsOf ms) g f)).length ≤ 1000
    omega
  · simp
set_option maxHeartbeats 2000000 in
set_option maxRecDepth 100000 in
theorem implElementsBelow_l {A : Option Addr} {c : Nat} {ms : List Mp} {f : Mp} {w : World} (h : SeeMaps w A ms) (hn : ms.length ≤ 2097152) (hA : NilOk A c) :
    Calls Tryz.prog 36 #[.slice A ms.length c, .agg #[.int .i64 f.p, .int .i64 f.a, .int .i64 f.b, .int .i64 f.c, .int .i64 f.d, .int .i64 f.e]] w fun e w' => ∃ v, e = .returned (.tuple #[v, .int .i64 (RElementsBelow ms f).2]) ∧ OwnMaps w' w.heap.size v (RElementsBelow ms f).1 ∧ Below w.heap.size w w' := by
  show Calls _ _ _ w (MsPost (ROf ms f (fun l f => l.filter (fun g => belowB l g f))) w)
  have kk := kbelow w (.cells #[.int .i64 f.p, .int .i64 f.a, .int .i64 f.b, .int .i64 f.c, .int .i64 f.d, .int .i64 f.e] 27)
  have he := of_c (f := f) 76 (fun l f => l.filter (fun g => belowB l g f)) (enters_of Tryz.func76 (by kernel_rfl) rfl) (h.below kk) hn hA (fun hm => elb1_m hm.clo)
  have HE := Lib.hid he
  clear he h
  go_enter Tryz.func36, Tryz.ntmps36
  go_wp2_with fail
  refine HE.out.mono ?_
  rintro e w1 ⟨v, rfl, hown, hb1⟩
  obtain ⟨Av, cv, rfl, _⟩ := hown.see
  go_wp2
  go_returns
  exact ⟨_, rfl, hown.mono kk.size, btrans kk hb1⟩
set_option maxHeartbeats 4000000 in
theorem specElementsBelow_l {A : Option Addr} {c : Nat} {ms : List Mp} {f : Mp} {w : World} (h : SeeMaps w A ms) (hn : ms.length ≤ 2097152) (_ : NilOk A c) :
    Calls Tryz.prog 37 #[.slice A ms.length c, .agg #[.int .i64 f.p, .int .i64 f.a, .int .i64 f.b, .int .i64 f.c, .int .i64 f.d, .int .i64 f.e]] w fun e w' => ∃ v, e = .returned (.tuple #[v, .int .i64 (RElementsBelow ms f).2]) ∧ OwnMaps w' w.heap.size v (RElementsBelow ms f).1 ∧ Below w.heap.size w w' := by
  show Calls _ _ _ w (MsPost (ROf ms f (fun l f => l.filter (fun g => belowB l g f))) w)
  have k0 : Below w.heap.size w ((w.alloc (.cells #[.int .i64 f.p, .int .i64 f.a, .int .i64 f.b, .int .i64 f.c, .int .i64 f.d, .int .i64 f.e] 27)).alloc (.cells #[.int .i64 f.p, .int .i64 f.a, .int .i64 f.b, .int .i64 f.c, .int .i64 f.d, .int .i64 f.e] 27)) := by go_grown
  have b1 : MpBox ((w.alloc (.cells #[.int .i64 f.p, .int .i64 f.a, .int .i64 f.b, .int .i64 f.c, .int .i64 f.d, .int .i64 f.e] 27)).alloc (.cells #[.int .i64 f.p, .int .i64 f.a, .int .i64 f.b, .int .i64 f.c, .int .i64 f.d, .int .i64 f.e] 27)) (w.heap.size + 1) f := MpBox.new f 27 (by simp)
  have b0 : MpBox ((w.alloc (.cells #[.int .i64 f.p, .int .i64 f.a, .int .i64 f.b, .int .i64 f.c, .int .i64 f.d, .int .i64 f.e] 27)).alloc (.cells #[.int .i64 f.p, .int .i64 f.a, .int .i64 f.b, .int .i64 f.c, .int .i64 f.d, .int .i64 f.e] 27)) w.heap.size f := (MpBox.new f 27 rfl).keep _
  have hmo := l04All_c A (some ⟨w.heap.size + 1, 0, none⟩) c 1 ms [f] _ hn (by simp) (h.below k0) (see_one b1)
  have HMO := Lib.hid hmo
  obtain ⟨r, hr⟩ : ∃ r, r = ROf ms f (fun l f => l.filter (fun g => belowB l g f)) := ⟨_, rfl⟩
  rw [← hr]
  have HR := Lib.hid hr
  clear hmo h hr b1
  go_enter Tryz.func37, Tryz.ntmps37
  go_wp2_with fail
  refine HMO.out.mono ?_
  rintro e w1 h1
  rcases h1 with ⟨hc, rfl, hb1⟩ | ⟨hc, v, rfl, hown, hb1⟩
  · have e1 : r = ([], moC ms [f]) := by rw [HR.out]; unfold ROf; rw [if_neg hc]
    have E1 := Lib.hid e1
    have d : (moC ms [f] != 0) = true := bne_iff_ne.2 hc
    clear hc e1
    go_wp2
    go_returns
    rw [E1.out]
    exact MsPost.nil (btrans k0 hb1)
  · have e1 : r = ((elsOf ms).filter (fun g => belowB (elsOf ms) g f), 0) := by rw [HR.out]; unfold ROf; rw [if_pos hc]
    have E1 := Lib.hid e1
    have hmr := MonR.of hc
    have clo := hmr.clo
    have fN := clo.all f (hmr.mem f (by simp))
    have CLO := Lib.hid clo
    have hlen := clo.len
    have bt := b0.below hb1
    have hbw := btrans k0 hb1
    clear hmr clo hc e1 b0 k0 hb1
    generalize elsOf ms = l at *
    obtain ⟨Av, cv, rfl, hsv⟩ := hown.see
    have own0 : OwnMaps (w1.alloc (.cells #[] 27)) w1.heap.size (.slice (some ⟨w1.heap.size, 0, none⟩) 0 0) ((l.take 0).filter (fun g => belowB l g f)) :=
      ⟨[], World.ownsRow_made (e := 27) (size := 6) w1 #[] 0 (Nat.le_refl _) (by decide) rfl, ⟨rfl, fun k m hk => by simp at hk⟩⟩
    have kk := kbelow w1 (.cells #[] 27)
    clear hown
    go_wp2
    go_loopw [9, 8] (fun i v wr => ∃ k : Nat, k ≤ l.length ∧ i = .int .i64 k ∧ OwnMaps wr w1.heap.size v ((l.take k).filter (fun g => belowB l g f)) ∧ Below w1.heap.size w1 wr) (fun i _ _ => l.length - (intOf i).toNat)
    case atStart => exact ⟨0, Nat.zero_le _, rfl, own0, kk⟩
    case round =>
      clear own0 kk
      obtain ⟨k, hk, rfl, own, hb⟩ := hrel
      by_cases hlt : k < l.length
      · obtain ⟨b, o, g, rfl, hg, gg⟩ := (hsv.below hb).at_ hlt
        have l0 : (0 : Int) ≤ k := by omega
        have l1 : (k : Int) < l.length := by omega
        have gN := (CLO.out.get hg).2
        obtain ⟨g0, g1, g2, g3, g4, g5⟩ := gg.bw
        obtain ⟨t0, t1, t2, t3, t4, t5⟩ := (bt.below hb).at.bw
        simp only [Nat.zero_add] at t0 t1 t2 t3 t4 t5
        have hcall := l04Below_c (some ⟨b, o, none⟩) cv l (ptsL ms) g f
        have hsv2 := hsv.below hb
        have GG := Lib.hid gg
        have H1 := Lib.hid (fun W (hW : Below wr.heap.size wr W) => hcall W (hsv2.below hW) CLO.out gN fN)
        have hlen2 : ((l.take k).filter (fun g => belowB l g f)).length ≤ 300 := by
          have := List.length_filter_le (fun g => belowB l g f) (l.take k)
          rw [List.length_take] at this
          omega
        have hsn2 : belowB l g f = false → (l.take (k + 1)).filter (fun g => belowB l g f) = (l.take k).filter (fun g => belowB l g f) := fun e => by
          rw [List.take_add_one, hg, List.filter_append]
          simp [e]
        have hsn1 : belowB l g f = true → (l.take (k + 1)).filter (fun g => belowB l g f) = (l.take k).filter (fun g => belowB l g f) ++ [g] := fun e => by
          rw [List.take_add_one, hg, List.filter_append]
          simp [e]
        have S1 := Lib.hid hsn1
        have S2 := Lib.hid hsn2
        obtain ⟨xs, hxs⟩ : ∃ xs, xs = (l.take k).filter (fun g => belowB l g f) := ⟨_, rfl⟩
        rw [← hxs] at own hlen2 S1 S2
        clear hg hsn1 hsn2 hxs hcall hsv2 gg
        obtain ⟨Ao, co, rfl, _⟩ := own.see
        cases e : belowB l g f
        · have HC := Lib.hid (fun W hW => valB (H1.out W hW) e)
          have HE := Lib.hid e
          clear e H1
          go_wp2
          refine wp_region_bw (by kernel_rfl) (by kernel_rfl) ?_
          repeat go_big_quiet_step ((go_at_call 75; exact Calls.bw _ (HC.out _ (Subtype.property _))))
          refine wpQuiet_nil ?_
          rintro w3 ⟨⟨w3x, hb3⟩, rfl⟩
          go_wp2
          go_roundw
          case rel => exact ⟨k + 1, by omega, by go_num, by rw [S2.out HE.out]; exact own.below hb3, btrans hb hb3⟩
          case measure => simp [intOf]; omega
        · have HC := Lib.hid (fun W hW => valB (H1.out W hW) e)
          have HE := Lib.hid e
          clear e H1
          go_wp2
          refine wp_region_bw (by kernel_rfl) (by kernel_rfl) ?_
          repeat go_big_quiet_step ((go_at_call 75; exact Calls.bw _ (HC.out _ (Subtype.property _))))
          refine wpQuiet_nil ?_
          rintro w3 ⟨⟨w3x, hb3⟩, rfl⟩
          have own3 := own.below hb3
          have hb4 := btrans hb hb3
          have f0 := bcell hb3 GG.out.h0
          have f1 := bcell hb3 GG.out.h1
          have f2 := bcell hb3 GG.out.h2
          have f3 := bcell hb3 GG.out.h3
          have f4 := bcell hb3 GG.out.h4
          have f5 := bcell hb3 GG.out.h5
          clear g0 g1 g2 g3 g4 g5 t0 t1 t2 t3 t4 t5
          go_wp2_with (at_builtin; refine wpList_push_map _ rfl (.tmp 34) (.tmp 39) rfl w1.heap.size _ xs rfl (own3.below (kbelow _ _)) _ g rfl (MpBox.new g 27 rfl) (by omega) (btrans hb4 (kbelow _ _)).size ?_; intro v8 w8 hown8 hg8 hv8)
          have hb8 : Below w1.heap.size w1 w8 := Below.grown (btrans hb4 (kbelow _ _)) hg8 (btrans hb4 (kbelow _ _)).size (fun q hq => (own3.lt q hq).1)
          go_wp2
          go_roundw
          case rel => exact ⟨k + 1, by omega, by go_num, by rw [S1.out HE.out]; exact hown8, hb8⟩
          case measure => simp [intOf]; omega
      · obtain rfl : k = l.length := by omega
        rw [List.take_length] at own
        obtain ⟨Ao, co, rfl, _⟩ := own.see
        go_wp2
        go_returns
        rw [E1.out]
        exact ⟨_, rfl, own.mono hbw.size, btrans hbw hb⟩
end Go.Proofs.YtilfamenadaboaaGreat
