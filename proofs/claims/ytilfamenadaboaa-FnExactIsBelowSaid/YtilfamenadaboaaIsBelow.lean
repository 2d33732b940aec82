/- 'IsBelow', on both sides. No condition. -/
import Derived.Test.YtilfamenadaboaaBelowS
namespace Go.Proofs.Ytilfamenadaboaa
set_option linter.unusedSimpArgs false
set_option linter.unusedVariables false
set_option linter.unusedSectionVars false
open Go.RowKit
noncomputable def RIsBelow (ms : List Mp) (f g : Mp) : Bool × Int := if moC ms [f, g] = 0 then (belowB (elsOf ms) f g, 0) else (false, moC ms [f, g])
theorem see_two {w : World} {b : Nat} {f g : Mp} (h : MpAt w b 0 f) (h' : MpAt w b 6 g) : SeeMaps w (some ⟨b, 0, none⟩) [f, g] := fun _ => ⟨b, 0, rfl, fun k m hk => by
  match k with
  | 0 => simp at hk; subst hk; exact h
  | 1 => simp at hk; subst hk; exact h'
  | k + 2 => simp at hk⟩
theorem two_at (w : World) (f g : Mp) (t : TypeId) : MpAt (w.alloc (.cells #[.int .i64 f.p, .int .i64 f.a, .int .i64 f.b, .int .i64 f.c, .int .i64 f.d, .int .i64 f.e, .int .i64 g.p, .int .i64 g.a, .int .i64 g.b, .int .i64 g.c, .int .i64 g.d, .int .i64 g.e] t)) w.heap.size 0 f ∧ MpAt (w.alloc (.cells #[.int .i64 f.p, .int .i64 f.a, .int .i64 f.b, .int .i64 f.c, .int .i64 f.d, .int .i64 f.e, .int .i64 g.p, .int .i64 g.a, .int .i64 g.b, .int .i64 g.c, .int .i64 g.d, .int .i64 g.e] t)) w.heap.size 6 g := by
  constructor <;> constructor <;> simp [go_sem]
set_option maxHeartbeats 2000000 in
set_option maxRecDepth 100000 in
theorem implIsBelow_l {A : Option Addr} {c : Nat} {ms : List Mp} {f g : Mp} {w : World} (h : SeeMaps w A ms) (hn : ms.length ≤ 2097152) (hA : NilOk A c) :
    Calls Try.prog 21 #[.slice A ms.length c, .agg #[.int .i64 f.p, .int .i64 f.a, .int .i64 f.b, .int .i64 f.c, .int .i64 f.d, .int .i64 f.e], .agg #[.int .i64 g.p, .int .i64 g.a, .int .i64 g.b, .int .i64 g.c, .int .i64 g.d, .int .i64 g.e]] w fun e w' => e = .returned (.tuple #[.bool (RIsBelow ms f g).1, .int .i64 (RIsBelow ms f g).2]) ∧ Below w.heap.size w w' := by
  obtain ⟨W0, hW0⟩ : ∃ W0, W0 = (w.alloc (.cells #[.int .i64 f.p, .int .i64 f.a, .int .i64 f.b, .int .i64 f.c, .int .i64 f.d, .int .i64 f.e] 34)).alloc (.cells #[.int .i64 g.p, .int .i64 g.a, .int .i64 g.b, .int .i64 g.c, .int .i64 g.d, .int .i64 g.e] 34) := ⟨_, rfl⟩
  obtain ⟨W1, hW1⟩ : ∃ W1, W1 = W0.alloc (.cells #[.int .i64 f.p, .int .i64 f.a, .int .i64 f.b, .int .i64 f.c, .int .i64 f.d, .int .i64 f.e, .int .i64 g.p, .int .i64 g.a, .int .i64 g.b, .int .i64 g.c, .int .i64 g.d, .int .i64 g.e] 34) := ⟨_, rfl⟩
  have hz : W0.heap.size = w.heap.size + 1 + 1 := by rw [hW0]; simp
  have k0 : Below w.heap.size w W1 := by rw [hW1, hW0]; go_grown
  obtain ⟨t1, t2⟩ := two_at W0 f g 34
  rw [← hW1] at t1 t2
  have hmo := monoidOf_c A (some ⟨W0.heap.size, 0, none⟩) c 2 ms [f, g] _ hn (by simp) (h.below k0) (see_two t1 t2) hA (fun e => by cases e)
  rw [hz] at hmo
  have HMO := Lib.hid hmo
  obtain ⟨r, hr⟩ : ∃ r, r = RIsBelow ms f g := ⟨_, rfl⟩
  rw [← hr]
  have HR := Lib.hid hr
  clear hmo h hr t1 t2
  go_enter Try.func21, Try.ntmps21
  go_wp2_with fail
  rw [← hW0, ← hW1]
  clear hW0 hW1 hz
  refine HMO.out.mono ?_
  rintro e w1 h1
  rcases h1 with ⟨hc, rfl, hb1⟩ | ⟨hc, M, vp, rfl, mon, hown, hb1⟩
  · have e1 : r = (false, moC ms [f, g]) := by rw [HR.out]; unfold RIsBelow; rw [if_neg hc]
    have E1 := Lib.hid e1
    have d : (moC ms [f, g] != 0) = true := bne_iff_ne.2 hc
    clear hc e1
    go_wp2
    go_returns
    exact ⟨by rw [E1.out]; rfl, btrans k0 hb1⟩
  · have e1 : r = (belowB (elsOf ms) f g, 0) := by rw [HR.out]; unfold RIsBelow; rw [if_pos hc]
    have E1 := Lib.hid e1
    have hmr := MonR.of hc
    obtain ⟨i, hi, hli⟩ := plc_mem hmr.asc (hmr.mem f (by simp))
    obtain ⟨j, hj, hlj⟩ := plc_mem hmr.asc (hmr.mem g (by simp))
    obtain ⟨An, cn, rfl, hsn⟩ := hown.see
    obtain ⟨bn, on, x, rfl, hx, qx⟩ := hsn.at_ (k := 0) (by simp)
    obtain ⟨bn', on', y, e, hy, qy⟩ := hsn.at_ (k := 1) (by simp)
    simp only [Option.some.injEq, Addr.mk.injEq, and_true] at e
    obtain ⟨rfl, rfl⟩ := e
    have ex : x = (i : Int) := by simp at hx; rw [← hx, hi]
    have ey : y = (j : Int) := by simp at hy; rw [← hy, hj]
    subst ex ey
    rw [Nat.add_zero] at qx
    have QX := bwcell qx
    have QY := bwcell qy
    have hcall := fun (W : BW w1) => isBelow_c (w := W.1) hmr.clo (mon.below W.2) hli hlj
    have HCALL := Lib.hid hcall
    generalize belowB (elsOf ms) f g = b at *
    clear hmr hc e1 hown hi hli hj hlj hsn hx hy mon hcall qx qy
    go_wp2
    refine wp_region_bw (by kernel_rfl) (by kernel_rfl) ?_
    repeat go_big_quiet_step ((go_at_call 50; exact Calls.bw _ (HCALL.out _)))
    refine wpQuiet_nil ?_
    rintro w2 ⟨⟨w2x, hb2⟩, rfl⟩
    go_wp2
    go_returns
    exact ⟨by rw [E1.out]; rfl, btrans k0 (btrans hb1 hb2)⟩
set_option maxHeartbeats 2000000 in
set_option maxRecDepth 100000 in
theorem specIsBelow_l {A : Option Addr} {c : Nat} {ms : List Mp} {f g : Mp} {w : World} (h : SeeMaps w A ms) (hn : ms.length ≤ 2097152) (_ : NilOk A c) :
    Calls Try.prog 19 #[.slice A ms.length c, .agg #[.int .i64 f.p, .int .i64 f.a, .int .i64 f.b, .int .i64 f.c, .int .i64 f.d, .int .i64 f.e], .agg #[.int .i64 g.p, .int .i64 g.a, .int .i64 g.b, .int .i64 g.c, .int .i64 g.d, .int .i64 g.e]] w fun e w' => e = .returned (.tuple #[.bool (RIsBelow ms f g).1, .int .i64 (RIsBelow ms f g).2]) ∧ Below w.heap.size w w' := by
  obtain ⟨W0, hW0⟩ : ∃ W0, W0 = (w.alloc (.cells #[.int .i64 f.p, .int .i64 f.a, .int .i64 f.b, .int .i64 f.c, .int .i64 f.d, .int .i64 f.e] 34)).alloc (.cells #[.int .i64 g.p, .int .i64 g.a, .int .i64 g.b, .int .i64 g.c, .int .i64 g.d, .int .i64 g.e] 34) := ⟨_, rfl⟩
  obtain ⟨W1, hW1⟩ : ∃ W1, W1 = W0.alloc (.cells #[.int .i64 f.p, .int .i64 f.a, .int .i64 f.b, .int .i64 f.c, .int .i64 f.d, .int .i64 f.e, .int .i64 g.p, .int .i64 g.a, .int .i64 g.b, .int .i64 g.c, .int .i64 g.d, .int .i64 g.e] 34) := ⟨_, rfl⟩
  have hz : W0.heap.size = w.heap.size + 1 + 1 := by rw [hW0]; simp
  have k00 : Below w.heap.size w W1 := by rw [hW1, hW0]; go_grown
  have k01 : Below W0.heap.size W0 W1 := by rw [hW1]; exact kbelow _ _
  have bf : MpBox W1 w.heap.size f := MpBox.below (by rw [hW0]; exact (MpBox.new f 34 rfl).keep _) k01
  have bg : MpBox W1 (w.heap.size + 1) g := MpBox.below (by rw [hW0]; exact MpBox.new g 34 (by simp)) k01
  obtain ⟨t1, t2⟩ := two_at W0 f g 34
  rw [← hW1] at t1 t2
  have hmo := l04All_c A (some ⟨W0.heap.size, 0, none⟩) c 2 ms [f, g] _ hn (by simp) (h.below k00) (see_two t1 t2)
  rw [hz] at hmo
  have HMO := Lib.hid hmo
  obtain ⟨r, hr⟩ : ∃ r, r = RIsBelow ms f g := ⟨_, rfl⟩
  rw [← hr]
  have HR := Lib.hid hr
  clear hmo h hr t1 t2
  go_enter Try.func19, Try.ntmps19
  go_wp2_with fail
  rw [← hW0, ← hW1]
  clear hW0 hW1 hz k01
  refine HMO.out.mono ?_
  rintro e w1 h1
  rcases h1 with ⟨hc, rfl, hb1⟩ | ⟨hc, v, rfl, hown, hb1⟩
  · have e1 : r = (false, moC ms [f, g]) := by rw [HR.out]; unfold RIsBelow; rw [if_neg hc]
    have E1 := Lib.hid e1
    have d : (moC ms [f, g] != 0) = true := bne_iff_ne.2 hc
    clear hc e1
    go_wp2
    go_returns
    exact ⟨by rw [E1.out]; rfl, btrans k00 hb1⟩
  · have e1 : r = (belowB (elsOf ms) f g, 0) := by rw [HR.out]; unfold RIsBelow; rw [if_pos hc]
    have E1 := Lib.hid e1
    have hmr := MonR.of hc
    have clo := hmr.clo
    have fN := clo.all f (hmr.mem f (by simp))
    have gN := clo.all g (hmr.mem g (by simp))
    obtain ⟨f0, f1, f2, f3, f4, f5⟩ := (bf.below hb1).at.cells0
    obtain ⟨g0, g1, g2, g3, g4, g5⟩ := (bg.below hb1).at.cells0
    obtain ⟨Av, cv, rfl, hsv⟩ := hown.see
    have hcall := l04Below_c Av cv _ (ptsOf ms) f g w1 hsv clo fN gN
    have HCALL := Lib.hid hcall
    generalize belowB (elsOf ms) f g = b at *
    clear hmr hc e1 hown hsv hcall clo fN gN bf bg
    go_wp2_with fail
    refine HCALL.out.mono ?_
    rintro e w2 ⟨rfl, hb2⟩
    go_wp2
    go_returns
    exact ⟨by rw [E1.out]; rfl, btrans k00 (btrans hb1 hb2)⟩
end Go.Proofs.Ytilfamenadaboaa
