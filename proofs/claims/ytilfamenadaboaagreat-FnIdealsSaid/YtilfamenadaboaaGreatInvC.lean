/- 'IsRegularIn', 'ElementsOf' on both sides, 'SizeOf', 'IdempotentsOf' of the implementation. No condition. -/
import Derived.Test.YtilfamenadaboaaGreatInvMon
import Derived.Test.YtilfamenadaboaaGreatBelow
namespace Go.Proofs.YtilfamenadaboaaGreat
set_option linter.unusedSimpArgs false
set_option linter.unusedVariables false
set_option linter.unusedSectionVars false
open Go.RowKit
noncomputable def RIsRegularIn (ms : List Mp) (f : Mp) : Bool × Int := if moC ms [f] = 0 then (regB (elsOf ms) f, 0) else (false, moC ms [f])
set_option maxHeartbeats 2000000 in
set_option maxRecDepth 100000 in
theorem implIsRegularIn_l {A : Option Addr} {c : Nat} {ms : List Mp} {f : Mp} {w : World} (h : SeeMaps w A ms) (hn : ms.length ≤ 2097152) (hA : NilOk A c) :
    Calls Tryz.prog 10 #[.slice A ms.length c, .agg #[.int .i64 f.p, .int .i64 f.a, .int .i64 f.b, .int .i64 f.c, .int .i64 f.d, .int .i64 f.e]] w fun e w' => e = .returned (.tuple #[.bool (RIsRegularIn ms f).1, .int .i64 (RIsRegularIn ms f).2]) ∧ Below w.heap.size w w' := by
  have k0 : Below w.heap.size w ((w.alloc (.cells #[.int .i64 f.p, .int .i64 f.a, .int .i64 f.b, .int .i64 f.c, .int .i64 f.d, .int .i64 f.e] 27)).alloc (.cells #[.int .i64 f.p, .int .i64 f.a, .int .i64 f.b, .int .i64 f.c, .int .i64 f.d, .int .i64 f.e] 27)) := by go_grown
  have b1 : MpBox ((w.alloc (.cells #[.int .i64 f.p, .int .i64 f.a, .int .i64 f.b, .int .i64 f.c, .int .i64 f.d, .int .i64 f.e] 27)).alloc (.cells #[.int .i64 f.p, .int .i64 f.a, .int .i64 f.b, .int .i64 f.c, .int .i64 f.d, .int .i64 f.e] 27)) (w.heap.size + 1) f := MpBox.new f 27 (by simp)
  have HMO := Lib.hid (monoidOf_c A (some ⟨w.heap.size + 1, 0, none⟩) c 1 ms [f] _ hn (by simp) (h.below k0) (see_one b1) hA (fun e => by cases e))
  obtain ⟨r, hr⟩ : ∃ r, r = RIsRegularIn ms f := ⟨_, rfl⟩
  rw [← hr]
  have HR := Lib.hid hr
  clear h hr b1
  go_enter Tryz.func10, Tryz.ntmps10
  go_wp2_with fail
  refine HMO.out.mono ?_
  rintro e w1 h1
  rcases h1 with ⟨hc, rfl, hb1⟩ | ⟨hc, M, vp, rfl, mon, hown, hb1⟩
  · have E1 := Lib.hid (show r = (false, moC ms [f]) by rw [HR.out]; unfold RIsRegularIn; rw [if_neg hc])
    have d : (moC ms [f] != 0) = true := bne_iff_ne.2 hc
    clear hc
    go_wp2
    go_returns
    exact ⟨by rw [E1.out]; rfl, btrans k0 hb1⟩
  · have E1 := Lib.hid (show r = (regB (elsOf ms) f, 0) by rw [HR.out]; unfold RIsRegularIn; rw [if_pos hc])
    have hmr := MonR.of hc
    obtain ⟨i, hi, hli⟩ := plc_mem hmr.asc (hmr.mem f (by simp))
    obtain ⟨An, cn, rfl, hsn⟩ := hown.see
    obtain ⟨bn, on, x, rfl, hx, qx⟩ := hsn.at_ (k := 0) (by simp)
    have ex : x = (i : Int) := by simp at hx; rw [← hx, hi]
    subst ex
    rw [Nat.add_zero] at qx
    have HCL := Lib.hid (isRegular_c hmr.clo mon hli)
    clear hmr hc hown hi hli hsn hx mon
    go_wp2_with fail
    refine HCL.out.mono ?_
    rintro e w3 ⟨rfl, hb3⟩
    go_wp2
    go_returns
    exact ⟨by rw [E1.out]; rfl, btrans k0 (btrans hb1 hb3)⟩
set_option maxHeartbeats 2000000 in
theorem specIsRegularIn_l {A : Option Addr} {c : Nat} {ms : List Mp} {f : Mp} {w : World} (h : SeeMaps w A ms) (hn : ms.length ≤ 2097152) :
    Calls Tryz.prog 11 #[.slice A ms.length c, .agg #[.int .i64 f.p, .int .i64 f.a, .int .i64 f.b, .int .i64 f.c, .int .i64 f.d, .int .i64 f.e]] w fun e w' => e = .returned (.tuple #[.bool (RIsRegularIn ms f).1, .int .i64 (RIsRegularIn ms f).2]) ∧ Below w.heap.size w w' := by
  have k0 : Below w.heap.size w ((w.alloc (.cells #[.int .i64 f.p, .int .i64 f.a, .int .i64 f.b, .int .i64 f.c, .int .i64 f.d, .int .i64 f.e] 27)).alloc (.cells #[.int .i64 f.p, .int .i64 f.a, .int .i64 f.b, .int .i64 f.c, .int .i64 f.d, .int .i64 f.e] 27)) := by go_grown
  have b1 : MpBox ((w.alloc (.cells #[.int .i64 f.p, .int .i64 f.a, .int .i64 f.b, .int .i64 f.c, .int .i64 f.d, .int .i64 f.e] 27)).alloc (.cells #[.int .i64 f.p, .int .i64 f.a, .int .i64 f.b, .int .i64 f.c, .int .i64 f.d, .int .i64 f.e] 27)) (w.heap.size + 1) f := MpBox.new f 27 (by simp)
  have b0 : MpBox ((w.alloc (.cells #[.int .i64 f.p, .int .i64 f.a, .int .i64 f.b, .int .i64 f.c, .int .i64 f.d, .int .i64 f.e] 27)).alloc (.cells #[.int .i64 f.p, .int .i64 f.a, .int .i64 f.b, .int .i64 f.c, .int .i64 f.d, .int .i64 f.e] 27)) w.heap.size f := (MpBox.new f 27 rfl).keep _
  have HMO := Lib.hid (l04All_c A (some ⟨w.heap.size + 1, 0, none⟩) c 1 ms [f] _ hn (by simp) (h.below k0) (see_one b1))
  obtain ⟨r, hr⟩ : ∃ r, r = RIsRegularIn ms f := ⟨_, rfl⟩
  rw [← hr]
  have HR := Lib.hid hr
  clear h hr b1
  go_enter Tryz.func11, Tryz.ntmps11
  go_wp2_with fail
  refine HMO.out.mono ?_
  rintro e w1 h1
  rcases h1 with ⟨hc, rfl, hb1⟩ | ⟨hc, v, rfl, hown, hb1⟩
  · have E1 := Lib.hid (show r = (false, moC ms [f]) by rw [HR.out]; unfold RIsRegularIn; rw [if_neg hc])
    have d : (moC ms [f] != 0) = true := bne_iff_ne.2 hc
    clear hc
    go_wp2
    go_returns
    exact ⟨by rw [E1.out]; rfl, btrans k0 hb1⟩
  · have E1 := Lib.hid (show r = (regB (elsOf ms) f, 0) by rw [HR.out]; unfold RIsRegularIn; rw [if_pos hc])
    have hmr := MonR.of hc
    obtain ⟨Av, cv, rfl, hsv⟩ := hown.see
    have HI := Lib.hid (l04Regular_c Av cv (elsOf ms) (ptsL ms) f w1 hsv hmr.clo (hmr.mem f (by simp)))
    obtain ⟨t0, t1, t2, t3, t4, t5⟩ := (b0.below hb1).at.cells0
    clear hmr hc hown hsv b0
    go_wp2_with fail
    refine HI.out.mono ?_
    rintro e w3 ⟨rfl, hb3⟩
    go_wp2
    go_returns
    exact ⟨by rw [E1.out]; rfl, btrans k0 (btrans hb1 hb3)⟩
/-- elements, as the reference hands them back -/
noncomputable def RElementsOf (ms : List Mp) : List Mp × Int := RThat ms fun _ _ => true
theorem RElementsOf_ok {ms : List Mp} (h : moC ms [] = 0) : RElementsOf ms = (elsOf ms, 0) := by
  unfold RElementsOf RThat
  rw [if_pos h, List.filter_eq_self.2 (fun _ _ => rfl)]
theorem RElementsOf_bad {ms : List Mp} (h : moC ms [] ≠ 0) : RElementsOf ms = ([], moC ms []) := by
  unfold RElementsOf RThat
  rw [if_neg h]
set_option maxHeartbeats 2000000 in
theorem specElementsOf_l {A : Option Addr} {c : Nat} {ms : List Mp} {w : World} (h : SeeMaps w A ms) (hn : ms.length ≤ 2097152) :
    Calls Tryz.prog 72 #[.slice A ms.length c] w (MsPost (RElementsOf ms) w) := by
  have HEL := Lib.hid (l02Elements_c A none c 0 ms [] w hn (by simp) h (see_nil w))
  unfold ElPost at HEL
  obtain ⟨r, hr⟩ : ∃ r, r = RElementsOf ms := ⟨_, rfl⟩
  rw [← hr]
  have HR := Lib.hid hr
  clear h hr
  go_enter Tryz.func72, Tryz.ntmps72
  go_wp2_with fail
  refine HEL.out.mono ?_
  rintro e w2 hpost
  rcases hpost with ⟨hc, rfl, hb⟩ | ⟨hc, ht, rfl, hb⟩ | ⟨hc, ht, v, rfl, own, hb⟩
  · have hm := moC_bad hc
    have E1 := Lib.hid (show r = ([], lcode ms []) by rw [HR.out, RElementsOf_bad (by rw [hm]; exact hc), hm])
    clear hc hm
    go_wp2
    go_returns
    rw [E1.out]
    exact MsPost.nil hb
  · have hm := moC_big hc ht
    have E1 := Lib.hid (show r = ([], 3) by rw [HR.out, RElementsOf_bad (by rw [hm]; decide), hm])
    clear hc ht hm
    go_wp2
    go_returns
    rw [E1.out]
    exact MsPost.nil hb
  · have hm : moC ms [] = 0 := by unfold moC; rw [if_pos hc, if_neg ht, if_pos (by simp)]
    have E1 := Lib.hid (show r = (elsOf ms, 0) by rw [HR.out, RElementsOf_ok hm])
    obtain ⟨A2, c2, rfl, _⟩ := own.see
    have HO := Lib.hid own
    clear hc ht hm own
    go_wp2
    go_returns
    rw [E1.out]
    exact ⟨_, rfl, HO.out, hb⟩
set_option maxHeartbeats 2000000 in
/-- 'ElementsOf' of the implementation: the list is the monoid's own -/
theorem implElementsOf_l {A : Option Addr} {c : Nat} {ms : List Mp} {w : World} (h : SeeMaps w A ms) (hn : ms.length ≤ 2097152) (hA : NilOk A c) :
    Calls Tryz.prog 52 #[.slice A ms.length c] w fun e w' => ∃ A' c', e = .returned (.tuple #[.slice A' (RElementsOf ms).1.length c', .int .i64 (RElementsOf ms).2]) ∧ SeeMaps w' A' (RElementsOf ms).1 ∧ Below w.heap.size w w' := by
  have HMO := Lib.hid (monoidOf_c A none c 0 ms [] w hn (by simp) h (see_nil w) hA (fun _ => rfl))
  unfold MoPost at HMO
  obtain ⟨r, hr⟩ : ∃ r, r = RElementsOf ms := ⟨_, rfl⟩
  rw [← hr]
  have HR := Lib.hid hr
  clear h hr
  go_enter Tryz.func52, Tryz.ntmps52
  go_wp2_with fail
  refine HMO.out.mono ?_
  rintro e w1 h1
  rcases h1 with ⟨hc, rfl, hb1⟩ | ⟨hc, M, vp, rfl, mon, hown, hb1⟩
  · have E1 := Lib.hid (show r = ([], moC ms []) by rw [HR.out, RElementsOf_bad hc])
    have d : (moC ms [] != 0) = true := bne_iff_ne.2 hc
    clear hc
    go_wp2
    go_returns
    rw [E1.out]
    exact ⟨_, _, rfl, fun h => absurd rfl h, hb1⟩
  · have E1 := Lib.hid (show r = (elsOf ms, 0) by rw [HR.out, RElementsOf_ok hc])
    obtain ⟨A3, c3, q0, see⟩ := mon.cellsOf
    obtain ⟨An, cn, rfl, _⟩ := hown.see
    clear hc mon hown
    go_wp2
    go_returns
    rw [E1.out]
    exact ⟨_, _, rfl, see, hb1⟩
set_option maxHeartbeats 2000000 in
theorem implSizeOf_l {A : Option Addr} {c : Nat} {ms : List Mp} {w : World} (h : SeeMaps w A ms) (hn : ms.length ≤ 2097152) (hA : NilOk A c) :
    Calls Tryz.prog 19 #[.slice A ms.length c] w fun e w' => e = .returned (.tuple #[.int .i64 ((RElementsOf ms).1.length : Int), .int .i64 (RElementsOf ms).2]) ∧ Below w.heap.size w w' := by
  have HE := Lib.hid (implElementsOf_l h hn hA)
  clear h
  generalize RElementsOf ms = r at *
  go_enter Tryz.func19, Tryz.ntmps19
  go_wp2_with fail
  refine HE.out.mono ?_
  rintro e w1 ⟨A', c', rfl, _, hb⟩
  go_wp2
  go_returns
  exact ⟨rfl, hb⟩
noncomputable def RIdempotentsOf (ms : List Mp) : List Mp × Int := RThat ms fun _ f => idemB f
theorem RIdempotentsOf_len (ms : List Mp) : (RIdempotentsOf ms).1.length ≤ 1000 := RThat_len
set_option maxHeartbeats 2000000 in
theorem IdempotentsOf1_m {l : List Mp} {n : Int} (hc : Clo l n) : MethB 53 l n idemB := fun W M i f mon hi => by
  obtain ⟨A, c, c0, see⟩ := mon.cellsOf
  have lk := (List.getElem?_eq_some_iff.1 hi).1
  obtain ⟨b, o, x, rfl, hx, gx⟩ := see.at_ lk
  rw [hi] at hx
  obtain rfl := Option.some.inj hx
  obtain ⟨x0, x1, x2, x3, x4, x5⟩ := gx
  have k0 : (0 : Int) ≤ i := by omega
  have k1 : (i : Int) < l.length := by omega
  have HI := Lib.hid (isIdempotent_c f n W (hc.get hi).2)
  clear see hi mon hc lk
  go_enter Tryz.func53, Tryz.ntmps53
  go_wp2_with fail
  refine HI.out.mono ?_
  rintro e w2 ⟨rfl, hb2⟩
  go_wp2
  go_returns
  exact ⟨rfl, hb2⟩
set_option maxHeartbeats 2000000 in
theorem implIdempotentsOf_l {A : Option Addr} {c : Nat} {ms : List Mp} {w : World} (h : SeeMaps w A ms) (hn : ms.length ≤ 2097152) (hA : NilOk A c) :
    Calls Tryz.prog 20 #[.slice A ms.length c] w (MsPost (RIdempotentsOf ms) w) := by
  show Calls _ _ _ w (MsPost (RThat ms fun _ f => idemB f) w)
  have HE := Lib.hid (elementsThat_c 53 (fun _ f => idemB f) (enters_of Tryz.func53 (by kernel_rfl) rfl) h hn hA (fun hm => IdempotentsOf1_m hm.clo))
  clear h
  go_enter Tryz.func20, Tryz.ntmps20
  go_wp2_with fail
  refine HE.out.mono ?_
  rintro e w1 ⟨v, rfl, hown, hb1⟩
  obtain ⟨Av, cv, rfl, _⟩ := hown.see
  go_wp2
  go_returns
  exact ⟨_, rfl, hown, hb1⟩
end Go.Proofs.YtilfamenadaboaaGreat
