/- 'IdealOf', on both sides. No condition. -/
import Derived.Test.YtilfamenadaboaaGreatIdlLaw
import Derived.Test.YtilfamenadaboaaGreatRegMon
namespace Go.Proofs.YtilfamenadaboaaGreat
set_option linter.unusedSimpArgs false
set_option linter.unusedVariables false
set_option linter.unusedSectionVars false
open Go.RowKit
section
variable {l : List Mp} {n : Int}
set_option maxRecDepth 100000 in
set_option maxHeartbeats 2000000 in
theorem idlIdealOf_m (hc : Clo l n) : MethM 55 l n (idealM l) := fun w M i f mon hi => by
  have h1 := ideals_c hc mon
  have hlt := (List.getElem?_eq_some_iff.1 hi).1
  have hlaw := both_law hc hi
  have HM := Lib.hid (fun W (hW : MonAt W M l n) y R (hy : W5.Is y R) => members_c y R W hc hW hy)
  have HL := Lib.hid hlaw
  have H1 := Lib.hid h1
  have i0 : (0 : Int) ≤ i := by omega
  have i1 : (i : Int) < l.length := by omega
  clear hlaw h1 hi hc
  go_enter Tryz.func55, Tryz.ntmps55
  go_wp2_with fail
  refine H1.out.mono ?_
  rintro e w1 ⟨D, gl, gr, gb, rfl, mem, hb1⟩
  have dd := mem.d2
  obtain ⟨y, hy, y0, y1, y2, y3, y4⟩ := (mem.sb.at_ i hlt).w5
  have h2 := HM.out _ (mon.below hb1) y _ hy
  rw [HL.out] at h2
  have H2 := Lib.hid h2
  clear h2 hy mem mon
  go_wp2_with fail
  refine H2.out.mono ?_
  rintro e w2 ⟨v, rfl, hown, hb2⟩
  obtain ⟨Av, cv, rfl, _⟩ := hown.see
  go_wp2
  go_returns
  exact ⟨_, rfl, hown.mono hb1.size, btrans hb1 hb2⟩
theorem idealM_len (hc : Clo l n) {f : Mp} (hf : f ∈ l) : (idealM l f).length ≤ 300 := (hc.sorted (hc.flat hf)).2.2.2
end
noncomputable def RIdealOf (ms : List Mp) (f : Mp) : List Mp × Int := ROf ms f idealM
theorem RIdealOf_len (ms : List Mp) (f : Mp) : (RIdealOf ms f).1.length ≤ 1000 := by
  unfold RIdealOf ROf
  split
  · rename_i h
    have hm := MonR.of h
    have := idealM_len hm.clo (hm.mem f (by simp))
    show (idealM (elsOf ms) f).length ≤ 1000
    omega
  · simp
set_option maxHeartbeats 2000000 in
set_option maxRecDepth 100000 in
theorem implIdealOf_l {A : Option Addr} {c : Nat} {ms : List Mp} {f : Mp} {w : World} (h : SeeMaps w A ms) (hn : ms.length ≤ 2097152) (hA : NilOk A c) :
    Calls Tryz.prog 23 #[.slice A ms.length c, .agg #[.int .i64 f.p, .int .i64 f.a, .int .i64 f.b, .int .i64 f.c, .int .i64 f.d, .int .i64 f.e]] w fun e w' => ∃ v, e = .returned (.tuple #[v, .int .i64 (RIdealOf ms f).2]) ∧ OwnMaps w' w.heap.size v (RIdealOf ms f).1 ∧ Below w.heap.size w w' := by
  show Calls _ _ _ w (MsPost (ROf ms f idealM) w)
  have kk := kbelow w (.cells #[.int .i64 f.p, .int .i64 f.a, .int .i64 f.b, .int .i64 f.c, .int .i64 f.d, .int .i64 f.e] 27)
  have he := of_c (f := f) 55 idealM (enters_of Tryz.func55 (by kernel_rfl) rfl) (h.below kk) hn hA (fun hm => idlIdealOf_m hm.clo)
  have HE := Lib.hid he
  clear he h
  go_enter Tryz.func23, Tryz.ntmps23
  go_wp2_with fail
  refine HE.out.mono ?_
  rintro e w1 ⟨v, rfl, hown, hb1⟩
  obtain ⟨Av, cv, rfl, _⟩ := hown.see
  go_wp2
  go_returns
  exact ⟨_, rfl, hown.mono kk.size, btrans kk hb1⟩
set_option maxHeartbeats 2000000 in
theorem specIdealOf_l {A : Option Addr} {c : Nat} {ms : List Mp} {f : Mp} {w : World} (h : SeeMaps w A ms) (hn : ms.length ≤ 2097152) (_ : NilOk A c) :
    Calls Tryz.prog 24 #[.slice A ms.length c, .agg #[.int .i64 f.p, .int .i64 f.a, .int .i64 f.b, .int .i64 f.c, .int .i64 f.d, .int .i64 f.e]] w fun e w' => ∃ v, e = .returned (.tuple #[v, .int .i64 (RIdealOf ms f).2]) ∧ OwnMaps w' w.heap.size v (RIdealOf ms f).1 ∧ Below w.heap.size w w' := by
  show Calls _ _ _ w (MsPost (ROf ms f idealM) w)
  have k0 : Below w.heap.size w ((w.alloc (.cells #[.int .i64 f.p, .int .i64 f.a, .int .i64 f.b, .int .i64 f.c, .int .i64 f.d, .int .i64 f.e] 27)).alloc (.cells #[.int .i64 f.p, .int .i64 f.a, .int .i64 f.b, .int .i64 f.c, .int .i64 f.d, .int .i64 f.e] 27)) := by go_grown
  have b1 : MpBox ((w.alloc (.cells #[.int .i64 f.p, .int .i64 f.a, .int .i64 f.b, .int .i64 f.c, .int .i64 f.d, .int .i64 f.e] 27)).alloc (.cells #[.int .i64 f.p, .int .i64 f.a, .int .i64 f.b, .int .i64 f.c, .int .i64 f.d, .int .i64 f.e] 27)) (w.heap.size + 1) f := MpBox.new f 27 (by simp)
  have b0 : MpBox ((w.alloc (.cells #[.int .i64 f.p, .int .i64 f.a, .int .i64 f.b, .int .i64 f.c, .int .i64 f.d, .int .i64 f.e] 27)).alloc (.cells #[.int .i64 f.p, .int .i64 f.a, .int .i64 f.b, .int .i64 f.c, .int .i64 f.d, .int .i64 f.e] 27)) w.heap.size f := (MpBox.new f 27 rfl).keep _
  have hmo := l04All_c A (some ⟨w.heap.size + 1, 0, none⟩) c 1 ms [f] _ hn (by simp) (h.below k0) (see_one b1)
  have HMO := Lib.hid hmo
  obtain ⟨r, hr⟩ : ∃ r, r = ROf ms f idealM := ⟨_, rfl⟩
  rw [← hr]
  have HR := Lib.hid hr
  clear hmo h hr b1
  go_enter Tryz.func24, Tryz.ntmps24
  go_wp2_with fail
  refine HMO.out.mono ?_
  rintro e w1 h1
  rcases h1 with ⟨hc, rfl, hb1⟩ | ⟨hc, v, rfl, hown, hb1⟩
  · have e1 : r = ([], moC ms [f]) := by rw [HR.out]; unfold ROf; rw [if_neg hc]
    have E1 := Lib.hid e1
    have d : (moC ms [f] != 0) = true := bne_iff_ne.2 hc
    clear hc e1
    go_wp2
    go_returns
    rw [E1.out]
    exact MsPost.nil (btrans k0 hb1)
  · have e1 : r = (idealM (elsOf ms) f, 0) := by rw [HR.out]; unfold ROf; rw [if_pos hc]
    have E1 := Lib.hid e1
    have hmr := MonR.of hc
    have clo := hmr.clo
    have hfm := hmr.mem f (by simp)
    obtain ⟨Av, cv, rfl, hsv⟩ := hown.see
    have hi := l04Ideal_c Av cv f w1 hsv clo hfm
    have HI := Lib.hid hi
    obtain ⟨t0, t1, t2, t3, t4, t5⟩ := (b0.below hb1).at.cells0
    clear hi hmr clo hfm hc e1 hown hsv b0
    go_wp2_with fail
    refine HI.out.mono ?_
    rintro e w3 ⟨v3, rfl, hown3, hb3⟩
    obtain ⟨A3, c3, rfl, _⟩ := hown3.see
    go_wp2
    go_returns
    rw [E1.out]
    have hb4 := btrans k0 hb1
    exact ⟨_, rfl, hown3.mono hb4.size, btrans hb4 hb3⟩
/-! 'RightIdeal', on both sides. -/
section
variable {l : List Mp} {n : Int}
set_option maxRecDepth 100000 in
set_option maxHeartbeats 2000000 in
theorem idlRightIdeal_m (hc : Clo l n) : MethM 59 l n (rightM l) := fun w M i f mon hi => by
  have h1 := ideals_c hc mon
  have hlt := (List.getElem?_eq_some_iff.1 hi).1
  have hlaw := right_law hc hi
  have HM := Lib.hid (fun W (hW : MonAt W M l n) y R (hy : W5.Is y R) => members_c y R W hc hW hy)
  have HL := Lib.hid hlaw
  have H1 := Lib.hid h1
  have i0 : (0 : Int) ≤ i := by omega
  have i1 : (i : Int) < l.length := by omega
  clear hlaw h1 hi hc
  go_enter Tryz.func59, Tryz.ntmps59
  go_wp2_with fail
  refine H1.out.mono ?_
  rintro e w1 ⟨D, gl, gr, gb, rfl, mem, hb1⟩
  have dd := mem.d1
  obtain ⟨y, hy, y0, y1, y2, y3, y4⟩ := (mem.sr.at_ i hlt).w5
  have h2 := HM.out _ (mon.below hb1) y _ hy
  rw [HL.out] at h2
  have H2 := Lib.hid h2
  clear h2 hy mem mon
  go_wp2_with fail
  refine H2.out.mono ?_
  rintro e w2 ⟨v, rfl, hown, hb2⟩
  obtain ⟨Av, cv, rfl, _⟩ := hown.see
  go_wp2
  go_returns
  exact ⟨_, rfl, hown.mono hb1.size, btrans hb1 hb2⟩
theorem rightM_len (hc : Clo l n) {f : Mp} (hf : f ∈ l) : (rightM l f).length ≤ 300 := (hc.sorted (hc.rights hf)).2.2.2
end
noncomputable def RRightIdeal (ms : List Mp) (f : Mp) : List Mp × Int := ROf ms f rightM
theorem RRightIdeal_len (ms : List Mp) (f : Mp) : (RRightIdeal ms f).1.length ≤ 1000 := by
  unfold RRightIdeal ROf
  split
  · rename_i h
    have hm := MonR.of h
    have := rightM_len hm.clo (hm.mem f (by simp))
    show (rightM (elsOf ms) f).length ≤ 1000
    omega
  · simp
set_option maxHeartbeats 2000000 in
set_option maxRecDepth 100000 in
theorem implRightIdeal_l {A : Option Addr} {c : Nat} {ms : List Mp} {f : Mp} {w : World} (h : SeeMaps w A ms) (hn : ms.length ≤ 2097152) (hA : NilOk A c) :
    Calls Tryz.prog 25 #[.slice A ms.length c, .agg #[.int .i64 f.p, .int .i64 f.a, .int .i64 f.b, .int .i64 f.c, .int .i64 f.d, .int .i64 f.e]] w fun e w' => ∃ v, e = .returned (.tuple #[v, .int .i64 (RRightIdeal ms f).2]) ∧ OwnMaps w' w.heap.size v (RRightIdeal ms f).1 ∧ Below w.heap.size w w' := by
  show Calls _ _ _ w (MsPost (ROf ms f rightM) w)
  have kk := kbelow w (.cells #[.int .i64 f.p, .int .i64 f.a, .int .i64 f.b, .int .i64 f.c, .int .i64 f.d, .int .i64 f.e] 27)
  have he := of_c (f := f) 59 rightM (enters_of Tryz.func59 (by kernel_rfl) rfl) (h.below kk) hn hA (fun hm => idlRightIdeal_m hm.clo)
  have HE := Lib.hid he
  clear he h
  go_enter Tryz.func25, Tryz.ntmps25
  go_wp2_with fail
  refine HE.out.mono ?_
  rintro e w1 ⟨v, rfl, hown, hb1⟩
  obtain ⟨Av, cv, rfl, _⟩ := hown.see
  go_wp2
  go_returns
  exact ⟨_, rfl, hown.mono kk.size, btrans kk hb1⟩
set_option maxHeartbeats 2000000 in
theorem specRightIdeal_l {A : Option Addr} {c : Nat} {ms : List Mp} {f : Mp} {w : World} (h : SeeMaps w A ms) (hn : ms.length ≤ 2097152) (_ : NilOk A c) :
    Calls Tryz.prog 26 #[.slice A ms.length c, .agg #[.int .i64 f.p, .int .i64 f.a, .int .i64 f.b, .int .i64 f.c, .int .i64 f.d, .int .i64 f.e]] w fun e w' => ∃ v, e = .returned (.tuple #[v, .int .i64 (RRightIdeal ms f).2]) ∧ OwnMaps w' w.heap.size v (RRightIdeal ms f).1 ∧ Below w.heap.size w w' := by
  show Calls _ _ _ w (MsPost (ROf ms f rightM) w)
  have k0 : Below w.heap.size w ((w.alloc (.cells #[.int .i64 f.p, .int .i64 f.a, .int .i64 f.b, .int .i64 f.c, .int .i64 f.d, .int .i64 f.e] 27)).alloc (.cells #[.int .i64 f.p, .int .i64 f.a, .int .i64 f.b, .int .i64 f.c, .int .i64 f.d, .int .i64 f.e] 27)) := by go_grown
  have b1 : MpBox ((w.alloc (.cells #[.int .i64 f.p, .int .i64 f.a, .int .i64 f.b, .int .i64 f.c, .int .i64 f.d, .int .i64 f.e] 27)).alloc (.cells #[.int .i64 f.p, .int .i64 f.a, .int .i64 f.b, .int .i64 f.c, .int .i64 f.d, .int .i64 f.e] 27)) (w.heap.size + 1) f := MpBox.new f 27 (by simp)
  have b0 : MpBox ((w.alloc (.cells #[.int .i64 f.p, .int .i64 f.a, .int .i64 f.b, .int .i64 f.c, .int .i64 f.d, .int .i64 f.e] 27)).alloc (.cells #[.int .i64 f.p, .int .i64 f.a, .int .i64 f.b, .int .i64 f.c, .int .i64 f.d, .int .i64 f.e] 27)) w.heap.size f := (MpBox.new f 27 rfl).keep _
  have hmo := l04All_c A (some ⟨w.heap.size + 1, 0, none⟩) c 1 ms [f] _ hn (by simp) (h.below k0) (see_one b1)
  have HMO := Lib.hid hmo
  obtain ⟨r, hr⟩ : ∃ r, r = ROf ms f rightM := ⟨_, rfl⟩
  rw [← hr]
  have HR := Lib.hid hr
  clear hmo h hr b1
  go_enter Tryz.func26, Tryz.ntmps26
  go_wp2_with fail
  refine HMO.out.mono ?_
  rintro e w1 h1
  rcases h1 with ⟨hc, rfl, hb1⟩ | ⟨hc, v, rfl, hown, hb1⟩
  · have e1 : r = ([], moC ms [f]) := by rw [HR.out]; unfold ROf; rw [if_neg hc]
    have E1 := Lib.hid e1
    have d : (moC ms [f] != 0) = true := bne_iff_ne.2 hc
    clear hc e1
    go_wp2
    go_returns
    rw [E1.out]
    exact MsPost.nil (btrans k0 hb1)
  · have e1 : r = (rightM (elsOf ms) f, 0) := by rw [HR.out]; unfold ROf; rw [if_pos hc]
    have E1 := Lib.hid e1
    have hmr := MonR.of hc
    have clo := hmr.clo
    have hfm := hmr.mem f (by simp)
    obtain ⟨Av, cv, rfl, hsv⟩ := hown.see
    have hi := l04Right_c Av cv f w1 hsv clo hfm
    have HI := Lib.hid hi
    obtain ⟨t0, t1, t2, t3, t4, t5⟩ := (b0.below hb1).at.cells0
    clear hi hmr clo hfm hc e1 hown hsv b0
    go_wp2_with fail
    refine HI.out.mono ?_
    rintro e w3 ⟨v3, rfl, hown3, hb3⟩
    obtain ⟨A3, c3, rfl, _⟩ := hown3.see
    go_wp2
    go_returns
    rw [E1.out]
    have hb4 := btrans k0 hb1
    exact ⟨_, rfl, hown3.mono hb4.size, btrans hb4 hb3⟩
/-! 'LeftIdeal', on both sides. -/
section
variable {l : List Mp} {n : Int}
set_option maxRecDepth 100000 in
set_option maxHeartbeats 2000000 in
theorem idlLeftIdeal_m (hc : Clo l n) : MethM 61 l n (leftM l) := fun w M i f mon hi => by
  have h1 := ideals_c hc mon
  have hlt := (List.getElem?_eq_some_iff.1 hi).1
  have hlaw := left_law hc hi
  have HM := Lib.hid (fun W (hW : MonAt W M l n) y R (hy : W5.Is y R) => members_c y R W hc hW hy)
  have HL := Lib.hid hlaw
  have H1 := Lib.hid h1
  have i0 : (0 : Int) ≤ i := by omega
  have i1 : (i : Int) < l.length := by omega
  clear hlaw h1 hi hc
  go_enter Tryz.func61, Tryz.ntmps61
  go_wp2_with fail
  refine H1.out.mono ?_
  rintro e w1 ⟨D, gl, gr, gb, rfl, mem, hb1⟩
  have dd := mem.d0
  obtain ⟨y, hy, y0, y1, y2, y3, y4⟩ := (mem.sl.at_ i hlt).w5
  have h2 := HM.out _ (mon.below hb1) y _ hy
  rw [HL.out] at h2
  have H2 := Lib.hid h2
  clear h2 hy mem mon
  go_wp2_with fail
  refine H2.out.mono ?_
  rintro e w2 ⟨v, rfl, hown, hb2⟩
  obtain ⟨Av, cv, rfl, _⟩ := hown.see
  go_wp2
  go_returns
  exact ⟨_, rfl, hown.mono hb1.size, btrans hb1 hb2⟩
theorem leftM_len (hc : Clo l n) {f : Mp} (hf : f ∈ l) : (leftM l f).length ≤ 300 := (hc.sorted (hc.lefts hf)).2.2.2
end
noncomputable def RLeftIdeal (ms : List Mp) (f : Mp) : List Mp × Int := ROf ms f leftM
theorem RLeftIdeal_len (ms : List Mp) (f : Mp) : (RLeftIdeal ms f).1.length ≤ 1000 := by
  unfold RLeftIdeal ROf
  split
  · rename_i h
    have hm := MonR.of h
    have := leftM_len hm.clo (hm.mem f (by simp))
    show (leftM (elsOf ms) f).length ≤ 1000
    omega
  · simp
set_option maxHeartbeats 2000000 in
set_option maxRecDepth 100000 in
theorem implLeftIdeal_l {A : Option Addr} {c : Nat} {ms : List Mp} {f : Mp} {w : World} (h : SeeMaps w A ms) (hn : ms.length ≤ 2097152) (hA : NilOk A c) :
    Calls Tryz.prog 27 #[.slice A ms.length c, .agg #[.int .i64 f.p, .int .i64 f.a, .int .i64 f.b, .int .i64 f.c, .int .i64 f.d, .int .i64 f.e]] w fun e w' => ∃ v, e = .returned (.tuple #[v, .int .i64 (RLeftIdeal ms f).2]) ∧ OwnMaps w' w.heap.size v (RLeftIdeal ms f).1 ∧ Below w.heap.size w w' := by
  show Calls _ _ _ w (MsPost (ROf ms f leftM) w)
  have kk := kbelow w (.cells #[.int .i64 f.p, .int .i64 f.a, .int .i64 f.b, .int .i64 f.c, .int .i64 f.d, .int .i64 f.e] 27)
  have he := of_c (f := f) 61 leftM (enters_of Tryz.func61 (by kernel_rfl) rfl) (h.below kk) hn hA (fun hm => idlLeftIdeal_m hm.clo)
  have HE := Lib.hid he
  clear he h
  go_enter Tryz.func27, Tryz.ntmps27
  go_wp2_with fail
  refine HE.out.mono ?_
  rintro e w1 ⟨v, rfl, hown, hb1⟩
  obtain ⟨Av, cv, rfl, _⟩ := hown.see
  go_wp2
  go_returns
  exact ⟨_, rfl, hown.mono kk.size, btrans kk hb1⟩
set_option maxHeartbeats 2000000 in
theorem specLeftIdeal_l {A : Option Addr} {c : Nat} {ms : List Mp} {f : Mp} {w : World} (h : SeeMaps w A ms) (hn : ms.length ≤ 2097152) (_ : NilOk A c) :
    Calls Tryz.prog 28 #[.slice A ms.length c, .agg #[.int .i64 f.p, .int .i64 f.a, .int .i64 f.b, .int .i64 f.c, .int .i64 f.d, .int .i64 f.e]] w fun e w' => ∃ v, e = .returned (.tuple #[v, .int .i64 (RLeftIdeal ms f).2]) ∧ OwnMaps w' w.heap.size v (RLeftIdeal ms f).1 ∧ Below w.heap.size w w' := by
  show Calls _ _ _ w (MsPost (ROf ms f leftM) w)
  have k0 : Below w.heap.size w ((w.alloc (.cells #[.int .i64 f.p, .int .i64 f.a, .int .i64 f.b, .int .i64 f.c, .int .i64 f.d, .int .i64 f.e] 27)).alloc (.cells #[.int .i64 f.p, .int .i64 f.a, .int .i64 f.b, .int .i64 f.c, .int .i64 f.d, .int .i64 f.e] 27)) := by go_grown
  have b1 : MpBox ((w.alloc (.cells #[.int .i64 f.p, .int .i64 f.a, .int .i64 f.b, .int .i64 f.c, .int .i64 f.d, .int .i64 f.e] 27)).alloc (.cells #[.int .i64 f.p, .int .i64 f.a, .int .i64 f.b, .int .i64 f.c, .int .i64 f.d, .int .i64 f.e] 27)) (w.heap.size + 1) f := MpBox.new f 27 (by simp)
  have b0 : MpBox ((w.alloc (.cells #[.int .i64 f.p, .int .i64 f.a, .int .i64 f.b, .int .i64 f.c, .int .i64 f.d, .int .i64 f.e] 27)).alloc (.cells #[.int .i64 f.p, .int .i64 f.a, .int .i64 f.b, .int .i64 f.c, .int .i64 f.d, .int .i64 f.e] 27)) w.heap.size f := (MpBox.new f 27 rfl).keep _
  have hmo := l04All_c A (some ⟨w.heap.size + 1, 0, none⟩) c 1 ms [f] _ hn (by simp) (h.below k0) (see_one b1)
  have HMO := Lib.hid hmo
  obtain ⟨r, hr⟩ : ∃ r, r = ROf ms f leftM := ⟨_, rfl⟩
  rw [← hr]
  have HR := Lib.hid hr
  clear hmo h hr b1
  go_enter Tryz.func28, Tryz.ntmps28
  go_wp2_with fail
  refine HMO.out.mono ?_
  rintro e w1 h1
  rcases h1 with ⟨hc, rfl, hb1⟩ | ⟨hc, v, rfl, hown, hb1⟩
  · have e1 : r = ([], moC ms [f]) := by rw [HR.out]; unfold ROf; rw [if_neg hc]
    have E1 := Lib.hid e1
    have d : (moC ms [f] != 0) = true := bne_iff_ne.2 hc
    clear hc e1
    go_wp2
    go_returns
    rw [E1.out]
    exact MsPost.nil (btrans k0 hb1)
  · have e1 : r = (leftM (elsOf ms) f, 0) := by rw [HR.out]; unfold ROf; rw [if_pos hc]
    have E1 := Lib.hid e1
    have hmr := MonR.of hc
    have clo := hmr.clo
    have hfm := hmr.mem f (by simp)
    obtain ⟨Av, cv, rfl, hsv⟩ := hown.see
    have hi := l04Left_c Av cv f w1 hsv clo hfm
    have HI := Lib.hid hi
    obtain ⟨t0, t1, t2, t3, t4, t5⟩ := (b0.below hb1).at.cells0
    clear hi hmr clo hfm hc e1 hown hsv b0
    go_wp2_with fail
    refine HI.out.mono ?_
    rintro e w3 ⟨v3, rfl, hown3, hb3⟩
    obtain ⟨A3, c3, rfl, _⟩ := hown3.see
    go_wp2
    go_returns
    rw [E1.out]
    have hb4 := btrans k0 hb1
    exact ⟨_, rfl, hown3.mono hb4.size, btrans hb4 hb3⟩
/-! 'LeastIdeal', on both sides. -/
theorem least_take {n : Int} {l : List Mp} {k : Nat} {f : Mp} (h1 : 1 ≤ k) (hk : l[k]? = some f) : leastM n (l.take (k + 1)) = if rankN n f < rankN n (leastM n (l.take k)) then f else leastM n (l.take k) := by
  cases l with
  | nil => simp at hk
  | cons a l =>
    obtain ⟨j, rfl⟩ : ∃ j, k = j + 1 := ⟨k - 1, by omega⟩
    have hk2 : l[j]? = some f := by simpa using hk
    unfold leastM
    rw [List.take_succ_cons, List.take_succ_cons, List.take_add_one, hk2]
    simp only [List.tail_cons, List.headD_cons, Option.toList_some, List.foldl_append, List.foldl_cons, List.foldl_nil]
    rfl
theorem least_one {n : Int} {l : List Mp} {f : Mp} (hk : l[0]? = some f) : leastM n (l.take 1) = f := by
  cases l with
  | nil => simp at hk
  | cons a l => simp at hk; subst hk; rfl
set_option maxHeartbeats 4000000 in
set_option maxRecDepth 100000 in
theorem l04Least_c (A : Option Addr) (c : Nat) (l : List Mp) (n : Int) (w : World) (hs : SeeMaps w A l) (hN : ∀ g ∈ l, MpN g n) (h0 : 0 < l.length) (hl : l.length ≤ 300) :
    Calls Tryz.prog 64 #[.slice A l.length c] w fun e w' => e = .returned (.agg #[.int .i64 (leastM n l).p, .int .i64 (leastM n l).a, .int .i64 (leastM n l).b, .int .i64 (leastM n l).c, .int .i64 (leastM n l).d, .int .i64 (leastM n l).e]) ∧ Below w.heap.size w w' := by
  have HN := Lib.hid hN
  obtain ⟨b, o, f, rfl, hf, gf⟩ := hs.at_ h0
  have lpos : (0 : Int) < l.length := by omega
  have HF := Lib.hid hf
  have k0 : Below w.heap.size w (w.alloc (.cells #[.int .i64 0, .int .i64 0, .int .i64 0, .int .i64 0, .int .i64 0, .int .i64 0] 27)) := by go_grown
  have gf1 := gf.below k0
  obtain ⟨f0, f1, f2, f3, f4, f5⟩ := gf1
  simp only [Nat.zero_mul, Nat.add_zero] at f0 f1 f2 f3 f4 f5
  clear hN hf gf
  have hlen := hl
  have HS := Lib.hid hs
  clear hs hl
  obtain ⟨bb, hbb⟩ : ∃ bb, bb = leastM n l := ⟨_, rfl⟩
  rw [← hbb]
  have HBB := Lib.hid hbb
  clear hbb
  go_enter Tryz.func64, Tryz.ntmps64
  go_wp2
  have bz0 : MpBox ((w.alloc (.cells #[.int .i64 0, .int .i64 0, .int .i64 0, .int .i64 0, .int .i64 0, .int .i64 0] 27)).alloc (.cells #[.int .i64 f.p, .int .i64 f.a, .int .i64 f.b, .int .i64 f.c, .int .i64 f.d, .int .i64 f.e] 27)) w.heap.size Mp.z := (MpBox.new Mp.z 27 rfl).keep _
  have bf0 : MpBox ((w.alloc (.cells #[.int .i64 0, .int .i64 0, .int .i64 0, .int .i64 0, .int .i64 0, .int .i64 0] 27)).alloc (.cells #[.int .i64 f.p, .int .i64 f.a, .int .i64 f.b, .int .i64 f.c, .int .i64 f.d, .int .i64 f.e] 27)) (w.heap.size + 1) f := MpBox.new f 27 (by simp)
  have kk : Below w.heap.size w ((w.alloc (.cells #[.int .i64 0, .int .i64 0, .int .i64 0, .int .i64 0, .int .i64 0, .int .i64 0] 27)).alloc (.cells #[.int .i64 f.p, .int .i64 f.a, .int .i64 f.b, .int .i64 f.c, .int .i64 f.d, .int .i64 f.e] 27)) := by go_grown
  obtain ⟨z1, hz1⟩ : ∃ z1, z1 = w.heap.size + 1 := ⟨_, rfl⟩
  have hz : w.heap.size < z1 := by omega
  rw [← hz1] at bf0 ⊢
  clear hz1
  go_loopw [4] (fun iv wr => ∃ k : Nat, 1 ≤ k ∧ k ≤ l.length ∧ iv = .int .i64 k ∧ MpBox wr w.heap.size Mp.z ∧ MpBox wr z1 (leastM n (l.take k)) ∧ Hid (MpN (leastM n (l.take k)) n) ∧ Below w.heap.size w wr) (fun iv _ => l.length - (intOf iv).toNat)
  case atStart => exact ⟨1, Nat.le_refl _, h0, rfl, bz0, by rw [least_one HF.out]; exact bf0, Lib.hid (by rw [least_one HF.out]; exact HN.out f (List.mem_of_getElem? HF.out)), kk⟩
  case round =>
    clear bz0 bf0 kk f0 f1 f2 f3 f4 f5
    obtain ⟨k, hk1, hk, rfl, bz, bl, hbN, hb⟩ := hrel
    have l0 : (0 : Int) ≤ k := by omega
    by_cases hlt : k < l.length
    · obtain ⟨bx, ox, g, e, hg, gg⟩ := (HS.out.below hb).at_ hlt
      simp only [Option.some.injEq, Addr.mk.injEq, and_true] at e
      obtain ⟨rfl, rfl⟩ := e
      have l1 : (k : Int) < l.length := by omega
      have HST := Lib.hid (least_take (n := n) hk1 hg)
      have gN := HN.out g (List.mem_of_getElem? hg)
      have GN := Lib.hid gN
      have hr1 := fun W => l01Rank_c g n W gN
      have hr2 := fun W => l01Rank_c (leastM n (l.take k)) n W hbN.out
      change ∀ W, Calls _ _ _ W fun e w' => e = .returned (.int .i64 (rankN n g)) ∧ _ at hr1
      change ∀ W, Calls _ _ _ W fun e w' => e = .returned (.int .i64 (rankN n (leastM n (l.take k)))) ∧ _ at hr2
      have H1 := Lib.hid hr1
      have H2 := Lib.hid hr2
      obtain ⟨g0, g1, g2, g3, g4, g5⟩ := gg.bw
      obtain ⟨t0, t1, t2, t3, t4, t5⟩ := bl.at.bw
      simp only [Nat.zero_add] at t0 t1 t2 t3 t4 t5
      have GG := Lib.hid gg
      clear hg hr1 hr2 gg gN
      generalize rankN n g = r1 at *
      generalize rankN n (leastM n (l.take k)) = r2 at *
      generalize leastM n (l.take k) = b1 at *
      by_cases hlr : r1 < r2
      · rw [if_pos hlr] at HST
        have d : decide (r1 < r2) = true := decide_eq_true hlr
        go_wp2
        refine wp_region_bw (by kernel_rfl) (by kernel_rfl) ?_
        repeat go_big_quiet_step ((first | (go_at_call_of 97 (Value.agg #[.int .i64 g.p, .int .i64 g.a, .int .i64 g.b, .int .i64 g.c, .int .i64 g.d, .int .i64 g.e]); exact Calls.bw _ (H1.out _)) | (go_at_call_of 97 (Value.agg #[.int .i64 b1.p, .int .i64 b1.a, .int .i64 b1.b, .int .i64 b1.c, .int .i64 b1.d, .int .i64 b1.e]); exact Calls.bw _ (H2.out _))))
        refine wpQuiet_nil ?_
        rintro w3 ⟨⟨w3x, hb3⟩, rfl⟩
        clear g0 g1 g2 g3 g4 g5 t0 t1 t2 t3 t4 t5
        obtain ⟨g0, g1, g2, g3, g4, g5⟩ := GG.out.below hb3
        have bl3 := bl.below hb3
        have fr := bl3.free
        obtain ⟨t0, t1, t2, t3, t4, t5⟩ := bl3.at.cells0
        have hst := bl3.store g
        have HBL := Lib.hid hst
        have bz3 := (bz.below hb3)
        have hb4 := btrans hb hb3
        have hne : w.heap.size ≠ z1 := by omega
        clear hst
        go_wp2
        go_roundw
        case rel => exact ⟨k + 1, by omega, by omega, by go_num, (((((bz3.far hne _).far hne _).far hne _).far hne _).far hne _).far hne _, by rw [HST.out]; exact HBL.out, Lib.hid (by rw [HST.out]; exact GN.out), Below.setCell (Below.setCell (Below.setCell (Below.setCell (Below.setCell (Below.setCell hb4 (by show w.heap.size ≤ z1; omega) _) (by show w.heap.size ≤ z1; omega) _) (by show w.heap.size ≤ z1; omega) _) (by show w.heap.size ≤ z1; omega) _) (by show w.heap.size ≤ z1; omega) _) (by show w.heap.size ≤ z1; omega) _⟩
        case measure => simp [intOf]; omega
      · rw [if_neg hlr] at HST
        have d : decide (r1 < r2) = false := decide_eq_false hlr
        go_wp2
        refine wp_region_bw (by kernel_rfl) (by kernel_rfl) ?_
        repeat go_big_quiet_step ((first | (go_at_call_of 97 (Value.agg #[.int .i64 g.p, .int .i64 g.a, .int .i64 g.b, .int .i64 g.c, .int .i64 g.d, .int .i64 g.e]); exact Calls.bw _ (H1.out _)) | (go_at_call_of 97 (Value.agg #[.int .i64 b1.p, .int .i64 b1.a, .int .i64 b1.b, .int .i64 b1.c, .int .i64 b1.d, .int .i64 b1.e]); exact Calls.bw _ (H2.out _))))
        refine wpQuiet_nil ?_
        rintro w3 ⟨⟨w3x, hb3⟩, rfl⟩
        go_wp2
        go_roundw
        case rel => exact ⟨k + 1, by omega, by omega, by go_num, bz.below hb3, by rw [HST.out]; exact bl.below hb3, Lib.hid (by rw [HST.out]; exact hbN.out), btrans hb hb3⟩
        case measure => simp [intOf]; omega
    · have ek : k = l.length := by omega
      have nlt : ¬ (k : Int) < l.length := by omega
      rw [ek, List.take_length, ← HBB.out] at bl
      clear ek hlt hk hbN
      obtain ⟨q0, q1, q2, q3, q4, q5⟩ := bl.at.cells0
      obtain ⟨z0, z1', z2, z3, z4, z5⟩ := bz.at.cells0
      have f := bz.free
      have hb6 : Below w.heap.size w ((((((wr.setCell ⟨w.heap.size, 0, none⟩ (.int .i64 bb.p)).setCell ⟨w.heap.size, 1, none⟩ (.int .i64 bb.a)).setCell ⟨w.heap.size, 2, none⟩ (.int .i64 bb.b)).setCell ⟨w.heap.size, 3, none⟩ (.int .i64 bb.c)).setCell ⟨w.heap.size, 4, none⟩ (.int .i64 bb.d)).setCell ⟨w.heap.size, 5, none⟩ (.int .i64 bb.e)) := Below.setCell (Below.setCell (Below.setCell (Below.setCell (Below.setCell (Below.setCell hb (Nat.le_refl _) _) (Nat.le_refl _) _) (Nat.le_refl _) _) (Nat.le_refl _) _) (Nat.le_refl _) _) (Nat.le_refl _) _
      go_wp2
      refine bodyPost_ret (v := .agg #[.int .i64 bb.p, .int .i64 bb.a, .int .i64 bb.b, .int .i64 bb.c, .int .i64 bb.d, .int .i64 bb.e]) (by simp [results, Tryz.results64, go_sem, z0, z1', z2, z3, z4, z5]) rfl ⟨rfl, hb6⟩
noncomputable def RLeastIdeal (ms : List Mp) : List Mp × Int := if moC ms [] = 0 then (idealM (elsOf ms) (leastM (ptsL ms) (elsOf ms)), 0) else ([], moC ms [])
theorem MonR.pos {ms : List Mp} (h : MonR ms []) : 0 < (elsOf ms).length := List.length_pos_of_mem (id_mem h.list)
theorem RLeastIdeal_len (ms : List Mp) : (RLeastIdeal ms).1.length ≤ 1000 := by
  unfold RLeastIdeal
  split
  · rename_i h
    have hm := MonR.of h
    have := idealM_len hm.clo (leastM_spec (ptsL ms) hm.pos).1
    show (idealM _ _).length ≤ 1000
    omega
  · simp
set_option maxHeartbeats 2000000 in
theorem specLeastIdeal_l {A : Option Addr} {c : Nat} {ms : List Mp} {w : World} (h : SeeMaps w A ms) (hn : ms.length ≤ 2097152) (_ : NilOk A c) :
    Calls Tryz.prog 30 #[.slice A ms.length c] w fun e w' => ∃ v, e = .returned (.tuple #[v, .int .i64 (RLeastIdeal ms).2]) ∧ OwnMaps w' w.heap.size v (RLeastIdeal ms).1 ∧ Below w.heap.size w w' := by
  show Calls _ _ _ w (MsPost (RLeastIdeal ms) w)
  have hmo := l04All_c A none c 0 ms [] w hn (by simp) h (see_nil w)
  have HMO := Lib.hid hmo
  obtain ⟨r, hr⟩ : ∃ r, r = RLeastIdeal ms := ⟨_, rfl⟩
  rw [← hr]
  have HR := Lib.hid hr
  clear hmo h hr
  go_enter Tryz.func30, Tryz.ntmps30
  go_wp2_with fail
  refine HMO.out.mono ?_
  rintro e w1 h1
  rcases h1 with ⟨hc, rfl, hb1⟩ | ⟨hc, v, rfl, hown, hb1⟩
  · have e1 : r = ([], moC ms []) := by rw [HR.out]; unfold RLeastIdeal; rw [if_neg hc]
    have E1 := Lib.hid e1
    have d : (moC ms [] != 0) = true := bne_iff_ne.2 hc
    clear hc e1
    go_wp2
    go_returns
    rw [E1.out]
    exact MsPost.nil hb1
  · have e1 : r = (idealM (elsOf ms) (leastM (ptsL ms) (elsOf ms)), 0) := by rw [HR.out]; unfold RLeastIdeal; rw [if_pos hc]
    have E1 := Lib.hid e1
    have hmr := MonR.of hc
    have clo := hmr.clo
    have hpos := hmr.pos
    have hfm := (leastM_spec (ptsL ms) hpos).1
    obtain ⟨Av, cv, rfl, hsv⟩ := hown.see
    have hle := l04Least_c Av cv (elsOf ms) (ptsL ms) w1 hsv clo.all hpos clo.len
    have HLE := Lib.hid hle
    have HI := Lib.hid (fun W (hW : SeeMaps W Av (elsOf ms)) => l04Ideal_c Av cv (leastM (ptsL ms) (elsOf ms)) W hW clo hfm)
    clear hle hmr clo hfm hc e1 hown hpos
    generalize leastM (ptsL ms) (elsOf ms) = b at *
    go_wp2_with fail
    refine HLE.out.mono ?_
    rintro e w2 ⟨rfl, hb2⟩
    go_wp2_with fail
    refine (HI.out _ (hsv.below hb2)).mono ?_
    rintro e w3 ⟨v3, rfl, hown3, hb3⟩
    obtain ⟨A3, c3, rfl, _⟩ := hown3.see
    go_wp2
    go_returns
    rw [E1.out]
    have hb4 := btrans hb1 hb2
    exact ⟨_, rfl, hown3.mono hb4.size, btrans hb4 hb3⟩
set_option maxHeartbeats 2000000 in
set_option maxRecDepth 100000 in
theorem implLeastIdeal_l {A : Option Addr} {c : Nat} {ms : List Mp} {w : World} (h : SeeMaps w A ms) (hn : ms.length ≤ 2097152) (hA : NilOk A c) :
    Calls Tryz.prog 29 #[.slice A ms.length c] w fun e w' => ∃ v, e = .returned (.tuple #[v, .int .i64 (RLeastIdeal ms).2]) ∧ OwnMaps w' w.heap.size v (RLeastIdeal ms).1 ∧ Below w.heap.size w w' := by
  show Calls _ _ _ w (MsPost (RLeastIdeal ms) w)
  have hmo := monoidOf_c A none c 0 ms [] w hn (by simp) h (see_nil w) hA (fun _ => rfl)
  have HMO := Lib.hid hmo
  obtain ⟨r, hr⟩ : ∃ r, r = RLeastIdeal ms := ⟨_, rfl⟩
  rw [← hr]
  have HR := Lib.hid hr
  clear hmo h hr
  go_enter Tryz.func29, Tryz.ntmps29
  go_wp2_with fail
  refine HMO.out.mono ?_
  rintro e w1 h1
  rcases h1 with ⟨hc, rfl, hb1⟩ | ⟨hc, M, vp, rfl, mon, hown, hb1⟩
  · have e1 : r = ([], moC ms []) := by rw [HR.out]; unfold RLeastIdeal; rw [if_neg hc]
    have E1 := Lib.hid e1
    have d : (moC ms [] != 0) = true := bne_iff_ne.2 hc
    clear hc e1
    go_wp2
    go_returns
    rw [E1.out]
    exact MsPost.nil hb1
  · have e1 : r = (idealM (elsOf ms) (leastM (ptsL ms) (elsOf ms)), 0) := by rw [HR.out]; unfold RLeastIdeal; rw [if_pos hc]
    have E1 := Lib.hid e1
    have hmr := MonR.of hc
    have clo := hmr.clo
    have hpos := hmr.pos
    obtain ⟨An, cn, rfl, _⟩ := hown.see
    have hid := ideals_c clo mon
    have HLT := Lib.hid (fun k' q hk h => leftTo_lt (i := (elsOf ms).length) (k := 0) (k' := k') (q := q) clo hk h)
    have HID := Lib.hid hid
    have HLAW := Lib.hid (fun R hR => meet_law clo hpos (R := R) hR)
    have HMEM := Lib.hid (fun W (hW : MonAt W M (elsOf ms) (ptsL ms)) y R (hy : W5.Is y R) => members_c y R W clo hW hy)
    have hlen := clo.len
    clear hid hmr clo hc e1 hown
    generalize leastM (ptsL ms) (elsOf ms) = b at *
    go_wp2_with fail
    refine HID.out.mono ?_
    rintro e w2 ⟨D, gl, gr, gb, rfl, mem, hb2⟩
    have mon2 := mon.below hb2
    obtain ⟨R, hR⟩ : ∃ R, R = bothTo (elsOf ms).length (rightTo (elsOf ms).length (mpl (elsOf ms)) (elsOf ms).length 0) (leftTo (elsOf ms).length (mpl (elsOf ms)) (elsOf ms).length 0) (elsOf ms).length 0 := ⟨_, rfl⟩
    rw [← hR] at mem
    have HLW := HLAW.out R hR
    have HQ := Lib.hid (show ∀ q, R 0 q → q < 320 from fun q h => by
      rw [hR] at h
      obtain ⟨k', h1, _, _, h4⟩ := h
      exact HLT.out _ q h1 h4)
    have HLW2 := Lib.hid HLW
    have sb := mem.sb
    have d2 := mem.d2
    have SB := Lib.hid sb
    clear HLW hR HLAW mem mon HID HMO
    obtain ⟨N, hN⟩ : ∃ N, N = (elsOf ms).length := ⟨_, rfl⟩
    rw [← hN] at SB d2 hpos hlen HLW2
    clear hN sb
    obtain ⟨y0, hy0, ya, yb, yc, yd, ye⟩ := (SB.out.at_ 0 hpos).w5
    rw [Nat.zero_mul] at ya yb yc yd ye
    have N0 : (0 : Int) < N := by omega
    have kk := kbelow w2 (.cells #[.int .u64 y0.a, .int .u64 y0.b, .int .u64 y0.c, .int .u64 y0.d, .int .u64 y0.e] 69)
    have d2' := bcell kk d2
    go_wp2
    have sO : SetsBox (w2.alloc (.cells #[.int .u64 y0.a, .int .u64 y0.b, .int .u64 y0.c, .int .u64 y0.d, .int .u64 y0.e] 69)) w2.heap.size 1 (fun _ q => R 0 q ∧ ∀ i, i < 0 → R i q) :=
      ⟨⟨_, _, heap_alloc_new w2 _, rfl⟩, fun i hi => by
        obtain rfl : i = 0 := by omega
        intro j hj
        obtain ⟨x, h1, h2⟩ := W5.set w2 y0 69 hy0 j hj
        exact ⟨x, by simpa using h1, h2.congr fun q => ⟨fun h => ⟨h, fun i hi => by omega⟩, fun h => h.1⟩⟩⟩
    clear ya yb yc yd ye d2 d2'
    go_loopw [33] (fun kv wr => ∃ k : Nat, k ≤ N ∧ kv = .int .i64 k ∧ SetsBox wr w2.heap.size 1 (fun _ q => R 0 q ∧ ∀ i, i < k → R i q) ∧ Below w2.heap.size w2 wr) (fun kv _ => N - (intOf kv).toNat)
    case atStart => exact ⟨0, Nat.zero_le _, rfl, sO, kk⟩
    case round =>
      clear sO kk
      obtain ⟨k, hk, rfl, sO, hb⟩ := hrel
      have l0 : (0 : Int) ≤ k := by omega
      by_cases hlt : k < N
      · have l1 : (k : Int) < N := by omega
        obtain ⟨y, hy, ya, yb, yc, yd, ye⟩ := ((SB.out.below hb).at_ k hlt).w5
        have kk := kbelow wr (.cells #[.int .u64 y.a, .int .u64 y.b, .int .u64 y.c, .int .u64 y.d, .int .u64 y.e] 69)
        have hm := meet_c w2.heap.size 1 0 (fun _ q => R 0 q ∧ ∀ i, i < k → R i q) (R k) y _ (sO.below kk) (by omega) hy
        have HM := Lib.hid hm
        clear hm
        go_wp2_with fail
        refine HM.out.mono ?_
        rintro e w4 ⟨rfl, hk4, hs4⟩
        have hb4 : Below w2.heap.size w2 w4 := (hb.trans (kk.mono hb.size)).trans (hk4.below (Nat.le_trans hb.size kk.size) (fun j hj => by show j ≠ w2.heap.size; omega))
        have s4 := hs4.congr (R := fun _ q => R 0 q ∧ ∀ i, i < k + 1 → R i q) (fun i' hi' q => by
          obtain rfl : i' = 0 := by omega
          rw [if_pos rfl]
          unfold meetTo
          constructor
          · intro h
            split at h
            · exact ⟨h.1.1, fun i hi => by
                by_cases e : i = k
                · subst e; exact h.2
                · exact h.1.2 i (by omega)⟩
            · rename_i hq
              exact absurd (HQ.out q h.1) (by omega)
          · intro h
            have := HQ.out q h.1
            rw [if_pos (by omega)]
            exact ⟨⟨h.1, fun i hi => h.2 i (by omega)⟩, h.2 k (by omega)⟩)
        clear ya yb yc yd ye hs4 sO
        go_wp2
        go_roundw
        case rel => exact ⟨k + 1, by omega, by go_num, s4, hb4⟩
        case measure => simp [intOf]; omega
      · have ek : k = N := by omega
        rw [ek] at sO
        have nlt : ¬ (k : Int) < N := by omega
        clear ek hlt hk
        obtain ⟨y, hy, ya, yb, yc, yd, ye⟩ := (sO.at_ 0 (by omega)).w5
        rw [Nat.zero_mul] at ya yb yc yd ye
        have hmem := HMEM.out wr (mon2.below hb) y _ hy
        rw [HLW2.out] at hmem
        have HMM := Lib.hid hmem
        clear hmem
        go_wp2_with fail
        refine HMM.out.mono ?_
        rintro e w5 ⟨v5, rfl, hown5, hb5⟩
        obtain ⟨A5, c5, rfl, _⟩ := hown5.see
        go_wp2
        go_returns
        rw [E1.out]
        have hb6 := btrans hb1 (btrans hb2 hb)
        exact ⟨_, rfl, hown5.mono hb6.size, btrans hb6 hb5⟩
end Go.Proofs.YtilfamenadaboaaGreat
