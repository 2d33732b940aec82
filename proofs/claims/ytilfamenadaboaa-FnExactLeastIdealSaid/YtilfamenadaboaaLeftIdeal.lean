/- 'LeftIdeal', on both sides. No condition. -/
import Derived.Test.YtilfamenadaboaaIdlLaw
namespace Go.Proofs.Ytilfamenadaboaa
set_option linter.unusedSimpArgs false
set_option linter.unusedVariables false
set_option linter.unusedSectionVars false
open Go.RowKit
section
variable {l : List Mp} {n : Int}
set_option maxRecDepth 100000 in
set_option maxHeartbeats 2000000 in
theorem idlLeftIdeal_m (hc : Clo l n) : MethM 62 l n (leftM l) := fun w M i f mon hi => by
  have h1 := ideals_c hc mon
  have hlt := (List.getElem?_eq_some_iff.1 hi).1
  have hlaw := left_law hc hi
  have HM := Lib.hid (fun W (hW : MonAt W M l n) y R (hy : W5.Is y R) => members_c y R W hc hW hy)
  have HL := Lib.hid hlaw
  have H1 := Lib.hid h1
  have i0 : (0 : Int) ≤ i := by omega
  have i1 : (i : Int) < l.length := by omega
  clear hlaw h1 hi hc
  go_enter Try.func62, Try.ntmps62
  go_wp2_with fail
  refine H1.out.mono ?_
  rintro e w1 ⟨D, gl, gr, gb, rfl, mem, hb1⟩
  have dd := mem.d0
  obtain ⟨y, hy, y0, y1, y2, y3, y4⟩ := (mem.sl.at_ i hlt).w5
  have h2 := HM.out _ (mon.below hb1) y _ hy
  rw [HL.out] at h2
  have H2 := Lib.hid h2
  clear h2 hy mem mon
  go_wp2_with fail
  refine H2.out.mono ?_
  rintro e w2 ⟨v, rfl, hown, hb2⟩
  obtain ⟨Av, cv, rfl, _⟩ := hown.see
  go_wp2
  go_returns
  exact ⟨_, rfl, hown.mono hb1.size, btrans hb1 hb2⟩
theorem leftM_len (hc : Clo l n) {f : Mp} (hf : f ∈ l) : (leftM l f).length ≤ 300 := (hc.sorted (hc.lefts hf)).2.2.2
end
noncomputable def RLeftIdeal (ms : List Mp) (f : Mp) : List Mp × Int := ROf ms f leftM
theorem RLeftIdeal_len (ms : List Mp) (f : Mp) : (RLeftIdeal ms f).1.length ≤ 1000 := by
  unfold RLeftIdeal ROf
  split
  · rename_i h
    have hm := MonR.of h
    have := leftM_len hm.clo (hm.mem f (by simp))
    show (leftM (elsOf ms) f).length ≤ 1000
    omega
  · simp
set_option maxHeartbeats 2000000 in
set_option maxRecDepth 100000 in
theorem implLeftIdeal_l {A : Option Addr} {c : Nat} {ms : List Mp} {f : Mp} {w : World} (h : SeeMaps w A ms) (hn : ms.length ≤ 2097152) (hA : NilOk A c) :
    Calls Try.prog 33 #[.slice A ms.length c, .agg #[.int .i64 f.p, .int .i64 f.a, .int .i64 f.b, .int .i64 f.c, .int .i64 f.d, .int .i64 f.e]] w fun e w' => ∃ v, e = .returned (.tuple #[v, .int .i64 (RLeftIdeal ms f).2]) ∧ OwnMaps w' w.heap.size v (RLeftIdeal ms f).1 ∧ Below w.heap.size w w' := by
  show Calls _ _ _ w (MsPost (ROf ms f leftM) w)
  have kk := kbelow w (.cells #[.int .i64 f.p, .int .i64 f.a, .int .i64 f.b, .int .i64 f.c, .int .i64 f.d, .int .i64 f.e] 34)
  have he := of_c (f := f) 62 leftM (enters_of Try.func62 (by kernel_rfl) rfl) (h.below kk) hn hA (fun hm => idlLeftIdeal_m hm.clo)
  have HE := Lib.hid he
  clear he h
  go_enter Try.func33, Try.ntmps33
  go_wp2_with fail
  refine HE.out.mono ?_
  rintro e w1 ⟨v, rfl, hown, hb1⟩
  obtain ⟨Av, cv, rfl, _⟩ := hown.see
  go_wp2
  go_returns
  exact ⟨_, rfl, hown.mono kk.size, btrans kk hb1⟩
set_option maxHeartbeats 2000000 in
theorem specLeftIdeal_l {A : Option Addr} {c : Nat} {ms : List Mp} {f : Mp} {w : World} (h : SeeMaps w A ms) (hn : ms.length ≤ 2097152) (_ : NilOk A c) :
    Calls Try.prog 32 #[.slice A ms.length c, .agg #[.int .i64 f.p, .int .i64 f.a, .int .i64 f.b, .int .i64 f.c, .int .i64 f.d, .int .i64 f.e]] w fun e w' => ∃ v, e = .returned (.tuple #[v, .int .i64 (RLeftIdeal ms f).2]) ∧ OwnMaps w' w.heap.size v (RLeftIdeal ms f).1 ∧ Below w.heap.size w w' := by
  show Calls _ _ _ w (MsPost (ROf ms f leftM) w)
  have k0 : Below w.heap.size w ((w.alloc (.cells #[.int .i64 f.p, .int .i64 f.a, .int .i64 f.b, .int .i64 f.c, .int .i64 f.d, .int .i64 f.e] 34)).alloc (.cells #[.int .i64 f.p, .int .i64 f.a, .int .i64 f.b, .int .i64 f.c, .int .i64 f.d, .int .i64 f.e] 34)) := by go_grown
  have b1 : MpBox ((w.alloc (.cells #[.int .i64 f.p, .int .i64 f.a, .int .i64 f.b, .int .i64 f.c, .int .i64 f.d, .int .i64 f.e] 34)).alloc (.cells #[.int .i64 f.p, .int .i64 f.a, .int .i64 f.b, .int .i64 f.c, .int .i64 f.d, .int .i64 f.e] 34)) (w.heap.size + 1) f := MpBox.new f 34 (by simp)
  have b0 : MpBox ((w.alloc (.cells #[.int .i64 f.p, .int .i64 f.a, .int .i64 f.b, .int .i64 f.c, .int .i64 f.d, .int .i64 f.e] 34)).alloc (.cells #[.int .i64 f.p, .int .i64 f.a, .int .i64 f.b, .int .i64 f.c, .int .i64 f.d, .int .i64 f.e] 34)) w.heap.size f := (MpBox.new f 34 rfl).keep _
  have hmo := l04All_c A (some ⟨w.heap.size + 1, 0, none⟩) c 1 ms [f] _ hn (by simp) (h.below k0) (see_one b1)
  have HMO := Lib.hid hmo
  obtain ⟨r, hr⟩ : ∃ r, r = ROf ms f leftM := ⟨_, rfl⟩
  rw [← hr]
  have HR := Lib.hid hr
  clear hmo h hr b1
  go_enter Try.func32, Try.ntmps32
  go_wp2_with fail
  refine HMO.out.mono ?_
  rintro e w1 h1
  rcases h1 with ⟨hc, rfl, hb1⟩ | ⟨hc, v, rfl, hown, hb1⟩
  · have e1 : r = ([], moC ms [f]) := by rw [HR.out]; unfold ROf; rw [if_neg hc]
    have E1 := Lib.hid e1
    have d : (moC ms [f] != 0) = true := bne_iff_ne.2 hc
    clear hc e1
    go_wp2
    go_returns
    rw [E1.out]
    exact MsPost.nil (btrans k0 hb1)
  · have e1 : r = (leftM (elsOf ms) f, 0) := by rw [HR.out]; unfold ROf; rw [if_pos hc]
    have E1 := Lib.hid e1
    have hmr := MonR.of hc
    have clo := hmr.clo
    have hfm := hmr.mem f (by simp)
    obtain ⟨Av, cv, rfl, hsv⟩ := hown.see
    have hi := l04Left_c Av cv f w1 hsv clo hfm
    have HI := Lib.hid hi
    obtain ⟨t0, t1, t2, t3, t4, t5⟩ := (b0.below hb1).at.cells0
    clear hi hmr clo hfm hc e1 hown hsv b0
    go_wp2_with fail
    refine HI.out.mono ?_
    rintro e w3 ⟨v3, rfl, hown3, hb3⟩
    obtain ⟨A3, c3, rfl, _⟩ := hown3.see
    go_wp2
    go_returns
    rw [E1.out]
    have hb4 := btrans k0 hb1
    exact ⟨_, rfl, hown3.mono hb4.size, btrans hb4 hb3⟩
end Go.Proofs.Ytilfamenadaboaa
