/- 'InversesIn', on both sides. No condition. -/
import Derived.Test.YtilfamenadaboaaGreatSpecF
import Derived.Test.YtilfamenadaboaaGreatInv
namespace Go.Proofs.YtilfamenadaboaaGreat
set_option linter.unusedSimpArgs false
set_option linter.unusedVariables false
set_option linter.unusedSectionVars false
open Go.RowKit
noncomputable def RInversesIn (ms : List Mp) (f : Mp) : List Mp × Int := ROf ms f (fun l f => l.filter (invB f))
theorem RInversesIn_len (ms : List Mp) (f : Mp) : (RInversesIn ms f).1.length ≤ 1000 := by
  unfold RInversesIn ROf
  split
  · rename_i h
    have := (MonR.of h).len
    have h2 := List.length_filter_le (invB f) (elsOf ms)
    show ((elsOf ms).filter (invB f)).length ≤ 1000
    omega
  · simp
set_option maxHeartbeats 2000000 in
set_option maxRecDepth 100000 in
theorem implInversesIn_l {A : Option Addr} {c : Nat} {ms : List Mp} {f : Mp} {w : World} (h : SeeMaps w A ms) (hn : ms.length ≤ 2097152) (hA : NilOk A c) :
    Calls Tryz.prog 7 #[.slice A ms.length c, .agg #[.int .i64 f.p, .int .i64 f.a, .int .i64 f.b, .int .i64 f.c, .int .i64 f.d, .int .i64 f.e]] w fun e w' => ∃ v, e = .returned (.tuple #[v, .int .i64 (RInversesIn ms f).2]) ∧ OwnMaps w' w.heap.size v (RInversesIn ms f).1 ∧ Below w.heap.size w w' := by
  show Calls _ _ _ w (MsPost (ROf ms f (fun l f => l.filter (invB f))) w)
  have kk := kbelow w (.cells #[.int .i64 f.p, .int .i64 f.a, .int .i64 f.b, .int .i64 f.c, .int .i64 f.d, .int .i64 f.e] 27)
  have he := of_c (f := f) 41 (fun l f => l.filter (invB f)) (enters_of Tryz.func41 (by kernel_rfl) rfl) (h.below kk) hn hA (fun hm => inverses_m hm.clo)
  have HE := Lib.hid he
  clear he h
  go_enter Tryz.func7, Tryz.ntmps7
  go_wp2_with fail
  refine HE.out.mono ?_
  rintro e w1 ⟨v, rfl, hown, hb1⟩
  obtain ⟨Av, cv, rfl, _⟩ := hown.see
  go_wp2
  go_returns
  exact ⟨_, rfl, hown.mono kk.size, btrans kk hb1⟩
set_option maxHeartbeats 2000000 in
theorem specInversesIn_l {A : Option Addr} {c : Nat} {ms : List Mp} {f : Mp} {w : World} (h : SeeMaps w A ms) (hn : ms.length ≤ 2097152) (_ : NilOk A c) :
    Calls Tryz.prog 8 #[.slice A ms.length c, .agg #[.int .i64 f.p, .int .i64 f.a, .int .i64 f.b, .int .i64 f.c, .int .i64 f.d, .int .i64 f.e]] w fun e w' => ∃ v, e = .returned (.tuple #[v, .int .i64 (RInversesIn ms f).2]) ∧ OwnMaps w' w.heap.size v (RInversesIn ms f).1 ∧ Below w.heap.size w w' := by
  show Calls _ _ _ w (MsPost (ROf ms f (fun l f => l.filter (invB f))) w)
  have k0 : Below w.heap.size w ((w.alloc (.cells #[.int .i64 f.p, .int .i64 f.a, .int .i64 f.b, .int .i64 f.c, .int .i64 f.d, .int .i64 f.e] 27)).alloc (.cells #[.int .i64 f.p, .int .i64 f.a, .int .i64 f.b, .int .i64 f.c, .int .i64 f.d, .int .i64 f.e] 27)) := by go_grown
  have b1 : MpBox ((w.alloc (.cells #[.int .i64 f.p, .int .i64 f.a, .int .i64 f.b, .int .i64 f.c, .int .i64 f.d, .int .i64 f.e] 27)).alloc (.cells #[.int .i64 f.p, .int .i64 f.a, .int .i64 f.b, .int .i64 f.c, .int .i64 f.d, .int .i64 f.e] 27)) (w.heap.size + 1) f := MpBox.new f 27 (by simp)
  have b0 : MpBox ((w.alloc (.cells #[.int .i64 f.p, .int .i64 f.a, .int .i64 f.b, .int .i64 f.c, .int .i64 f.d, .int .i64 f.e] 27)).alloc (.cells #[.int .i64 f.p, .int .i64 f.a, .int .i64 f.b, .int .i64 f.c, .int .i64 f.d, .int .i64 f.e] 27)) w.heap.size f := (MpBox.new f 27 rfl).keep _
  have hmo := l04All_c A (some ⟨w.heap.size + 1, 0, none⟩) c 1 ms [f] _ hn (by simp) (h.below k0) (see_one b1)
  have HMO := Lib.hid hmo
  obtain ⟨r, hr⟩ : ∃ r, r = ROf ms f (fun l f => l.filter (invB f)) := ⟨_, rfl⟩
  rw [← hr]
  have HR := Lib.hid hr
  clear hmo h hr b1
  go_enter Tryz.func8, Tryz.ntmps8
  go_wp2_with fail
  refine HMO.out.mono ?_
  rintro e w1 h1
  rcases h1 with ⟨hc, rfl, hb1⟩ | ⟨hc, v, rfl, hown, hb1⟩
  · have e1 : r = ([], moC ms [f]) := by rw [HR.out]; unfold ROf; rw [if_neg hc]
    have E1 := Lib.hid e1
    have d : (moC ms [f] != 0) = true := bne_iff_ne.2 hc
    clear hc e1
    go_wp2
    go_returns
    rw [E1.out]
    exact MsPost.nil (btrans k0 hb1)
  · have e1 : r = ((elsOf ms).filter (invB f), 0) := by rw [HR.out]; unfold ROf; rw [if_pos hc]
    have E1 := Lib.hid e1
    have hmr := MonR.of hc
    have clo := hmr.clo
    have hfm := hmr.mem f (by simp)
    obtain ⟨Av, cv, rfl, hsv⟩ := hown.see
    have hi := l04Inverses_c Av cv (elsOf ms) (ptsL ms) f w1 hsv clo.all clo.len (clo.all f hfm)
    have HI := Lib.hid hi
    obtain ⟨t0, t1, t2, t3, t4, t5⟩ := (b0.below hb1).at.cells0
    clear hi hmr clo hfm hc e1 hown hsv b0
    go_wp2_with fail
    refine HI.out.mono ?_
    rintro e w3 ⟨v3, rfl, hown3, hb3⟩
    obtain ⟨A3, c3, rfl, _⟩ := hown3.see
    go_wp2
    go_returns
    rw [E1.out]
    have hb4 := btrans k0 hb1
    exact ⟨_, rfl, hown3.mono hb4.size, btrans hb4 hb3⟩
end Go.Proofs.YtilfamenadaboaaGreat
