/- 'LeastIdeal', on both sides. No condition. -/
import Derived.Test.YtilfamenadaboaaIdlLaw
import Derived.Test.YtilfamenadaboaaRightIdeal
import Derived.Test.YtilfamenadaboaaLeftIdeal
import Derived.Test.YtilfamenadaboaaIdealOf
import Derived.Test.YtilfamenadaboaaRegMon
namespace Go.Proofs.Ytilfamenadaboaa
set_option linter.unusedSimpArgs false
set_option linter.unusedVariables false
set_option linter.unusedSectionVars false
open Go.RowKit
theorem least_take {n : Int} {l : List Mp} {k : Nat} {f : Mp} (h1 : 1 ≤ k) (hk : l[k]? = some f) : leastM n (l.take (k + 1)) = if rankN n f < rankN n (leastM n (l.take k)) then f else leastM n (l.take k) := by
  cases l with
  | nil => simp at hk
  | cons a l =>
    obtain ⟨j, rfl⟩ : ∃ j, k = j + 1 := ⟨k - 1, by omega⟩
    have hk2 : l[j]? = some f := by simpa using hk
    unfold leastM
    rw [List.take_succ_cons, List.take_succ_cons, List.take_add_one, hk2]
    simp only [List.tail_cons, List.headD_cons, Option.toList_some, List.foldl_append, List.foldl_cons, List.foldl_nil]
    rfl
theorem least_one {n : Int} {l : List Mp} {f : Mp} (hk : l[0]? = some f) : leastM n (l.take 1) = f := by
  cases l with
  | nil => simp at hk
  | cons a l => simp at hk; subst hk; rfl
set_option maxHeartbeats 4000000 in
set_option maxRecDepth 100000 in
theorem l04Least_c (A : Option Addr) (c : Nat) (l : List Mp) (n : Int) (w : World) (hs : SeeMaps w A l) (hN : ∀ g ∈ l, MpN g n) (h0 : 0 < l.length) (hl : l.length ≤ 300) :
    Calls Try.prog 71 #[.slice A l.length c] w fun e w' => e = .returned (.agg #[.int .i64 (leastM n l).p, .int .i64 (leastM n l).a, .int .i64 (leastM n l).b, .int .i64 (leastM n l).c, .int .i64 (leastM n l).d, .int .i64 (leastM n l).e]) ∧ Below w.heap.size w w' := by
  have HN := Lib.hid hN
  obtain ⟨b, o, f, rfl, hf, gf⟩ := hs.at_ h0
  have lpos : (0 : Int) < l.length := by omega
  have HF := Lib.hid hf
  have k0 : Below w.heap.size w (w.alloc (.cells #[.int .i64 0, .int .i64 0, .int .i64 0, .int .i64 0, .int .i64 0, .int .i64 0] 34)) := by go_grown
  have gf1 := gf.below k0
  obtain ⟨f0, f1, f2, f3, f4, f5⟩ := gf1
  simp only [Nat.zero_mul, Nat.add_zero] at f0 f1 f2 f3 f4 f5
  clear hN hf gf
  have hlen := hl
  have HS := Lib.hid hs
  clear hs hl
  obtain ⟨bb, hbb⟩ : ∃ bb, bb = leastM n l := ⟨_, rfl⟩
  rw [← hbb]
  have HBB := Lib.hid hbb
  clear hbb
  go_enter Try.func71, Try.ntmps71
  go_wp2
  have bz0 : MpBox ((w.alloc (.cells #[.int .i64 0, .int .i64 0, .int .i64 0, .int .i64 0, .int .i64 0, .int .i64 0] 34)).alloc (.cells #[.int .i64 f.p, .int .i64 f.a, .int .i64 f.b, .int .i64 f.c, .int .i64 f.d, .int .i64 f.e] 34)) w.heap.size Mp.z := (MpBox.new Mp.z 34 rfl).keep _
  have bf0 : MpBox ((w.alloc (.cells #[.int .i64 0, .int .i64 0, .int .i64 0, .int .i64 0, .int .i64 0, .int .i64 0] 34)).alloc (.cells #[.int .i64 f.p, .int .i64 f.a, .int .i64 f.b, .int .i64 f.c, .int .i64 f.d, .int .i64 f.e] 34)) (w.heap.size + 1) f := MpBox.new f 34 (by simp)
  have kk : Below w.heap.size w ((w.alloc (.cells #[.int .i64 0, .int .i64 0, .int .i64 0, .int .i64 0, .int .i64 0, .int .i64 0] 34)).alloc (.cells #[.int .i64 f.p, .int .i64 f.a, .int .i64 f.b, .int .i64 f.c, .int .i64 f.d, .int .i64 f.e] 34)) := by go_grown
  obtain ⟨z1, hz1⟩ : ∃ z1, z1 = w.heap.size + 1 := ⟨_, rfl⟩
  have hz : w.heap.size < z1 := by omega
  rw [← hz1] at bf0 ⊢
  clear hz1
  go_loopw [4] (fun iv wr => ∃ k : Nat, 1 ≤ k ∧ k ≤ l.length ∧ iv = .int .i64 k ∧ MpBox wr w.heap.size Mp.z ∧ MpBox wr z1 (leastM n (l.take k)) ∧ Hid (MpN (leastM n (l.take k)) n) ∧ Below w.heap.size w wr) (fun iv _ => l.length - (intOf iv).toNat)
  case atStart => exact ⟨1, Nat.le_refl _, h0, rfl, bz0, by rw [least_one HF.out]; exact bf0, Lib.hid (by rw [least_one HF.out]; exact HN.out f (List.mem_of_getElem? HF.out)), kk⟩
  case round =>
    clear bz0 bf0 kk f0 f1 f2 f3 f4 f5
    obtain ⟨k, hk1, hk, rfl, bz, bl, hbN, hb⟩ := hrel
    have l0 : (0 : Int) ≤ k := by omega
    by_cases hlt : k < l.length
    · obtain ⟨bx, ox, g, e, hg, gg⟩ := (HS.out.below hb).at_ hlt
      simp only [Option.some.injEq, Addr.mk.injEq, and_true] at e
      obtain ⟨rfl, rfl⟩ := e
      have l1 : (k : Int) < l.length := by omega
      have HST := Lib.hid (least_take (n := n) hk1 hg)
      have gN := HN.out g (List.mem_of_getElem? hg)
      have GN := Lib.hid gN
      have hr1 := fun W => l01Rank_c g n W gN
      have hr2 := fun W => l01Rank_c (leastM n (l.take k)) n W hbN.out
      change ∀ W, Calls _ _ _ W fun e w' => e = .returned (.int .i64 (rankN n g)) ∧ _ at hr1
      change ∀ W, Calls _ _ _ W fun e w' => e = .returned (.int .i64 (rankN n (leastM n (l.take k)))) ∧ _ at hr2
      have H1 := Lib.hid hr1
      have H2 := Lib.hid hr2
      obtain ⟨g0, g1, g2, g3, g4, g5⟩ := gg.bw
      obtain ⟨t0, t1, t2, t3, t4, t5⟩ := bl.at.bw
      simp only [Nat.zero_add] at t0 t1 t2 t3 t4 t5
      have GG := Lib.hid gg
      clear hg hr1 hr2 gg gN
      generalize rankN n g = r1 at *
      generalize rankN n (leastM n (l.take k)) = r2 at *
      generalize leastM n (l.take k) = b1 at *
      by_cases hlr : r1 < r2
      · rw [if_pos hlr] at HST
        have d : decide (r1 < r2) = true := decide_eq_true hlr
        go_wp2
        refine wp_region_bw (by kernel_rfl) (by kernel_rfl) ?_
        repeat go_big_quiet_step ((first | (go_at_call_of 92 (Value.agg #[.int .i64 g.p, .int .i64 g.a, .int .i64 g.b, .int .i64 g.c, .int .i64 g.d, .int .i64 g.e]); exact Calls.bw _ (H1.out _)) | (go_at_call_of 92 (Value.agg #[.int .i64 b1.p, .int .i64 b1.a, .int .i64 b1.b, .int .i64 b1.c, .int .i64 b1.d, .int .i64 b1.e]); exact Calls.bw _ (H2.out _))))
        refine wpQuiet_nil ?_
        rintro w3 ⟨⟨w3x, hb3⟩, rfl⟩
        clear g0 g1 g2 g3 g4 g5 t0 t1 t2 t3 t4 t5
        obtain ⟨g0, g1, g2, g3, g4, g5⟩ := GG.out.below hb3
        have bl3 := bl.below hb3
        have fr := bl3.free
        obtain ⟨t0, t1, t2, t3, t4, t5⟩ := bl3.at.cells0
        have hst := bl3.store g
        have HBL := Lib.hid hst
        have bz3 := (bz.below hb3)
        have hb4 := btrans hb hb3
        have hne : w.heap.size ≠ z1 := by omega
        clear hst
        go_wp2
        go_roundw
        case rel => exact ⟨k + 1, by omega, by omega, by go_num, (((((bz3.far hne _).far hne _).far hne _).far hne _).far hne _).far hne _, by rw [HST.out]; exact HBL.out, Lib.hid (by rw [HST.out]; exact GN.out), Below.setCell (Below.setCell (Below.setCell (Below.setCell (Below.setCell (Below.setCell hb4 (by show w.heap.size ≤ z1; omega) _) (by show w.heap.size ≤ z1; omega) _) (by show w.heap.size ≤ z1; omega) _) (by show w.heap.size ≤ z1; omega) _) (by show w.heap.size ≤ z1; omega) _) (by show w.heap.size ≤ z1; omega) _⟩
        case measure => simp [intOf]; omega
      · rw [if_neg hlr] at HST
        have d : decide (r1 < r2) = false := decide_eq_false hlr
        go_wp2
        refine wp_region_bw (by kernel_rfl) (by kernel_rfl) ?_
        repeat go_big_quiet_step ((first | (go_at_call_of 92 (Value.agg #[.int .i64 g.p, .int .i64 g.a, .int .i64 g.b, .int .i64 g.c, .int .i64 g.d, .int .i64 g.e]); exact Calls.bw _ (H1.out _)) | (go_at_call_of 92 (Value.agg #[.int .i64 b1.p, .int .i64 b1.a, .int .i64 b1.b, .int .i64 b1.c, .int .i64 b1.d, .int .i64 b1.e]); exact Calls.bw _ (H2.out _))))
        refine wpQuiet_nil ?_
        rintro w3 ⟨⟨w3x, hb3⟩, rfl⟩
        go_wp2
        go_roundw
        case rel => exact ⟨k + 1, by omega, by omega, by go_num, bz.below hb3, by rw [HST.out]; exact bl.below hb3, Lib.hid (by rw [HST.out]; exact hbN.out), btrans hb hb3⟩
        case measure => simp [intOf]; omega
    · have ek : k = l.length := by omega
      have nlt : ¬ (k : Int) < l.length := by omega
      rw [ek, List.take_length, ← HBB.out] at bl
      clear ek hlt hk hbN
      obtain ⟨q0, q1, q2, q3, q4, q5⟩ := bl.at.cells0
      obtain ⟨z0, z1', z2, z3, z4, z5⟩ := bz.at.cells0
      have f := bz.free
      have hb6 : Below w.heap.size w ((((((wr.setCell ⟨w.heap.size, 0, none⟩ (.int .i64 bb.p)).setCell ⟨w.heap.size, 1, none⟩ (.int .i64 bb.a)).setCell ⟨w.heap.size, 2, none⟩ (.int .i64 bb.b)).setCell ⟨w.heap.size, 3, none⟩ (.int .i64 bb.c)).setCell ⟨w.heap.size, 4, none⟩ (.int .i64 bb.d)).setCell ⟨w.heap.size, 5, none⟩ (.int .i64 bb.e)) := Below.setCell (Below.setCell (Below.setCell (Below.setCell (Below.setCell (Below.setCell hb (Nat.le_refl _) _) (Nat.le_refl _) _) (Nat.le_refl _) _) (Nat.le_refl _) _) (Nat.le_refl _) _) (Nat.le_refl _) _
      go_wp2
      refine bodyPost_ret (v := .agg #[.int .i64 bb.p, .int .i64 bb.a, .int .i64 bb.b, .int .i64 bb.c, .int .i64 bb.d, .int .i64 bb.e]) (by simp [results, Try.results71, go_sem, z0, z1', z2, z3, z4, z5]) rfl ⟨rfl, hb6⟩
noncomputable def RLeastIdeal (ms : List Mp) : List Mp × Int := if moC ms [] = 0 then (idealM (elsOf ms) (leastM (ptsL ms) (elsOf ms)), 0) else ([], moC ms [])
theorem MonR.pos {ms : List Mp} (h : MonR ms []) : 0 < (elsOf ms).length := List.length_pos_of_mem (id_mem h.list)
theorem RLeastIdeal_len (ms : List Mp) : (RLeastIdeal ms).1.length ≤ 1000 := by
  unfold RLeastIdeal
  split
  · rename_i h
    have hm := MonR.of h
    have := idealM_len hm.clo (leastM_spec (ptsL ms) hm.pos).1
    show (idealM _ _).length ≤ 1000
    omega
  · simp
set_option maxHeartbeats 2000000 in
theorem specLeastIdeal_l {A : Option Addr} {c : Nat} {ms : List Mp} {w : World} (h : SeeMaps w A ms) (hn : ms.length ≤ 2097152) (_ : NilOk A c) :
    Calls Try.prog 40 #[.slice A ms.length c] w fun e w' => ∃ v, e = .returned (.tuple #[v, .int .i64 (RLeastIdeal ms).2]) ∧ OwnMaps w' w.heap.size v (RLeastIdeal ms).1 ∧ Below w.heap.size w w' := by
  show Calls _ _ _ w (MsPost (RLeastIdeal ms) w)
  have hmo := l04All_c A none c 0 ms [] w hn (by simp) h (see_nil w)
  have HMO := Lib.hid hmo
  obtain ⟨r, hr⟩ : ∃ r, r = RLeastIdeal ms := ⟨_, rfl⟩
  rw [← hr]
  have HR := Lib.hid hr
  clear hmo h hr
  go_enter Try.func40, Try.ntmps40
  go_wp2_with fail
  refine HMO.out.mono ?_
  rintro e w1 h1
  rcases h1 with ⟨hc, rfl, hb1⟩ | ⟨hc, v, rfl, hown, hb1⟩
  · have e1 : r = ([], moC ms []) := by rw [HR.out]; unfold RLeastIdeal; rw [if_neg hc]
    have E1 := Lib.hid e1
    have d : (moC ms [] != 0) = true := bne_iff_ne.2 hc
    clear hc e1
    go_wp2
    go_returns
    rw [E1.out]
    exact MsPost.nil hb1
  · have e1 : r = (idealM (elsOf ms) (leastM (ptsL ms) (elsOf ms)), 0) := by rw [HR.out]; unfold RLeastIdeal; rw [if_pos hc]
    have E1 := Lib.hid e1
    have hmr := MonR.of hc
    have clo := hmr.clo
    have hpos := hmr.pos
    have hfm := (leastM_spec (ptsL ms) hpos).1
    obtain ⟨Av, cv, rfl, hsv⟩ := hown.see
    have hle := l04Least_c Av cv (elsOf ms) (ptsL ms) w1 hsv clo.all hpos clo.len
    have HLE := Lib.hid hle
    have HI := Lib.hid (fun W (hW : SeeMaps W Av (elsOf ms)) => l04Ideal_c Av cv (leastM (ptsL ms) (elsOf ms)) W hW clo hfm)
    clear hle hmr clo hfm hc e1 hown hpos
    generalize leastM (ptsL ms) (elsOf ms) = b at *
    go_wp2_with fail
    refine HLE.out.mono ?_
    rintro e w2 ⟨rfl, hb2⟩
    go_wp2_with fail
    refine (HI.out _ (hsv.below hb2)).mono ?_
    rintro e w3 ⟨v3, rfl, hown3, hb3⟩
    obtain ⟨A3, c3, rfl, _⟩ := hown3.see
    go_wp2
    go_returns
    rw [E1.out]
    have hb4 := btrans hb1 hb2
    exact ⟨_, rfl, hown3.mono hb4.size, btrans hb4 hb3⟩
set_option maxHeartbeats 2000000 in
set_option maxRecDepth 100000 in
theorem implLeastIdeal_l {A : Option Addr} {c : Nat} {ms : List Mp} {w : World} (h : SeeMaps w A ms) (hn : ms.length ≤ 2097152) (hA : NilOk A c) :
    Calls Try.prog 41 #[.slice A ms.length c] w fun e w' => ∃ v, e = .returned (.tuple #[v, .int .i64 (RLeastIdeal ms).2]) ∧ OwnMaps w' w.heap.size v (RLeastIdeal ms).1 ∧ Below w.heap.size w w' := by
  show Calls _ _ _ w (MsPost (RLeastIdeal ms) w)
  have hmo := monoidOf_c A none c 0 ms [] w hn (by simp) h (see_nil w) hA (fun _ => rfl)
  have HMO := Lib.hid hmo
  obtain ⟨r, hr⟩ : ∃ r, r = RLeastIdeal ms := ⟨_, rfl⟩
  rw [← hr]
  have HR := Lib.hid hr
  clear hmo h hr
  go_enter Try.func41, Try.ntmps41
  go_wp2_with fail
  refine HMO.out.mono ?_
  rintro e w1 h1
  rcases h1 with ⟨hc, rfl, hb1⟩ | ⟨hc, M, vp, rfl, mon, hown, hb1⟩
  · have e1 : r = ([], moC ms []) := by rw [HR.out]; unfold RLeastIdeal; rw [if_neg hc]
    have E1 := Lib.hid e1
    have d : (moC ms [] != 0) = true := bne_iff_ne.2 hc
    clear hc e1
    go_wp2
    go_returns
    rw [E1.out]
    exact MsPost.nil hb1
  · have e1 : r = (idealM (elsOf ms) (leastM (ptsL ms) (elsOf ms)), 0) := by rw [HR.out]; unfold RLeastIdeal; rw [if_pos hc]
    have E1 := Lib.hid e1
    have hmr := MonR.of hc
    have clo := hmr.clo
    have hpos := hmr.pos
    obtain ⟨An, cn, rfl, _⟩ := hown.see
    have hid := ideals_c clo mon
    have HLT := Lib.hid (fun k' q hk h => leftTo_lt (i := (elsOf ms).length) (k := 0) (k' := k') (q := q) clo hk h)
    have HID := Lib.hid hid
    have HLAW := Lib.hid (fun R hR => meet_law clo hpos (R := R) hR)
    have HMEM := Lib.hid (fun W (hW : MonAt W M (elsOf ms) (ptsL ms)) y R (hy : W5.Is y R) => members_c y R W clo hW hy)
    have hlen := clo.len
    clear hid hmr clo hc e1 hown
    generalize leastM (ptsL ms) (elsOf ms) = b at *
    go_wp2_with fail
    refine HID.out.mono ?_
    rintro e w2 ⟨D, gl, gr, gb, rfl, mem, hb2⟩
    have mon2 := mon.below hb2
    obtain ⟨R, hR⟩ : ∃ R, R = bothTo (elsOf ms).length (rightTo (elsOf ms).length (mpl (elsOf ms)) (elsOf ms).length 0) (leftTo (elsOf ms).length (mpl (elsOf ms)) (elsOf ms).length 0) (elsOf ms).length 0 := ⟨_, rfl⟩
    rw [← hR] at mem
    have HLW := HLAW.out R hR
    have HQ := Lib.hid (show ∀ q, R 0 q → q < 320 from fun q h => by
      rw [hR] at h
      obtain ⟨k', h1, _, _, h4⟩ := h
      exact HLT.out _ q h1 h4)
    have HLW2 := Lib.hid HLW
    have sb := mem.sb
    have d2 := mem.d2
    have SB := Lib.hid sb
    clear HLW hR HLAW mem mon HID HMO
    obtain ⟨N, hN⟩ : ∃ N, N = (elsOf ms).length := ⟨_, rfl⟩
    rw [← hN] at SB d2 hpos hlen HLW2
    clear hN sb
    obtain ⟨y0, hy0, ya, yb, yc, yd, ye⟩ := (SB.out.at_ 0 hpos).w5
    rw [Nat.zero_mul] at ya yb yc yd ye
    have N0 : (0 : Int) < N := by omega
    have kk := kbelow w2 (.cells #[.int .u64 y0.a, .int .u64 y0.b, .int .u64 y0.c, .int .u64 y0.d, .int .u64 y0.e] 66)
    have d2' := bcell kk d2
    go_wp2
    have sO : SetsBox (w2.alloc (.cells #[.int .u64 y0.a, .int .u64 y0.b, .int .u64 y0.c, .int .u64 y0.d, .int .u64 y0.e] 66)) w2.heap.size 1 (fun _ q => R 0 q ∧ ∀ i, i < 0 → R i q) :=
      ⟨⟨_, _, heap_alloc_new w2 _, rfl⟩, fun i hi => by
        obtain rfl : i = 0 := by omega
        intro j hj
        obtain ⟨x, h1, h2⟩ := W5.set w2 y0 66 hy0 j hj
        exact ⟨x, by simpa using h1, h2.congr fun q => ⟨fun h => ⟨h, fun i hi => by omega⟩, fun h => h.1⟩⟩⟩
    clear ya yb yc yd ye d2 d2'
    go_loopw [33] (fun kv wr => ∃ k : Nat, k ≤ N ∧ kv = .int .i64 k ∧ SetsBox wr w2.heap.size 1 (fun _ q => R 0 q ∧ ∀ i, i < k → R i q) ∧ Below w2.heap.size w2 wr) (fun kv _ => N - (intOf kv).toNat)
    case atStart => exact ⟨0, Nat.zero_le _, rfl, sO, kk⟩
    case round =>
      clear sO kk
      obtain ⟨k, hk, rfl, sO, hb⟩ := hrel
      have l0 : (0 : Int) ≤ k := by omega
      by_cases hlt : k < N
      · have l1 : (k : Int) < N := by omega
        obtain ⟨y, hy, ya, yb, yc, yd, ye⟩ := ((SB.out.below hb).at_ k hlt).w5
        have kk := kbelow wr (.cells #[.int .u64 y.a, .int .u64 y.b, .int .u64 y.c, .int .u64 y.d, .int .u64 y.e] 66)
        have hm := meet_c w2.heap.size 1 0 (fun _ q => R 0 q ∧ ∀ i, i < k → R i q) (R k) y _ (sO.below kk) (by omega) hy
        have HM := Lib.hid hm
        clear hm
        go_wp2_with fail
        refine HM.out.mono ?_
        rintro e w4 ⟨rfl, hk4, hs4⟩
        have hb4 : Below w2.heap.size w2 w4 := (hb.trans (kk.mono hb.size)).trans (hk4.below (Nat.le_trans hb.size kk.size) (fun j hj => by show j ≠ w2.heap.size; omega))
        have s4 := hs4.congr (R := fun _ q => R 0 q ∧ ∀ i, i < k + 1 → R i q) (fun i' hi' q => by
          obtain rfl : i' = 0 := by omega
          rw [if_pos rfl]
          unfold meetTo
          constructor
          · intro h
            split at h
            · exact ⟨h.1.1, fun i hi => by
                by_cases e : i = k
                · subst e; exact h.2
                · exact h.1.2 i (by omega)⟩
            · rename_i hq
              exact absurd (HQ.out q h.1) (by omega)
          · intro h
            have := HQ.out q h.1
            rw [if_pos (by omega)]
            exact ⟨⟨h.1, fun i hi => h.2 i (by omega)⟩, h.2 k (by omega)⟩)
        clear ya yb yc yd ye hs4 sO
        go_wp2
        go_roundw
        case rel => exact ⟨k + 1, by omega, by go_num, s4, hb4⟩
        case measure => simp [intOf]; omega
      · have ek : k = N := by omega
        rw [ek] at sO
        have nlt : ¬ (k : Int) < N := by omega
        clear ek hlt hk
        obtain ⟨y, hy, ya, yb, yc, yd, ye⟩ := (sO.at_ 0 (by omega)).w5
        rw [Nat.zero_mul] at ya yb yc yd ye
        have hmem := HMEM.out wr (mon2.below hb) y _ hy
        rw [HLW2.out] at hmem
        have HMM := Lib.hid hmem
        clear hmem
        go_wp2_with fail
        refine HMM.out.mono ?_
        rintro e w5 ⟨v5, rfl, hown5, hb5⟩
        obtain ⟨A5, c5, rfl, _⟩ := hown5.see
        go_wp2
        go_returns
        rw [E1.out]
        have hb6 := btrans hb1 (btrans hb2 hb)
        exact ⟨_, rfl, hown5.mono hb6.size, btrans hb6 hb5⟩
end Go.Proofs.Ytilfamenadaboaa
