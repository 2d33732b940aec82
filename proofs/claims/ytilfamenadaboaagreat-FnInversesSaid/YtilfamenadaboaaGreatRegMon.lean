/- 'IsRegularMonoid', on both sides. No condition. -/
import Derived.Test.YtilfamenadaboaaGreatSpecF
namespace Go.Proofs.YtilfamenadaboaaGreat
open Go.RowKit
set_option maxHeartbeats 2000000 in
theorem l04Regular_c (A : Option Addr) (c : Nat) (l : List Mp) (n : Int) (f : Mp) (w : World) (hs : SeeMaps w A l) (hc : Clo l n) (hf : f ∈ l) :
    Calls Tryz.prog 46 #[.slice A l.length c, .agg #[.int .i64 f.p, .int .i64 f.a, .int .i64 f.b, .int .i64 f.c, .int .i64 f.d, .int .i64 f.e]] w fun e w' => e = .returned (.bool (regB l f)) ∧ Below w.heap.size w w' := by
  have kk := kbelow w (.cells #[.int .i64 f.p, .int .i64 f.a, .int .i64 f.b, .int .i64 f.c, .int .i64 f.d, .int .i64 f.e] 27)
  have hi := l04Inverses_c A c l n f _ (hs.below kk) hc.all hc.len (hc.all f hf)
  have e1 := regB_inv hc hf
  have E1 := Lib.hid e1
  clear e1 hs
  have hlen : (l.filter (invB f)).length ≤ 300 := Nat.le_trans (List.length_filter_le _ _) hc.len
  clear hc
  generalize l.filter (invB f) = xs at *
  go_enter Tryz.func46, Tryz.ntmps46
  go_wp2_with fail
  refine hi.mono ?_
  rintro e w2 ⟨v, rfl, hown, hb2⟩
  obtain ⟨Av, cv, rfl, _⟩ := hown.see
  go_wp2
  go_returns
  exact ⟨ret_bool (by rw [E1.out]), btrans kk hb2⟩
noncomputable def RIsRegularMonoid (ms : List Mp) : Bool × Int := if moC ms [] = 0 then ((elsOf ms).all (regB (elsOf ms)), 0) else (false, moC ms [])
theorem see_nil (w : World) : SeeMaps w none [] := fun h => absurd rfl h
set_option maxHeartbeats 2000000 in
set_option maxRecDepth 100000 in
theorem implIsRegularMonoid_l {A : Option Addr} {c : Nat} {ms : List Mp} {w : World} (h : SeeMaps w A ms) (hn : ms.length ≤ 2097152) (hA : NilOk A c) :
    Calls Tryz.prog 15 #[.slice A ms.length c] w fun e w' => e = .returned (.tuple #[.bool (RIsRegularMonoid ms).1, .int .i64 (RIsRegularMonoid ms).2]) ∧ Below w.heap.size w w' := by
  have hmo := monoidOf_c A none c 0 ms [] w hn (by simp) h (see_nil w) hA (fun _ => rfl)
  have HMO := Lib.hid hmo
  clear hmo h
  obtain ⟨r, hr⟩ : ∃ r, r = RIsRegularMonoid ms := ⟨_, rfl⟩
  rw [← hr]
  have HR := Lib.hid hr
  clear hr
  go_enter Tryz.func15, Tryz.ntmps15
  go_wp2_with fail
  refine HMO.out.mono ?_
  rintro e w1 h1
  rcases h1 with ⟨hc, rfl, hb1⟩ | ⟨hc, M, vp, rfl, mon, hown, hb1⟩
  · have e1 : r = (false, moC ms []) := by rw [HR.out]; unfold RIsRegularMonoid; rw [if_neg hc]
    have E1 := Lib.hid e1
    have d : (moC ms [] == 0) = false := beq_eq_false_iff_ne.2 hc
    clear hc e1
    go_wp2
    go_returns
    exact ⟨by rw [E1.out]; rfl, hb1⟩
  · have e1 : r = ((elsOf ms).all (regB (elsOf ms)), 0) := by rw [HR.out]; unfold RIsRegularMonoid; rw [if_pos hc]
    have E1 := Lib.hid e1
    have clo := (MonR.of hc).clo
    have hp : PredM 45 #[.pointer (some ⟨M, 0, none⟩)] #[] (elsOf ms) (regB (elsOf ms)) w1 := fun W i f hW hi => isRegular_c clo (mon.below hW) hi
    have hall := all_cB M (elsOf ms) (ptsL ms) 45 (.pointer (some ⟨M, 0, none⟩)) (regB (elsOf ms)) (enters_of Tryz.func45 (by kernel_rfl) rfl) w1 mon clo.len hp
    obtain ⟨An, cn, rfl, _⟩ := hown.see
    have HA := Lib.hid hall
    clear hall hp clo mon hc e1 hown
    generalize (elsOf ms).all (regB (elsOf ms)) = b at *
    go_wp2_with fail
    refine HA.out.mono ?_
    rintro e w2 ⟨rfl, hb2⟩
    go_wp2
    go_returns
    exact ⟨by rw [E1.out]; rfl, btrans hb1 hb2⟩
set_option maxHeartbeats 2000000 in
theorem specIsRegularMonoid_l {A : Option Addr} {c : Nat} {ms : List Mp} {w : World} (h : SeeMaps w A ms) (hn : ms.length ≤ 2097152) (_ : NilOk A c) :
    Calls Tryz.prog 16 #[.slice A ms.length c] w fun e w' => e = .returned (.tuple #[.bool (RIsRegularMonoid ms).1, .int .i64 (RIsRegularMonoid ms).2]) ∧ Below w.heap.size w w' := by
  have hmo := l04All_c A none c 0 ms [] w hn (by simp) h (see_nil w)
  have HMO := Lib.hid hmo
  clear hmo h
  obtain ⟨r, hr⟩ : ∃ r, r = RIsRegularMonoid ms := ⟨_, rfl⟩
  rw [← hr]
  have HR := Lib.hid hr
  clear hr
  go_enter Tryz.func16, Tryz.ntmps16
  go_wp2_with fail
  refine HMO.out.mono ?_
  rintro e w1 h1
  rcases h1 with ⟨hc, rfl, hb1⟩ | ⟨hc, v, rfl, hown, hb1⟩
  · have e1 : r = (false, moC ms []) := by rw [HR.out]; unfold RIsRegularMonoid; rw [if_neg hc]
    have E1 := Lib.hid e1
    have d : (moC ms [] != 0) = true := bne_iff_ne.2 hc
    clear hc e1
    go_wp2
    go_returns
    exact ⟨by rw [E1.out]; rfl, hb1⟩
  · have e1 : r = ((elsOf ms).all (regB (elsOf ms)), 0) := by rw [HR.out]; unfold RIsRegularMonoid; rw [if_pos hc]
    have E1 := Lib.hid e1
    have clo := (MonR.of hc).clo
    have hlen := clo.len
    have CLO := Lib.hid clo
    clear hc e1 clo
    generalize elsOf ms = l at *
    obtain ⟨Av, cv, rfl, hsv⟩ := hown.see
    go_wp2
    go_loopw [6] (fun i wr => ∃ k : Nat, k ≤ l.length ∧ i = .int .i64 k ∧ AllTo (fun f => regB l f = true) l k ∧ Below w1.heap.size w1 wr) (fun i _ => l.length - (intOf i).toNat)
    case atStart => exact ⟨0, Nat.zero_le _, rfl, AllTo.zero _ _, Below.refl _ _⟩
    case round =>
      obtain ⟨k, hk, rfl, hj, hb⟩ := hrel
      by_cases hlt : k < l.length
      · have see := hsv.below hb
        obtain ⟨b, o, f, rfl, hf, gf⟩ := see.at_ hlt
        have l0 : (0 : Int) ≤ k := by omega
        have l1 : (k : Int) < l.length := by omega
        obtain ⟨f0, f1, f2, f3, f4, f5⟩ := gf
        have hcall := l04Regular_c (some ⟨b, o, none⟩) cv l (ptsL ms) f wr see CLO.out (List.mem_of_getElem? hf)
        have HJ := Lib.hid hj
        have HX := Lib.hid hf
        clear hj hf see
        cases e : regB l f
        · rw [e] at hcall
          have HE := Lib.hid e
          clear e
          go_wp2_with fail
          refine hcall.mono ?_
          rintro e w3 ⟨rfl, hb3⟩
          go_wp2
          go_returns
          refine ⟨?_, btrans hb1 (btrans hb hb3)⟩
          have : l.all (regB l) = false := List.all_eq_false.2 ⟨f, List.mem_of_getElem? HX.out, by rw [HE.out]; simp⟩
          rw [E1.out, this]
          rfl
        · rw [e] at hcall
          have HE := Lib.hid e
          clear e
          go_wp2_with fail
          refine hcall.mono ?_
          rintro e w3 ⟨rfl, hb3⟩
          go_wp2
          go_roundw
          case rel => exact ⟨k + 1, by omega, by go_num, HJ.out.snoc HX.out HE.out, btrans hb hb3⟩
          case measure => simp [intOf]; omega
      · obtain rfl : k = l.length := by omega
        have : l.all (regB l) = true := List.all_eq_true.2 hj.all
        have HT := Lib.hid this
        clear this hj
        go_wp2
        go_returns
        exact ⟨by rw [E1.out, HT.out]; rfl, btrans hb1 hb⟩
end Go.Proofs.YtilfamenadaboaaGreat
