/- 'IsInverseMonoid', on both sides. No condition. -/
import Derived.Test.YtilfamenadaboaaGreatRegMon
import Derived.Test.YtilfamenadaboaaGreatInv
namespace Go.Proofs.YtilfamenadaboaaGreat
set_option linter.unusedSimpArgs false
set_option linter.unusedVariables false
set_option linter.unusedSectionVars false
open Go.RowKit
def oneB (l : List Mp) (f : Mp) : Bool := decide ((l.filter (invB f)).length = 1)
theorem oneB_eq (l : List Mp) (f : Mp) : (((l.filter (invB f)).length : Int) == 1) = oneB l f := by
  unfold oneB
  by_cases h : (l.filter (invB f)).length = 1
  · rw [h]; rfl
  · rw [decide_eq_false h]
    exact beq_eq_false_iff_ne.2 (by omega)
theorem oneB_ne (l : List Mp) (f : Mp) : (((l.filter (invB f)).length : Int) != 1) = !oneB l f := by
  rw [← oneB_eq]
  rfl
noncomputable def RIsInverseMonoid (ms : List Mp) : Bool × Int := if moC ms [] = 0 then ((elsOf ms).all (oneB (elsOf ms)), 0) else (false, moC ms [])
set_option maxHeartbeats 2000000 in
set_option maxRecDepth 100000 in
theorem implIsInverseMonoid_l {A : Option Addr} {c : Nat} {ms : List Mp} {w : World} (h : SeeMaps w A ms) (hn : ms.length ≤ 2097152) (hA : NilOk A c) :
    Calls Tryz.prog 17 #[.slice A ms.length c] w fun e w' => e = .returned (.tuple #[.bool (RIsInverseMonoid ms).1, .int .i64 (RIsInverseMonoid ms).2]) ∧ Below w.heap.size w w' := by
  have hmo := monoidOf_c A none c 0 ms [] w hn (by simp) h (see_nil w) hA (fun _ => rfl)
  have HMO := Lib.hid hmo
  clear hmo h
  obtain ⟨r, hr⟩ : ∃ r, r = RIsInverseMonoid ms := ⟨_, rfl⟩
  rw [← hr]
  have HR := Lib.hid hr
  clear hr
  go_enter Tryz.func17, Tryz.ntmps17
  go_wp2_with fail
  refine HMO.out.mono ?_
  rintro e w1 h1
  rcases h1 with ⟨hc, rfl, hb1⟩ | ⟨hc, M, vp, rfl, mon, hown, hb1⟩
  · have e1 : r = (false, moC ms []) := by rw [HR.out]; unfold RIsInverseMonoid; rw [if_neg hc]
    have E1 := Lib.hid e1
    have d : (moC ms [] == 0) = false := beq_eq_false_iff_ne.2 hc
    clear hc e1
    go_wp2
    go_returns
    exact ⟨by rw [E1.out]; rfl, btrans hb1 (kbelow _ _)⟩
  · have e1 : r = ((elsOf ms).all (oneB (elsOf ms)), 0) := by rw [HR.out]; unfold RIsInverseMonoid; rw [if_pos hc]
    have E1 := Lib.hid e1
    have clo := (MonR.of hc).clo
    have hb2 : Below w1.heap.size w1 (w1.alloc (.cells #[.pointer (some ⟨M, 0, none⟩)] 48)) := kbelow _ _
    have q2 : (w1.alloc (.cells #[.pointer (some ⟨M, 0, none⟩)] 48)).cell? ⟨w1.heap.size, 0, none⟩ = some (.pointer (some ⟨M, 0, none⟩)) := by simp [go_sem]
    have mon2 := mon.below hb2
    have hp : PredM 51 #[] #[.pointer (some ⟨w1.heap.size, 0, none⟩)] (elsOf ms) (oneB (elsOf ms)) (w1.alloc (.cells #[.pointer (some ⟨M, 0, none⟩)] 48)) := fun W i f hW hi => by
      have p2 := bcell hW q2
      have hcall := inverses_m clo W M i f (mon2.below hW) hi
      simp only [] at hcall
      have hone := oneB_eq (elsOf ms) f
      show Calls Tryz.prog 51 #[.int .i64 (i : Int), .pointer (some ⟨w1.heap.size, 0, none⟩)] W fun e w' => e = .returned (.bool (oneB (elsOf ms) f)) ∧ Below W.heap.size W w'
      generalize oneB (elsOf ms) f = b at *
      generalize (elsOf ms).filter (invB f) = xs at *
      clear hW hi mon2 hb2 q2 hown mon clo e1 hc hb1
      go_enter Tryz.func51, Tryz.ntmps51
      go_wp2_with fail
      refine hcall.mono ?_
      rintro e w3 ⟨v, rfl, hown3, hb3⟩
      obtain ⟨Av, cv, rfl, _⟩ := hown3.see
      go_wp2
      go_returns
      exact ⟨rfl, hb3⟩
    have hall := all_c M (elsOf ms) (ptsL ms) 51 #[.pointer (some ⟨w1.heap.size, 0, none⟩)] (oneB (elsOf ms)) (enters_of Tryz.func51 (by kernel_rfl) rfl) _ mon2 clo.len hp
    obtain ⟨An, cn, rfl, _⟩ := hown.see
    have HA := Lib.hid hall
    clear hall hp clo mon mon2 hc e1 hown
    generalize (elsOf ms).all (oneB (elsOf ms)) = b at *
    go_wp2_with fail
    refine HA.out.mono ?_
    rintro e w2 ⟨rfl, hb3⟩
    go_wp2
    go_returns
    exact ⟨by rw [E1.out]; rfl, btrans hb1 (btrans hb2 hb3)⟩
set_option maxHeartbeats 2000000 in
theorem specIsInverseMonoid_l {A : Option Addr} {c : Nat} {ms : List Mp} {w : World} (h : SeeMaps w A ms) (hn : ms.length ≤ 2097152) (_ : NilOk A c) :
    Calls Tryz.prog 18 #[.slice A ms.length c] w fun e w' => e = .returned (.tuple #[.bool (RIsInverseMonoid ms).1, .int .i64 (RIsInverseMonoid ms).2]) ∧ Below w.heap.size w w' := by
  have hmo := l04All_c A none c 0 ms [] w hn (by simp) h (see_nil w)
  have HMO := Lib.hid hmo
  clear hmo h
  obtain ⟨r, hr⟩ : ∃ r, r = RIsInverseMonoid ms := ⟨_, rfl⟩
  rw [← hr]
  have HR := Lib.hid hr
  clear hr
  go_enter Tryz.func18, Tryz.ntmps18
  go_wp2_with fail
  refine HMO.out.mono ?_
  rintro e w1 h1
  rcases h1 with ⟨hc, rfl, hb1⟩ | ⟨hc, v, rfl, hown, hb1⟩
  · have e1 : r = (false, moC ms []) := by rw [HR.out]; unfold RIsInverseMonoid; rw [if_neg hc]
    have E1 := Lib.hid e1
    have d : (moC ms [] != 0) = true := bne_iff_ne.2 hc
    clear hc e1
    go_wp2
    go_returns
    exact ⟨by rw [E1.out]; rfl, hb1⟩
  · have e1 : r = ((elsOf ms).all (oneB (elsOf ms)), 0) := by rw [HR.out]; unfold RIsInverseMonoid; rw [if_pos hc]
    have E1 := Lib.hid e1
    have clo := (MonR.of hc).clo
    have hlen := clo.len
    have CLO := Lib.hid clo
    clear hc e1 clo
    generalize elsOf ms = l at *
    obtain ⟨Av, cv, rfl, hsv⟩ := hown.see
    go_wp2
    go_loopw [6] (fun i wr => ∃ k : Nat, k ≤ l.length ∧ i = .int .i64 k ∧ AllTo (fun f => oneB l f = true) l k ∧ Below w1.heap.size w1 wr) (fun i _ => l.length - (intOf i).toNat)
    case atStart => exact ⟨0, Nat.zero_le _, rfl, AllTo.zero _ _, Below.refl _ _⟩
    case round =>
      obtain ⟨k, hk, rfl, hj, hb⟩ := hrel
      by_cases hlt : k < l.length
      · have see := hsv.below hb
        obtain ⟨b, o, f, rfl, hf, gf⟩ := see.at_ hlt
        have l0 : (0 : Int) ≤ k := by omega
        have l1 : (k : Int) < l.length := by omega
        obtain ⟨f0, f1, f2, f3, f4, f5⟩ := gf
        have hcall := l04Inverses_c (some ⟨b, o, none⟩) cv l (ptsL ms) f wr see CLO.out.all hlen (CLO.out.get hf).2
        have hone := oneB_ne l f
        have HJ := Lib.hid hj
        have HX := Lib.hid hf
        clear hj hf see
        generalize l.filter (invB f) = xs at *
        cases e : oneB l f
        · rw [e] at hone
          have HE := Lib.hid e
          have d : ((xs.length : Int) != 1) = true := hone
          clear e hone
          go_wp2_with fail
          refine hcall.mono ?_
          rintro e w3 ⟨v3, rfl, hown3, hb3⟩
          obtain ⟨A3, c3, rfl, _⟩ := hown3.see
          go_wp2
          go_returns
          refine ⟨?_, btrans hb1 (btrans hb hb3)⟩
          have : l.all (oneB l) = false := List.all_eq_false.2 ⟨f, List.mem_of_getElem? HX.out, by rw [HE.out]; simp⟩
          rw [E1.out, this]
          rfl
        · rw [e] at hone
          have HE := Lib.hid e
          have d : ((xs.length : Int) != 1) = false := hone
          clear e hone
          go_wp2_with fail
          refine hcall.mono ?_
          rintro e w3 ⟨v3, rfl, hown3, hb3⟩
          obtain ⟨A3, c3, rfl, _⟩ := hown3.see
          go_wp2
          go_roundw
          case rel => exact ⟨k + 1, by omega, by go_num, HJ.out.snoc HX.out HE.out, btrans hb hb3⟩
          case measure => simp [intOf]; omega
      · obtain rfl : k = l.length := by omega
        have HT := Lib.hid (List.all_eq_true.2 hj.all : l.all (oneB l) = true)
        clear hj
        go_wp2
        go_returns
        exact ⟨by rw [E1.out, HT.out]; rfl, btrans hb1 hb⟩
end Go.Proofs.YtilfamenadaboaaGreat
