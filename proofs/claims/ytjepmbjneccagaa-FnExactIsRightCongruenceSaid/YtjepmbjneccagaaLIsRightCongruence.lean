/- 'FnExactIsRightCongruence' returns true, whatever it is given. No condition. -/
import Derived.Test.YtjepmbjneccagaaIsCong
import Derived.Test.YtjepmbjneccagaaLawKit
namespace Go.Proofs.Ytjepmbjneccagaa
set_option linter.unusedSimpArgs false
set_option linter.unusedVariables false
set_option linter.unusedSectionVars false
open Go.RowKit
set_option maxHeartbeats 8000000 in
theorem lawIsRightCongruence_c {A0 : Option Addr} {c0 : Nat} {ms0 : List Mp} {A1 : Option Addr} {c1 : Nat} {xs1 : List Int} (w : World) (h0 : SeeMaps w A0 ms0) (n0 : ms0.length ≤ 9223372036854775807) (h1 : SeeInts w A1 xs1) (n1 : xs1.length ≤ 9223372036854775807) :
    Calls Try.prog 4 #[.slice A0 ms0.length c0, .slice A1 xs1.length c1] w fun e w' => e = .returned (.bool true) ∧ Below w.heap.size w w' := by
  have hb : Below w.heap.size w w := Below.refl _ _
  by_cases t1 : ¬ xs1.length ≤ 1048576
  · have d1 : (1048576 : Int) < xs1.length := by omega
    go_enter Try.func4, Try.ntmps4
    go_wp2
    go_returns
    exact ⟨rfl, hb⟩
  have d1 : ¬ (1048576 : Int) < xs1.length := by omega
  by_cases s0 : szL ms0.length 1048576 < 0
  · go_enter Try.func4, Try.ntmps4
    go_wp2_with fail
    refine (szMapS_c A0 ms0.length c0 1048576 _ (by omega) (by omega) (by omega)).mono ?_
    rintro e w1 ⟨rfl, hb_w1⟩
    replace hb := btrans hb hb_w1
    have z_w1 := hb_w1.size
    go_wp2
    go_returns
    exact ⟨rfl, hb⟩
  have t0 := szL_ok s0 (by omega)
  go_enter Try.func4, Try.ntmps4
  go_wp2_with fail
  refine (szMapS_c A0 ms0.length c0 1048576 _ (by omega) (by omega) (by omega)).mono ?_
  rintro e w1 ⟨rfl, hb_w1⟩
  replace hb := btrans hb hb_w1
  have z_w1 := hb_w1.size
  go_wp2_with fail
  refine (toMapS_c A0 c0 ms0 _ (h0.below hb) (by omega)).mono ?_
  rintro e w2 ⟨v_s0, rfl, o_s0, hb_w2⟩
  replace hb := btrans hb hb_w2
  have z_w2 := hb_w2.size
  obtain ⟨A_s0, c_s0, rfl, _⟩ := o_s0.see
  have k_s0 : Keep (fun k => w1.heap.size ≤ k ∧ k < w2.heap.size) w2 w2 := Keep.refl _ _
  go_wp2_with fail
  refine (toInt64S_c A1 c1 xs1 _ (h1.below hb) (by omega)).mono ?_
  rintro e w3 ⟨v_s1, rfl, o_s1, hb_w3⟩
  replace k_s0 := k_s0.trans (kb hb_w3)
  replace hb := btrans hb hb_w3
  have z_w3 := hb_w3.size
  obtain ⟨A_s1, c_s1, rfl, _⟩ := o_s1.see
  have k_s1 : Keep (fun k => w2.heap.size ≤ k ∧ k < w3.heap.size) w3 w3 := Keep.refl _ _
  go_wp2_with fail
  refine (specIsRightCongruence_l (o_s0.keep (fun k hk => o_s0.lt k hk) k_s0).see' (by omega) o_s0.nilok (o_s1.keep (fun k hk => o_s1.lt k hk) k_s1).see' (by omega) o_s1.nilok).mono ?_
  rintro e w4 ⟨rfl, hb_w4⟩
  replace k_s0 := k_s0.trans (kb hb_w4)
  replace k_s1 := k_s1.trans (kb hb_w4)
  replace hb := btrans hb hb_w4
  have z_w4 := hb_w4.size
  go_wp2_with fail
  refine (toMapS_c A0 c0 ms0 _ (h0.below hb) (by omega)).mono ?_
  rintro e w5 ⟨v_x0, rfl, o_x0, hb_w5⟩
  replace hb := btrans hb hb_w5
  have z_w5 := hb_w5.size
  obtain ⟨A_x0, c_x0, rfl, _⟩ := o_x0.see
  have k_x0 : Keep (fun k => w4.heap.size ≤ k ∧ k < w5.heap.size) w5 w5 := Keep.refl _ _
  go_wp2_with fail
  refine (toInt64S_c A1 c1 xs1 _ (h1.below hb) (by omega)).mono ?_
  rintro e w6 ⟨v_x1, rfl, o_x1, hb_w6⟩
  replace k_x0 := k_x0.trans (kb hb_w6)
  replace hb := btrans hb hb_w6
  have z_w6 := hb_w6.size
  obtain ⟨A_x1, c_x1, rfl, _⟩ := o_x1.see
  have k_x1 : Keep (fun k => w5.heap.size ≤ k ∧ k < w6.heap.size) w6 w6 := Keep.refl _ _
  go_wp2_with fail
  refine (implIsRightCongruence_l (o_x0.keep (fun k hk => o_x0.lt k hk) k_x0).see' (by omega) o_x0.nilok (o_x1.keep (fun k hk => o_x1.lt k hk) k_x1).see' (by omega) o_x1.nilok).mono ?_
  rintro e w7 ⟨rfl, hb_w7⟩
  replace k_x0 := k_x0.trans (kb hb_w7)
  replace k_x1 := k_x1.trans (kb hb_w7)
  replace hb := btrans hb hb_w7
  have z_w7 := hb_w7.size
  go_wp2_with fail
  refine (toMapS_c A0 c0 ms0 _ (h0.below hb) (by omega)).mono ?_
  rintro e w8 ⟨v_y0, rfl, o_y0, hb_w8⟩
  replace k_x0 := k_x0.trans (kb hb_w8)
  replace k_x1 := k_x1.trans (kb hb_w8)
  replace hb := btrans hb hb_w8
  have z_w8 := hb_w8.size
  obtain ⟨A_y0, c_y0, rfl, _⟩ := o_y0.see
  have k_y0 : Keep (fun k => w7.heap.size ≤ k ∧ k < w8.heap.size) w8 w8 := Keep.refl _ _
  have E := valB (eqMapS_c A_x0 A_y0 c_x0 c_y0 ms0 ms0 _ (by omega) (o_x0.keep (fun k hk => o_x0.lt k hk) k_x0).see' (o_y0.keep (fun k hk => o_y0.lt k hk) k_y0).see') (decide_eq_true rfl)
  go_wp2_with fail
  refine (E).mono ?_
  rintro e w9 ⟨rfl, hb_w9⟩
  replace k_x0 := k_x0.trans (kb hb_w9)
  replace k_x1 := k_x1.trans (kb hb_w9)
  replace hb := btrans hb hb_w9
  have z_w9 := hb_w9.size
  clear E
  go_wp2_with fail
  refine (toInt64S_c A1 c1 xs1 _ (h1.below hb) (by omega)).mono ?_
  rintro e w10 ⟨v_y1, rfl, o_y1, hb_w10⟩
  replace k_x0 := k_x0.trans (kb hb_w10)
  replace k_x1 := k_x1.trans (kb hb_w10)
  replace hb := btrans hb hb_w10
  have z_w10 := hb_w10.size
  obtain ⟨A_y1, c_y1, rfl, _⟩ := o_y1.see
  have k_y1 : Keep (fun k => w9.heap.size ≤ k ∧ k < w10.heap.size) w10 w10 := Keep.refl _ _
  have E := valB (eqInt64S_c A_x1 A_y1 c_x1 c_y1 xs1 xs1 _ (by omega) (o_x1.keep (fun k hk => o_x1.lt k hk) k_x1).see' (o_y1.keep (fun k hk => o_y1.lt k hk) k_y1).see') (decide_eq_true rfl)
  go_wp2_with fail
  refine (E).mono ?_
  rintro e w11 ⟨rfl, hb_w11⟩
  replace k_x0 := k_x0.trans (kb hb_w11)
  replace k_x1 := k_x1.trans (kb hb_w11)
  replace hb := btrans hb hb_w11
  have z_w11 := hb_w11.size
  clear E
  go_wp2
  go_returns
  exact ⟨rfl, hb⟩
end Go.Proofs.Ytjepmbjneccagaa
