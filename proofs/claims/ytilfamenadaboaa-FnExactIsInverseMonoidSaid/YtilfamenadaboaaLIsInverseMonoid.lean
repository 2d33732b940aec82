/- 'FnExactIsInverseMonoid' returns true, whatever it is given. No condition. -/
import Derived.Test.YtilfamenadaboaaInvMon
import Derived.Test.YtilfamenadaboaaLawKit
namespace Go.Proofs.Ytilfamenadaboaa
set_option linter.unusedSimpArgs false
set_option linter.unusedVariables false
set_option linter.unusedSectionVars false
open Go.RowKit
set_option maxHeartbeats 8000000 in
theorem lawIsInverseMonoid_c {A0 : Option Addr} {c0 : Nat} {ms0 : List Mp} (w : World) (h0 : SeeMaps w A0 ms0) (n0 : ms0.length ≤ 9223372036854775807) :
    Calls Try.prog 5 #[.slice A0 ms0.length c0] w fun e w' => e = .returned (.bool true) ∧ Below w.heap.size w w' := by
  have hb : Below w.heap.size w w := Below.refl _ _
  by_cases s0 : szL ms0.length 1048576 < 0
  · go_enter Try.func5, Try.ntmps5
    go_wp2_with fail
    refine (szMapS_c A0 ms0.length c0 1048576 _ (by omega) (by omega) (by omega)).mono ?_
    rintro e w1 ⟨rfl, hb_w1⟩
    replace hb := btrans hb hb_w1
    have z_w1 := hb_w1.size
    go_wp2
    go_returns
    exact ⟨rfl, hb⟩
  have t0 := szL_ok s0 (by omega)
  go_enter Try.func5, Try.ntmps5
  go_wp2_with fail
  refine (szMapS_c A0 ms0.length c0 1048576 _ (by omega) (by omega) (by omega)).mono ?_
  rintro e w1 ⟨rfl, hb_w1⟩
  replace hb := btrans hb hb_w1
  have z_w1 := hb_w1.size
  go_wp2_with fail
  refine (toMapS_c A0 c0 ms0 _ (h0.below hb) (by omega)).mono ?_
  rintro e w2 ⟨v_s0, rfl, o_s0, hb_w2⟩
  replace hb := btrans hb hb_w2
  have z_w2 := hb_w2.size
  obtain ⟨A_s0, c_s0, rfl, _⟩ := o_s0.see
  have k_s0 : Keep (fun k => w1.heap.size ≤ k ∧ k < w2.heap.size) w2 w2 := Keep.refl _ _
  go_wp2_with fail
  refine (specIsInverseMonoid_l (o_s0.keep (fun k hk => o_s0.lt k hk) k_s0).see' (by omega) o_s0.nilok).mono ?_
  rintro e w3 ⟨rfl, hb_w3⟩
  replace k_s0 := k_s0.trans (kb hb_w3)
  replace hb := btrans hb hb_w3
  have z_w3 := hb_w3.size
  go_wp2_with fail
  refine (toMapS_c A0 c0 ms0 _ (h0.below hb) (by omega)).mono ?_
  rintro e w4 ⟨v_x0, rfl, o_x0, hb_w4⟩
  replace hb := btrans hb hb_w4
  have z_w4 := hb_w4.size
  obtain ⟨A_x0, c_x0, rfl, _⟩ := o_x0.see
  have k_x0 : Keep (fun k => w3.heap.size ≤ k ∧ k < w4.heap.size) w4 w4 := Keep.refl _ _
  go_wp2_with fail
  refine (implIsInverseMonoid_l (o_x0.keep (fun k hk => o_x0.lt k hk) k_x0).see' (by omega) o_x0.nilok).mono ?_
  rintro e w5 ⟨rfl, hb_w5⟩
  replace k_x0 := k_x0.trans (kb hb_w5)
  replace hb := btrans hb hb_w5
  have z_w5 := hb_w5.size
  go_wp2_with fail
  refine (toMapS_c A0 c0 ms0 _ (h0.below hb) (by omega)).mono ?_
  rintro e w6 ⟨v_y0, rfl, o_y0, hb_w6⟩
  replace k_x0 := k_x0.trans (kb hb_w6)
  replace hb := btrans hb hb_w6
  have z_w6 := hb_w6.size
  obtain ⟨A_y0, c_y0, rfl, _⟩ := o_y0.see
  have k_y0 : Keep (fun k => w5.heap.size ≤ k ∧ k < w6.heap.size) w6 w6 := Keep.refl _ _
  have E := valB (eqMapS_c A_x0 A_y0 c_x0 c_y0 ms0 ms0 _ (by omega) (o_x0.keep (fun k hk => o_x0.lt k hk) k_x0).see' (o_y0.keep (fun k hk => o_y0.lt k hk) k_y0).see') (decide_eq_true rfl)
  go_wp2_with fail
  refine (E).mono ?_
  rintro e w7 ⟨rfl, hb_w7⟩
  replace k_x0 := k_x0.trans (kb hb_w7)
  replace hb := btrans hb hb_w7
  have z_w7 := hb_w7.size
  clear E
  go_wp2
  go_returns
  exact ⟨rfl, hb⟩
end Go.Proofs.Ytilfamenadaboaa
