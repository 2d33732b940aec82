/- 'FnExactQuotientTable' returns true, whatever it is given. No condition. -/
import Derived.Test.YtjepmbjneccagaaQuotS
import Derived.Test.YtjepmbjneccagaaToMap
import Derived.Test.YtjepmbjneccagaaLawKit
namespace Go.Proofs.Ytjepmbjneccagaa
set_option linter.unusedSimpArgs false
set_option linter.unusedVariables false
set_option linter.unusedSectionVars false
open Go.RowKit
set_option maxHeartbeats 8000000 in
theorem lawQuotientTable_c {A0 : Option Addr} {c0 : Nat} {ms0 : List Mp} {A1 : Option Addr} {c1 : Nat} {xs1 : List Int} (w : World) (h0 : SeeMaps w A0 ms0) (n0 : ms0.length ≤ 9223372036854775807) (h1 : SeeInts w A1 xs1) (n1 : xs1.length ≤ 9223372036854775807) :
    Calls Try.prog 8 #[.slice A0 ms0.length c0, .slice A1 xs1.length c1] w fun e w' => e = .returned (.bool true) ∧ Below w.heap.size w w' := by
  have hb : Below w.heap.size w w := Below.refl _ _
  by_cases t1 : ¬ xs1.length ≤ 1048576
  · have d1 : (1048576 : Int) < xs1.length := by omega
    go_enter Try.func8, Try.ntmps8
    go_wp2
    go_returns
    exact ⟨rfl, hb⟩
  have d1 : ¬ (1048576 : Int) < xs1.length := by omega
  by_cases s0 : szL ms0.length 1048576 < 0
  · go_enter Try.func8, Try.ntmps8
    go_wp2_with fail
    refine (szMapS_c A0 ms0.length c0 1048576 _ (by omega) (by omega) (by omega)).mono ?_
    rintro e w1 ⟨rfl, hb_w1⟩
    replace hb := btrans hb hb_w1
    have z_w1 := hb_w1.size
    go_wp2
    go_returns
    exact ⟨rfl, hb⟩
  have t0 := szL_ok s0 (by omega)
  go_enter Try.func8, Try.ntmps8
  go_wp2_with fail
  refine (szMapS_c A0 ms0.length c0 1048576 _ (by omega) (by omega) (by omega)).mono ?_
  rintro e w1 ⟨rfl, hb_w1⟩
  replace hb := btrans hb hb_w1
  have z_w1 := hb_w1.size
  go_wp2_with fail
  refine (toMapS_c A0 c0 ms0 _ (h0.below hb) (by omega)).mono ?_
  rintro e w2 ⟨v_s0, rfl, o_s0, hb_w2⟩
  replace hb := btrans hb hb_w2
  have z_w2 := hb_w2.size
  obtain ⟨A_s0, c_s0, rfl, _⟩ := o_s0.see
  have k_s0 : Keep (fun k => w1.heap.size ≤ k ∧ k < w2.heap.size) w2 w2 := Keep.refl _ _
  go_wp2_with fail
  refine (toInt64S_c A1 c1 xs1 _ (h1.below hb) (by omega)).mono ?_
  rintro e w3 ⟨v_s1, rfl, o_s1, hb_w3⟩
  replace k_s0 := k_s0.trans (kb hb_w3)
  replace hb := btrans hb hb_w3
  have z_w3 := hb_w3.size
  obtain ⟨A_s1, c_s1, rfl, _⟩ := o_s1.see
  have k_s1 : Keep (fun k => w2.heap.size ≤ k ∧ k < w3.heap.size) w3 w3 := Keep.refl _ _
  go_wp2_with fail
  refine (specQuotientTable_l (o_s0.keep (fun k hk => o_s0.lt k hk) k_s0).see' (by omega) o_s0.nilok (o_s1.keep (fun k hk => o_s1.lt k hk) k_s1).see' (by omega) o_s1.nilok).mono ?_
  rintro e w4 ⟨v_ref, rfl, o_ref, hb_w4⟩
  replace k_s0 := k_s0.trans (kb hb_w4)
  replace k_s1 := k_s1.trans (kb hb_w4)
  replace hb := btrans hb hb_w4
  have z_w4 := hb_w4.size
  obtain ⟨A_ref, c_ref, rfl, _⟩ := o_ref.see
  have k_ref : Keep (fun k => w3.heap.size ≤ k ∧ k < w4.heap.size) w4 w4 := Keep.refl _ _
  go_wp2_with fail
  refine (toMapS_c A0 c0 ms0 _ (h0.below hb) (by omega)).mono ?_
  rintro e w5 ⟨v_x0, rfl, o_x0, hb_w5⟩
  replace k_ref := k_ref.trans (kb hb_w5)
  replace hb := btrans hb hb_w5
  have z_w5 := hb_w5.size
  obtain ⟨A_x0, c_x0, rfl, _⟩ := o_x0.see
  have k_x0 : Keep (fun k => w4.heap.size ≤ k ∧ k < w5.heap.size) w5 w5 := Keep.refl _ _
  go_wp2_with fail
  refine (toInt64S_c A1 c1 xs1 _ (h1.below hb) (by omega)).mono ?_
  rintro e w6 ⟨v_x1, rfl, o_x1, hb_w6⟩
  replace k_ref := k_ref.trans (kb hb_w6)
  replace k_x0 := k_x0.trans (kb hb_w6)
  replace hb := btrans hb hb_w6
  have z_w6 := hb_w6.size
  obtain ⟨A_x1, c_x1, rfl, _⟩ := o_x1.see
  have k_x1 : Keep (fun k => w5.heap.size ≤ k ∧ k < w6.heap.size) w6 w6 := Keep.refl _ _
  go_wp2_with fail
  refine (implQuotientTable_l (o_x0.keep (fun k hk => o_x0.lt k hk) k_x0).see' (by omega) o_x0.nilok (o_x1.keep (fun k hk => o_x1.lt k hk) k_x1).see' (by omega) o_x1.nilok).mono ?_
  rintro e w7 ⟨v_g, rfl, o_g, hb_w7⟩
  replace k_ref := k_ref.trans (kb hb_w7)
  replace k_x0 := k_x0.trans (kb hb_w7)
  replace k_x1 := k_x1.trans (kb hb_w7)
  replace hb := btrans hb hb_w7
  have z_w7 := hb_w7.size
  obtain ⟨A_g, c_g, rfl, _⟩ := o_g.see
  have k_g : Keep (fun k => w6.heap.size ≤ k ∧ k < w7.heap.size) w7 w7 := Keep.refl _ _
  go_wp2_with fail
  refine (eqInt64SS_c A_g A_ref c_g c_ref _ _ (RQuotientTable ms0 xs1).1 _ (o_g.keep (fun k hk => o_g.lt k hk) k_g) (o_ref.keep (fun k hk => o_ref.lt k hk) k_ref) (by have := (RQuotientTable_len ms0 xs1).1; omega) (RQuotientTable_len ms0 xs1).2.1).mono ?_
  rintro e w8 ⟨rfl, hb_w8⟩
  replace k_ref := k_ref.trans (kb hb_w8)
  replace k_x0 := k_x0.trans (kb hb_w8)
  replace k_x1 := k_x1.trans (kb hb_w8)
  replace k_g := k_g.trans (kb hb_w8)
  replace hb := btrans hb hb_w8
  have z_w8 := hb_w8.size
  go_wp2_with fail
  refine (toMapS_c A0 c0 ms0 _ (h0.below hb) (by omega)).mono ?_
  rintro e w9 ⟨v_y0, rfl, o_y0, hb_w9⟩
  replace k_ref := k_ref.trans (kb hb_w9)
  replace k_x0 := k_x0.trans (kb hb_w9)
  replace k_x1 := k_x1.trans (kb hb_w9)
  replace k_g := k_g.trans (kb hb_w9)
  replace hb := btrans hb hb_w9
  have z_w9 := hb_w9.size
  obtain ⟨A_y0, c_y0, rfl, _⟩ := o_y0.see
  have k_y0 : Keep (fun k => w8.heap.size ≤ k ∧ k < w9.heap.size) w9 w9 := Keep.refl _ _
  have E := valB (eqMapS_c A_x0 A_y0 c_x0 c_y0 ms0 ms0 _ (by omega) (o_x0.keep (fun k hk => o_x0.lt k hk) k_x0).see' (o_y0.keep (fun k hk => o_y0.lt k hk) k_y0).see') (decide_eq_true rfl)
  go_wp2_with fail
  refine (E).mono ?_
  rintro e w10 ⟨rfl, hb_w10⟩
  replace k_ref := k_ref.trans (kb hb_w10)
  replace k_x0 := k_x0.trans (kb hb_w10)
  replace k_x1 := k_x1.trans (kb hb_w10)
  replace k_g := k_g.trans (kb hb_w10)
  replace hb := btrans hb hb_w10
  have z_w10 := hb_w10.size
  clear E
  go_wp2_with fail
  refine (toInt64S_c A1 c1 xs1 _ (h1.below hb) (by omega)).mono ?_
  rintro e w11 ⟨v_y1, rfl, o_y1, hb_w11⟩
  replace k_ref := k_ref.trans (kb hb_w11)
  replace k_x0 := k_x0.trans (kb hb_w11)
  replace k_x1 := k_x1.trans (kb hb_w11)
  replace k_g := k_g.trans (kb hb_w11)
  replace hb := btrans hb hb_w11
  have z_w11 := hb_w11.size
  obtain ⟨A_y1, c_y1, rfl, _⟩ := o_y1.see
  have k_y1 : Keep (fun k => w10.heap.size ≤ k ∧ k < w11.heap.size) w11 w11 := Keep.refl _ _
  have E := valB (eqInt64S_c A_x1 A_y1 c_x1 c_y1 xs1 xs1 _ (by omega) (o_x1.keep (fun k hk => o_x1.lt k hk) k_x1).see' (o_y1.keep (fun k hk => o_y1.lt k hk) k_y1).see') (decide_eq_true rfl)
  go_wp2_with fail
  refine (E).mono ?_
  rintro e w12 ⟨rfl, hb_w12⟩
  replace k_ref := k_ref.trans (kb hb_w12)
  replace k_x0 := k_x0.trans (kb hb_w12)
  replace k_x1 := k_x1.trans (kb hb_w12)
  replace k_g := k_g.trans (kb hb_w12)
  replace hb := btrans hb hb_w12
  have z_w12 := hb_w12.size
  clear E
  go_wp2_with fail
  refine (markMapS_r A_x0 c_x0 _ 1 _ _ (o_x0.keep (fun k hk => o_x0.lt k hk) k_x0) (by omega) (by omega) (by omega)).mono ?_
  rintro e w13 ⟨r_x0, rfl, r0_x0, r1_x0, K_w13⟩
  have hz0 := hb.size
  replace k_ref := k_ref.trans (K_w13.mono (apart (fun k hk => o_x0.lt k hk) (by omega)))
  replace k_x1 := k_x1.trans (K_w13.mono (apart (fun k hk => o_x0.lt k hk) (by omega)))
  replace k_g := k_g.trans (K_w13.mono (apart (fun k hk => o_x0.lt k hk) (by omega)))
  replace hb := hb.trans (K_w13.below hz0 (apart0 (fun k hk => o_x0.lt k hk) (by omega)))
  have z_w13 := K_w13.size
  clear hz0
  go_wp2_with fail
  refine (markInt64S_r A_x1 c_x1 _ r_x0 _ _ (o_x1.keep (fun k hk => o_x1.lt k hk) k_x1) (by omega) (by omega) (by omega)).mono ?_
  rintro e w14 ⟨r_x1, rfl, r0_x1, r1_x1, K_w14⟩
  have hz0 := hb.size
  replace k_ref := k_ref.trans (K_w14.mono (apart (fun k hk => o_x1.lt k hk) (by omega)))
  replace k_g := k_g.trans (K_w14.mono (apart (fun k hk => o_x1.lt k hk) (by omega)))
  replace hb := hb.trans (K_w14.below hz0 (apart0 (fun k hk => o_x1.lt k hk) (by omega)))
  have z_w14 := K_w14.size
  clear hz0
  have dk : decide (r_x1 < 0) = false := decide_eq_false (by omega)
  go_wp2_with fail
  refine (eqInt64SS_c A_g A_ref c_g c_ref _ _ (RQuotientTable ms0 xs1).1 _ (o_g.keep (fun k hk => o_g.lt k hk) k_g) (o_ref.keep (fun k hk => o_ref.lt k hk) k_ref) (by have := (RQuotientTable_len ms0 xs1).1; omega) (RQuotientTable_len ms0 xs1).2.1).mono ?_
  rintro e w15 ⟨rfl, hb_w15⟩
  replace k_ref := k_ref.trans (kb hb_w15)
  replace k_g := k_g.trans (kb hb_w15)
  replace hb := btrans hb hb_w15
  have z_w15 := hb_w15.size
  go_wp2_with fail
  have ln := (RQuotientTable_len ms0 xs1).1
  have lt := (RQuotientTable_len ms0 xs1).2.2
  refine (markInt64SS_c A_g c_g _ (RQuotientTable ms0 xs1).1 _ (o_g.keep (fun k hk => o_g.lt k hk) k_g) (by omega) (RQuotientTable_len ms0 xs1).2.1 lt).mono ?_
  rintro e w16 ⟨rfl, o_g2, K_w16⟩
  have hz0 := hb.size
  replace k_ref := k_ref.trans (K_w16.mono (fun k h1 h2 => by have h3 := h2.2; show k < _; omega))
  replace hb := hb.trans (K_w16.below hz0 (fun k hk => by show k < _; omega))
  have z_w16 := K_w16.size
  clear hz0
  have s_g := o_g2
  have nn : ¬ ((1 : Int) + (total (RQuotientTable ms0 xs1).1 : Int) < 0) := by omega
  go_wp2_with fail
  refine (heldInt64SS_c A_g c_g _ (RQuotientTable ms0 xs1).1 _ s_g (by omega) (RQuotientTable_len ms0 xs1).2.1 lt).mono ?_
  rintro e w17 ⟨rfl, hb_w17⟩
  replace k_ref := k_ref.trans (kb hb_w17)
  replace hb := btrans hb hb_w17
  have z_w17 := hb_w17.size
  replace s_g := s_g.below hb_w17
  go_wp2_with fail
  refine (toMapS_c A0 c0 ms0 _ (h0.below hb) (by omega)).mono ?_
  rintro e w18 ⟨v_u0, rfl, o_u0, hb_w18⟩
  replace k_ref := k_ref.trans (kb hb_w18)
  replace hb := btrans hb hb_w18
  have z_w18 := hb_w18.size
  replace s_g := s_g.below hb_w18
  obtain ⟨A_u0, c_u0, rfl, _⟩ := o_u0.see
  have k_u0 : Keep (fun k => w17.heap.size ≤ k ∧ k < w18.heap.size) w18 w18 := Keep.refl _ _
  go_wp2_with fail
  refine (toInt64S_c A1 c1 xs1 _ (h1.below hb) (by omega)).mono ?_
  rintro e w19 ⟨v_u1, rfl, o_u1, hb_w19⟩
  replace k_ref := k_ref.trans (kb hb_w19)
  replace k_u0 := k_u0.trans (kb hb_w19)
  replace hb := btrans hb hb_w19
  have z_w19 := hb_w19.size
  replace s_g := s_g.below hb_w19
  obtain ⟨A_u1, c_u1, rfl, _⟩ := o_u1.see
  have k_u1 : Keep (fun k => w18.heap.size ≤ k ∧ k < w19.heap.size) w19 w19 := Keep.refl _ _
  go_wp2_with fail
  refine (implQuotientTable_l (o_u0.keep (fun k hk => o_u0.lt k hk) k_u0).see' (by omega) o_u0.nilok (o_u1.keep (fun k hk => o_u1.lt k hk) k_u1).see' (by omega) o_u1.nilok).mono ?_
  rintro e w20 ⟨v_hh, rfl, o_hh, hb_w20⟩
  replace k_ref := k_ref.trans (kb hb_w20)
  replace k_u0 := k_u0.trans (kb hb_w20)
  replace k_u1 := k_u1.trans (kb hb_w20)
  replace hb := btrans hb hb_w20
  have z_w20 := hb_w20.size
  replace s_g := s_g.below hb_w20
  obtain ⟨A_hh, c_hh, rfl, _⟩ := o_hh.see
  have k_hh : Keep (fun k => w19.heap.size ≤ k ∧ k < w20.heap.size) w20 w20 := Keep.refl _ _
  go_wp2_with fail
  refine (eqInt64SS_c A_hh A_ref c_hh c_ref _ _ (RQuotientTable ms0 xs1).1 _ (o_hh.keep (fun k hk => o_hh.lt k hk) k_hh) (o_ref.keep (fun k hk => o_ref.lt k hk) k_ref) (by have := (RQuotientTable_len ms0 xs1).1; omega) (RQuotientTable_len ms0 xs1).2.1).mono ?_
  rintro e w21 ⟨rfl, hb_w21⟩
  replace k_ref := k_ref.trans (kb hb_w21)
  replace k_hh := k_hh.trans (kb hb_w21)
  replace hb := btrans hb hb_w21
  have z_w21 := hb_w21.size
  replace s_g := s_g.below hb_w21
  go_wp2_with fail
  refine (heldInt64SS_c A_g c_g _ (RQuotientTable ms0 xs1).1 _ s_g (by omega) (RQuotientTable_len ms0 xs1).2.1 lt).mono ?_
  rintro e w22 ⟨rfl, hb_w22⟩
  replace k_ref := k_ref.trans (kb hb_w22)
  replace k_hh := k_hh.trans (kb hb_w22)
  replace hb := btrans hb hb_w22
  have z_w22 := hb_w22.size
  replace s_g := s_g.below hb_w22
  go_wp2
  go_returns
  exact ⟨rfl, hb⟩
end Go.Proofs.Ytjepmbjneccagaa
