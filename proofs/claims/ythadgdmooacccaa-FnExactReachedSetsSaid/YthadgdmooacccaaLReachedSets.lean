/- 'FnExactReachedSets' returns true, whatever it is given. No condition. -/
import Derived.Test.YthadgdmooacccaaReachedS
import Derived.Test.YthadgdmooacccaaToMap
import Derived.Test.YthadgdmooacccaaLawKit
namespace Go.Proofs.Ythadgdmooacccaa
set_option linter.unusedSimpArgs false
set_option linter.unusedVariables false
set_option linter.unusedSectionVars false
open Go.RowKit
set_option maxHeartbeats 8000000 in
theorem lawReachedSets_c {A0 : Option Addr} {c0 : Nat} {ms0 : List Mp} (w : World) (h0 : SeeMaps w A0 ms0) (n0 : ms0.length ≤ 9223372036854775807) :
    Calls Try.prog 11 #[.slice A0 ms0.length c0] w fun e w' => e = .returned (.bool true) ∧ Below w.heap.size w w' := by
  have hb : Below w.heap.size w w := Below.refl _ _
  by_cases s0 : szL ms0.length 1048576 < 0
  · go_enter Try.func11, Try.ntmps11
    go_wp2_with fail
    refine (szMapS_c A0 ms0.length c0 1048576 _ (by omega) (by omega) (by omega)).mono ?_
    rintro e w1 ⟨rfl, hb_w1⟩
    replace hb := btrans hb hb_w1
    have z_w1 := hb_w1.size
    go_wp2
    go_returns
    exact ⟨rfl, hb⟩
  have t0 := szL_ok s0 (by omega)
  go_enter Try.func11, Try.ntmps11
  go_wp2_with fail
  refine (szMapS_c A0 ms0.length c0 1048576 _ (by omega) (by omega) (by omega)).mono ?_
  rintro e w1 ⟨rfl, hb_w1⟩
  replace hb := btrans hb hb_w1
  have z_w1 := hb_w1.size
  go_wp2_with fail
  refine (toMapS_c A0 c0 ms0 _ (h0.below hb) (by omega)).mono ?_
  rintro e w2 ⟨v_s0, rfl, o_s0, hb_w2⟩
  replace hb := btrans hb hb_w2
  have z_w2 := hb_w2.size
  obtain ⟨A_s0, c_s0, rfl, _⟩ := o_s0.see
  have k_s0 : Keep (fun k => w1.heap.size ≤ k ∧ k < w2.heap.size) w2 w2 := Keep.refl _ _
  go_wp2_with fail
  refine (specReachedSets_l (o_s0.keep (fun k hk => o_s0.lt k hk) k_s0).see' (by omega) o_s0.nilok).mono ?_
  rintro e w3 ⟨v_ref, rfl, o_ref, hb_w3⟩
  replace k_s0 := k_s0.trans (kb hb_w3)
  replace hb := btrans hb hb_w3
  have z_w3 := hb_w3.size
  obtain ⟨A_ref, c_ref, rfl, _⟩ := o_ref.see
  have k_ref : Keep (fun k => w2.heap.size ≤ k ∧ k < w3.heap.size) w3 w3 := Keep.refl _ _
  go_wp2_with fail
  refine (toMapS_c A0 c0 ms0 _ (h0.below hb) (by omega)).mono ?_
  rintro e w4 ⟨v_x0, rfl, o_x0, hb_w4⟩
  replace k_ref := k_ref.trans (kb hb_w4)
  replace hb := btrans hb hb_w4
  have z_w4 := hb_w4.size
  obtain ⟨A_x0, c_x0, rfl, _⟩ := o_x0.see
  have k_x0 : Keep (fun k => w3.heap.size ≤ k ∧ k < w4.heap.size) w4 w4 := Keep.refl _ _
  go_wp2_with fail
  refine (implReachedSets_l (o_x0.keep (fun k hk => o_x0.lt k hk) k_x0).see' (by omega) o_x0.nilok).mono ?_
  rintro e w5 ⟨v_g, rfl, o_g, hb_w5⟩
  replace k_ref := k_ref.trans (kb hb_w5)
  replace k_x0 := k_x0.trans (kb hb_w5)
  replace hb := btrans hb hb_w5
  have z_w5 := hb_w5.size
  obtain ⟨A_g, c_g, rfl, _⟩ := o_g.see
  have k_g : Keep (fun k => w4.heap.size ≤ k ∧ k < w5.heap.size) w5 w5 := Keep.refl _ _
  go_wp2_with fail
  refine (eqInt64SS_c A_g A_ref c_g c_ref _ _ (RReachedSets ms0).1 _ (o_g.keep (fun k hk => o_g.lt k hk) k_g) (o_ref.keep (fun k hk => o_ref.lt k hk) k_ref) (by have := (RReachedSets_len ms0).1; omega) (RReachedSets_len ms0).2.1).mono ?_
  rintro e w6 ⟨rfl, hb_w6⟩
  replace k_ref := k_ref.trans (kb hb_w6)
  replace k_x0 := k_x0.trans (kb hb_w6)
  replace k_g := k_g.trans (kb hb_w6)
  replace hb := btrans hb hb_w6
  have z_w6 := hb_w6.size
  go_wp2_with fail
  refine (toMapS_c A0 c0 ms0 _ (h0.below hb) (by omega)).mono ?_
  rintro e w7 ⟨v_y0, rfl, o_y0, hb_w7⟩
  replace k_ref := k_ref.trans (kb hb_w7)
  replace k_x0 := k_x0.trans (kb hb_w7)
  replace k_g := k_g.trans (kb hb_w7)
  replace hb := btrans hb hb_w7
  have z_w7 := hb_w7.size
  obtain ⟨A_y0, c_y0, rfl, _⟩ := o_y0.see
  have k_y0 : Keep (fun k => w6.heap.size ≤ k ∧ k < w7.heap.size) w7 w7 := Keep.refl _ _
  have E := valB (eqMapS_c A_x0 A_y0 c_x0 c_y0 ms0 ms0 _ (by omega) (o_x0.keep (fun k hk => o_x0.lt k hk) k_x0).see' (o_y0.keep (fun k hk => o_y0.lt k hk) k_y0).see') (decide_eq_true rfl)
  go_wp2_with fail
  refine (E).mono ?_
  rintro e w8 ⟨rfl, hb_w8⟩
  replace k_ref := k_ref.trans (kb hb_w8)
  replace k_x0 := k_x0.trans (kb hb_w8)
  replace k_g := k_g.trans (kb hb_w8)
  replace hb := btrans hb hb_w8
  have z_w8 := hb_w8.size
  clear E
  go_wp2_with fail
  refine (markMapS_r A_x0 c_x0 _ 1 _ _ (o_x0.keep (fun k hk => o_x0.lt k hk) k_x0) (by omega) (by omega) (by omega)).mono ?_
  rintro e w9 ⟨r_x0, rfl, r0_x0, r1_x0, K_w9⟩
  have hz0 := hb.size
  replace k_ref := k_ref.trans (K_w9.mono (apart (fun k hk => o_x0.lt k hk) (by omega)))
  replace k_g := k_g.trans (K_w9.mono (apart (fun k hk => o_x0.lt k hk) (by omega)))
  replace hb := hb.trans (K_w9.below hz0 (apart0 (fun k hk => o_x0.lt k hk) (by omega)))
  have z_w9 := K_w9.size
  clear hz0
  have dk : decide (r_x0 < 0) = false := decide_eq_false (by omega)
  go_wp2_with fail
  refine (eqInt64SS_c A_g A_ref c_g c_ref _ _ (RReachedSets ms0).1 _ (o_g.keep (fun k hk => o_g.lt k hk) k_g) (o_ref.keep (fun k hk => o_ref.lt k hk) k_ref) (by have := (RReachedSets_len ms0).1; omega) (RReachedSets_len ms0).2.1).mono ?_
  rintro e w10 ⟨rfl, hb_w10⟩
  replace k_ref := k_ref.trans (kb hb_w10)
  replace k_g := k_g.trans (kb hb_w10)
  replace hb := btrans hb hb_w10
  have z_w10 := hb_w10.size
  go_wp2_with fail
  have ln := (RReachedSets_len ms0).1
  have lt := (RReachedSets_len ms0).2.2
  refine (markInt64SS_c A_g c_g _ (RReachedSets ms0).1 _ (o_g.keep (fun k hk => o_g.lt k hk) k_g) (by omega) (RReachedSets_len ms0).2.1 lt).mono ?_
  rintro e w11 ⟨rfl, o_g2, K_w11⟩
  have hz0 := hb.size
  replace k_ref := k_ref.trans (K_w11.mono (fun k h1 h2 => by have h3 := h2.2; show k < _; omega))
  replace hb := hb.trans (K_w11.below hz0 (fun k hk => by show k < _; omega))
  have z_w11 := K_w11.size
  clear hz0
  have s_g := o_g2
  have nn : ¬ ((1 : Int) + (total (RReachedSets ms0).1 : Int) < 0) := by omega
  go_wp2_with fail
  refine (heldInt64SS_c A_g c_g _ (RReachedSets ms0).1 _ s_g (by omega) (RReachedSets_len ms0).2.1 lt).mono ?_
  rintro e w12 ⟨rfl, hb_w12⟩
  replace k_ref := k_ref.trans (kb hb_w12)
  replace hb := btrans hb hb_w12
  have z_w12 := hb_w12.size
  replace s_g := s_g.below hb_w12
  go_wp2_with fail
  refine (toMapS_c A0 c0 ms0 _ (h0.below hb) (by omega)).mono ?_
  rintro e w13 ⟨v_u0, rfl, o_u0, hb_w13⟩
  replace k_ref := k_ref.trans (kb hb_w13)
  replace hb := btrans hb hb_w13
  have z_w13 := hb_w13.size
  replace s_g := s_g.below hb_w13
  obtain ⟨A_u0, c_u0, rfl, _⟩ := o_u0.see
  have k_u0 : Keep (fun k => w12.heap.size ≤ k ∧ k < w13.heap.size) w13 w13 := Keep.refl _ _
  go_wp2_with fail
  refine (implReachedSets_l (o_u0.keep (fun k hk => o_u0.lt k hk) k_u0).see' (by omega) o_u0.nilok).mono ?_
  rintro e w14 ⟨v_hh, rfl, o_hh, hb_w14⟩
  replace k_ref := k_ref.trans (kb hb_w14)
  replace k_u0 := k_u0.trans (kb hb_w14)
  replace hb := btrans hb hb_w14
  have z_w14 := hb_w14.size
  replace s_g := s_g.below hb_w14
  obtain ⟨A_hh, c_hh, rfl, _⟩ := o_hh.see
  have k_hh : Keep (fun k => w13.heap.size ≤ k ∧ k < w14.heap.size) w14 w14 := Keep.refl _ _
  go_wp2_with fail
  refine (eqInt64SS_c A_hh A_ref c_hh c_ref _ _ (RReachedSets ms0).1 _ (o_hh.keep (fun k hk => o_hh.lt k hk) k_hh) (o_ref.keep (fun k hk => o_ref.lt k hk) k_ref) (by have := (RReachedSets_len ms0).1; omega) (RReachedSets_len ms0).2.1).mono ?_
  rintro e w15 ⟨rfl, hb_w15⟩
  replace k_ref := k_ref.trans (kb hb_w15)
  replace k_hh := k_hh.trans (kb hb_w15)
  replace hb := btrans hb hb_w15
  have z_w15 := hb_w15.size
  replace s_g := s_g.below hb_w15
  go_wp2_with fail
  refine (heldInt64SS_c A_g c_g _ (RReachedSets ms0).1 _ s_g (by omega) (RReachedSets_len ms0).2.1 lt).mono ?_
  rintro e w16 ⟨rfl, hb_w16⟩
  replace k_ref := k_ref.trans (kb hb_w16)
  replace k_hh := k_hh.trans (kb hb_w16)
  replace hb := btrans hb hb_w16
  have z_w16 := hb_w16.size
  replace s_g := s_g.below hb_w16
  go_wp2
  go_returns
  exact ⟨rfl, hb⟩
end Go.Proofs.Ythadgdmooacccaa
