/- 'FnExactIdealOf' returns true, whatever it is given. No condition. -/
import Derived.Test.YtilfamenadaboaaIdealOf
import Derived.Test.YtilfamenadaboaaLawKit
namespace Go.Proofs.Ytilfamenadaboaa
set_option linter.unusedSimpArgs false
set_option linter.unusedVariables false
set_option linter.unusedSectionVars false
open Go.RowKit
set_option maxHeartbeats 8000000 in
theorem lawIdealOf_c {A0 : Option Addr} {c0 : Nat} {ms0 : List Mp} {m1 : Mp} (w : World) (h0 : SeeMaps w A0 ms0) (n0 : ms0.length ≤ 9223372036854775807) :
    Calls Try.prog 12 #[.slice A0 ms0.length c0, .agg #[.int .i64 m1.p, .int .i64 m1.a, .int .i64 m1.b, .int .i64 m1.c, .int .i64 m1.d, .int .i64 m1.e]] w fun e w' => e = .returned (.bool true) ∧ Below w.heap.size w w' := by
  have k0 : Below w.heap.size w (w.alloc (Obj.cells #[.int .i64 m1.p, .int .i64 m1.a, .int .i64 m1.b, .int .i64 m1.c, .int .i64 m1.d, .int .i64 m1.e] 32)) := (by repeat' (first | (with_reducible exact Below.refl _ _) | (with_reducible assumption) | (with_reducible refine bdrewN ?_ _) | (with_reducible refine Below.alloc ?_ ?_ _) | (with_reducible refine Below.drew ?_) | (with_reducible refine Below.setCell ?_ ?_ _) | go_size))
  have q1_0 : (w.alloc (Obj.cells #[.int .i64 m1.p, .int .i64 m1.a, .int .i64 m1.b, .int .i64 m1.c, .int .i64 m1.d, .int .i64 m1.e] 32)).cell? ⟨w.heap.size, 0, none⟩ = some (.int .i64 m1.p) := by simp [go_sem]
  have q1_1 : (w.alloc (Obj.cells #[.int .i64 m1.p, .int .i64 m1.a, .int .i64 m1.b, .int .i64 m1.c, .int .i64 m1.d, .int .i64 m1.e] 32)).cell? ⟨w.heap.size, 1, none⟩ = some (.int .i64 m1.a) := by simp [go_sem]
  have q1_2 : (w.alloc (Obj.cells #[.int .i64 m1.p, .int .i64 m1.a, .int .i64 m1.b, .int .i64 m1.c, .int .i64 m1.d, .int .i64 m1.e] 32)).cell? ⟨w.heap.size, 2, none⟩ = some (.int .i64 m1.b) := by simp [go_sem]
  have q1_3 : (w.alloc (Obj.cells #[.int .i64 m1.p, .int .i64 m1.a, .int .i64 m1.b, .int .i64 m1.c, .int .i64 m1.d, .int .i64 m1.e] 32)).cell? ⟨w.heap.size, 3, none⟩ = some (.int .i64 m1.c) := by simp [go_sem]
  have q1_4 : (w.alloc (Obj.cells #[.int .i64 m1.p, .int .i64 m1.a, .int .i64 m1.b, .int .i64 m1.c, .int .i64 m1.d, .int .i64 m1.e] 32)).cell? ⟨w.heap.size, 4, none⟩ = some (.int .i64 m1.d) := by simp [go_sem]
  have q1_5 : (w.alloc (Obj.cells #[.int .i64 m1.p, .int .i64 m1.a, .int .i64 m1.b, .int .i64 m1.c, .int .i64 m1.d, .int .i64 m1.e] 32)).cell? ⟨w.heap.size, 5, none⟩ = some (.int .i64 m1.e) := by simp [go_sem]
  have hb : Below (w.alloc (Obj.cells #[.int .i64 m1.p, .int .i64 m1.a, .int .i64 m1.b, .int .i64 m1.c, .int .i64 m1.d, .int .i64 m1.e] 32)).heap.size (w.alloc (Obj.cells #[.int .i64 m1.p, .int .i64 m1.a, .int .i64 m1.b, .int .i64 m1.c, .int .i64 m1.d, .int .i64 m1.e] 32)) (w.alloc (Obj.cells #[.int .i64 m1.p, .int .i64 m1.a, .int .i64 m1.b, .int .i64 m1.c, .int .i64 m1.d, .int .i64 m1.e] 32)) := Below.refl _ _
  by_cases s0 : szL ms0.length 1048576 < 0
  · go_enter Try.func12, Try.ntmps12
    go_wp2_with fail
    refine (szMapS_c A0 ms0.length c0 1048576 _ (by omega) (by omega) (by omega)).mono ?_
    rintro e w1 ⟨rfl, hb_w1⟩
    replace hb := btrans hb hb_w1
    have z_w1 := hb_w1.size
    go_wp2
    go_returns
    exact ⟨rfl, btrans k0 hb⟩
  have t0 := szL_ok s0 (by omega)
  go_enter Try.func12, Try.ntmps12
  go_wp2_with fail
  refine (szMapS_c A0 ms0.length c0 1048576 _ (by omega) (by omega) (by omega)).mono ?_
  rintro e w1 ⟨rfl, hb_w1⟩
  replace hb := btrans hb hb_w1
  have z_w1 := hb_w1.size
  have y1_0 := bcell hb q1_0
  have y1_1 := bcell hb q1_1
  have y1_2 := bcell hb q1_2
  have y1_3 := bcell hb q1_3
  have y1_4 := bcell hb q1_4
  have y1_5 := bcell hb q1_5
  go_wp2_with fail
  go_region_held3 (fun w' => w'.cell? ⟨w.heap.size, 0, none⟩ = some (.int .i64 m1.p) ∧ w'.cell? ⟨w.heap.size, 1, none⟩ = some (.int .i64 m1.a) ∧ w'.cell? ⟨w.heap.size, 2, none⟩ = some (.int .i64 m1.b) ∧ w'.cell? ⟨w.heap.size, 3, none⟩ = some (.int .i64 m1.c) ∧ w'.cell? ⟨w.heap.size, 4, none⟩ = some (.int .i64 m1.d) ∧ w'.cell? ⟨w.heap.size, 5, none⟩ = some (.int .i64 m1.e)) (go_keep) (first | (go_at_call 16; refine (toMapS_c A0 c0 ms0 _ (h0.below (btrans k0 hb.drew)) (by omega)).mono ?_; rintro e w2 ⟨v_refs0, rfl, o_refs0, hb_w2⟩; obtain ⟨A_refs0, c_refs0, rfl, _⟩ := o_refs0.see; replace hb_w2 := bdr hb_w2; have y1_0' := bcell hb_w2 y1_0; have y1_1' := bcell hb_w2 y1_1; have y1_2' := bcell hb_w2 y1_2; have y1_3' := bcell hb_w2 y1_3; have y1_4' := bcell hb_w2 y1_4; have y1_5' := bcell hb_w2 y1_5) | (go_at_call_of 20 (Value.agg #[.int .i64 m1.p, .int .i64 m1.a, .int .i64 m1.b, .int .i64 m1.c, .int .i64 m1.d, .int .i64 m1.e]); refine (toMap_c m1 _).mono ?_; rintro e w3 ⟨rfl, hb_w3⟩; have y1_0'' := bcell hb_w3 y1_0'; have y1_1'' := bcell hb_w3 y1_1'; have y1_2'' := bcell hb_w3 y1_2'; have y1_3'' := bcell hb_w3 y1_3'; have y1_4'' := bcell hb_w3 y1_4'; have y1_5'' := bcell hb_w3 y1_5') | (go_at_call 38; refine (specIdealOf_l (o_refs0.below hb_w3).see' (by omega) o_refs0.nilok).mono ?_; rintro e w4 ⟨v_ref, rfl, o_ref, hb_w4⟩; obtain ⟨A_ref, c_ref, rfl, _⟩ := o_ref.see; have y1_0''' := bcell hb_w4 y1_0''; have y1_1''' := bcell hb_w4 y1_1''; have y1_2''' := bcell hb_w4 y1_2''; have y1_3''' := bcell hb_w4 y1_3''; have y1_4''' := bcell hb_w4 y1_4''; have y1_5''' := bcell hb_w4 y1_5''))
  clear y1_0 y1_0' y1_0'' y1_0''' y1_1 y1_1' y1_1'' y1_1''' y1_2 y1_2' y1_2'' y1_2''' y1_3 y1_3' y1_3'' y1_3''' y1_4 y1_4' y1_4'' y1_4''' y1_5 y1_5' y1_5'' y1_5'''
  replace hb := btrans hb hb_w2
  have z_w2 := hb_w2.size
  replace hb := btrans hb hb_w3
  have z_w3 := hb_w3.size
  replace hb := btrans hb hb_w4
  have z_w4 := hb_w4.size
  have k_ref : Keep (fun k => w3.heap.size ≤ k ∧ k < w4.heap.size) w4 w4 := Keep.refl _ _
  go_wp2_with fail
  refine (toMapS_c A0 c0 ms0 _ (h0.below (btrans k0 hb)) (by omega)).mono ?_
  rintro e w5 ⟨v_x0, rfl, o_x0, hb_w5⟩
  replace k_ref := k_ref.trans (kb hb_w5)
  replace hb := btrans hb hb_w5
  have z_w5 := hb_w5.size
  obtain ⟨A_x0, c_x0, rfl, _⟩ := o_x0.see
  have k_x0 : Keep (fun k => w4.heap.size ≤ k ∧ k < w5.heap.size) w5 w5 := Keep.refl _ _
  have y1_0 := bcell hb q1_0
  have y1_1 := bcell hb q1_1
  have y1_2 := bcell hb q1_2
  have y1_3 := bcell hb q1_3
  have y1_4 := bcell hb q1_4
  have y1_5 := bcell hb q1_5
  go_wp2_with fail
  refine (toMap_c m1 _).mono ?_
  rintro e w6 ⟨rfl, hb_w6⟩
  replace k_ref := k_ref.trans (kb hb_w6)
  replace k_x0 := k_x0.trans (kb hb_w6)
  replace hb := btrans hb hb_w6
  have z_w6 := hb_w6.size
  clear y1_0 y1_1 y1_2 y1_3 y1_4 y1_5
  go_wp2_with fail
  refine (implIdealOf_l (o_x0.keep (fun k hk => o_x0.lt k hk) k_x0).see' (by omega) o_x0.nilok).mono ?_
  rintro e w7 ⟨v_g, rfl, o_g, hb_w7⟩
  replace k_ref := k_ref.trans (kb hb_w7)
  replace k_x0 := k_x0.trans (kb hb_w7)
  replace hb := btrans hb hb_w7
  have z_w7 := hb_w7.size
  obtain ⟨A_g, c_g, rfl, _⟩ := o_g.see
  have k_g : Keep (fun k => w6.heap.size ≤ k ∧ k < w7.heap.size) w7 w7 := Keep.refl _ _
  go_wp2_with fail
  refine (valB (eqMapS_c A_g A_ref c_g c_ref (RIdealOf ms0 m1).1 (RIdealOf ms0 m1).1 _ (by have := RIdealOf_len ms0 m1; omega) (o_g.keep (fun k hk => o_g.lt k hk) k_g).see' (o_ref.keep (fun k hk => o_ref.lt k hk) k_ref).see') (decide_eq_true rfl)).mono ?_
  rintro e w8 ⟨rfl, hb_w8⟩
  replace k_ref := k_ref.trans (kb hb_w8)
  replace k_x0 := k_x0.trans (kb hb_w8)
  replace k_g := k_g.trans (kb hb_w8)
  replace hb := btrans hb hb_w8
  have z_w8 := hb_w8.size
  go_wp2_with fail
  refine (toMapS_c A0 c0 ms0 _ (h0.below (btrans k0 hb)) (by omega)).mono ?_
  rintro e w9 ⟨v_y0, rfl, o_y0, hb_w9⟩
  replace k_ref := k_ref.trans (kb hb_w9)
  replace k_x0 := k_x0.trans (kb hb_w9)
  replace k_g := k_g.trans (kb hb_w9)
  replace hb := btrans hb hb_w9
  have z_w9 := hb_w9.size
  obtain ⟨A_y0, c_y0, rfl, _⟩ := o_y0.see
  have k_y0 : Keep (fun k => w8.heap.size ≤ k ∧ k < w9.heap.size) w9 w9 := Keep.refl _ _
  have E := valB (eqMapS_c A_x0 A_y0 c_x0 c_y0 ms0 ms0 _ (by omega) (o_x0.keep (fun k hk => o_x0.lt k hk) k_x0).see' (o_y0.keep (fun k hk => o_y0.lt k hk) k_y0).see') (decide_eq_true rfl)
  go_wp2_with fail
  refine (E).mono ?_
  rintro e w10 ⟨rfl, hb_w10⟩
  replace k_ref := k_ref.trans (kb hb_w10)
  replace k_x0 := k_x0.trans (kb hb_w10)
  replace k_g := k_g.trans (kb hb_w10)
  replace hb := btrans hb hb_w10
  have z_w10 := hb_w10.size
  clear E
  go_wp2_with fail
  refine (markMapS_r A_x0 c_x0 _ 1 _ _ (o_x0.keep (fun k hk => o_x0.lt k hk) k_x0) (by omega) (by omega) (by omega)).mono ?_
  rintro e w11 ⟨r_x0, rfl, r0_x0, r1_x0, K_w11⟩
  have hz0 := hb.size
  replace k_ref := k_ref.trans (K_w11.mono (apart (fun k hk => o_x0.lt k hk) (by omega)))
  replace k_g := k_g.trans (K_w11.mono (apart (fun k hk => o_x0.lt k hk) (by omega)))
  replace hb := hb.trans (K_w11.below hz0 (apart0 (fun k hk => o_x0.lt k hk) (by omega)))
  have z_w11 := K_w11.size
  clear hz0
  have dk : decide (r_x0 < 0) = false := decide_eq_false (by omega)
  go_wp2_with fail
  refine (valB (eqMapS_c A_g A_ref c_g c_ref (RIdealOf ms0 m1).1 (RIdealOf ms0 m1).1 _ (by have := RIdealOf_len ms0 m1; omega) (o_g.keep (fun k hk => o_g.lt k hk) k_g).see' (o_ref.keep (fun k hk => o_ref.lt k hk) k_ref).see') (decide_eq_true rfl)).mono ?_
  rintro e w12 ⟨rfl, hb_w12⟩
  replace k_ref := k_ref.trans (kb hb_w12)
  replace k_g := k_g.trans (kb hb_w12)
  replace hb := btrans hb hb_w12
  have z_w12 := hb_w12.size
  go_wp2_with fail
  have ln := RIdealOf_len ms0 m1
  refine (markMapS_c A_g c_g (RIdealOf ms0 m1).1 1 _ _ (o_g.keep (fun k hk => o_g.lt k hk) k_g) (by omega) (by decide) (by decide)).mono ?_
  rintro e w13 ⟨rfl, o_g2, K_w13⟩
  have hz0 := hb.size
  replace k_ref := k_ref.trans (K_w13.mono (apart (fun k hk => o_g.lt k hk) (by omega)))
  replace hb := hb.trans (K_w13.below hz0 (apart0 (fun k hk => o_g.lt k hk) (by omega)))
  have z_w13 := K_w13.size
  clear hz0
  have s_g := o_g2.see'
  have nn : ¬ ((1 : Int) + ((RIdealOf ms0 m1).1.length : Int) * 6 < 0) := by omega
  go_wp2_with fail
  refine (heldMapS_c A_g c_g (RIdealOf ms0 m1).1.length 1 _ s_g (by omega) (by decide) (by decide)).mono ?_
  rintro e w14 ⟨rfl, hb_w14⟩
  replace k_ref := k_ref.trans (kb hb_w14)
  replace hb := btrans hb hb_w14
  have z_w14 := hb_w14.size
  replace s_g := s_g.below hb_w14
  have y1_0 := bcell hb q1_0
  have y1_1 := bcell hb q1_1
  have y1_2 := bcell hb q1_2
  have y1_3 := bcell hb q1_3
  have y1_4 := bcell hb q1_4
  have y1_5 := bcell hb q1_5
  go_wp2_with fail
  go_region_held3 (fun w' => w'.cell? ⟨w.heap.size, 0, none⟩ = some (.int .i64 m1.p) ∧ w'.cell? ⟨w.heap.size, 1, none⟩ = some (.int .i64 m1.a) ∧ w'.cell? ⟨w.heap.size, 2, none⟩ = some (.int .i64 m1.b) ∧ w'.cell? ⟨w.heap.size, 3, none⟩ = some (.int .i64 m1.c) ∧ w'.cell? ⟨w.heap.size, 4, none⟩ = some (.int .i64 m1.d) ∧ w'.cell? ⟨w.heap.size, 5, none⟩ = some (.int .i64 m1.e)) (go_keep) (first | (go_at_call 16; refine (toMapS_c A0 c0 ms0 _ (h0.below (btrans k0 hb.drew)) (by omega)).mono ?_; rintro e w15 ⟨v_hhs0, rfl, o_hhs0, hb_w15⟩; obtain ⟨A_hhs0, c_hhs0, rfl, _⟩ := o_hhs0.see; replace hb_w15 := bdr hb_w15; have y1_0' := bcell hb_w15 y1_0; have y1_1' := bcell hb_w15 y1_1; have y1_2' := bcell hb_w15 y1_2; have y1_3' := bcell hb_w15 y1_3; have y1_4' := bcell hb_w15 y1_4; have y1_5' := bcell hb_w15 y1_5) | (go_at_call_of 20 (Value.agg #[.int .i64 m1.p, .int .i64 m1.a, .int .i64 m1.b, .int .i64 m1.c, .int .i64 m1.d, .int .i64 m1.e]); refine (toMap_c m1 _).mono ?_; rintro e w16 ⟨rfl, hb_w16⟩; have y1_0'' := bcell hb_w16 y1_0'; have y1_1'' := bcell hb_w16 y1_1'; have y1_2'' := bcell hb_w16 y1_2'; have y1_3'' := bcell hb_w16 y1_3'; have y1_4'' := bcell hb_w16 y1_4'; have y1_5'' := bcell hb_w16 y1_5') | (go_at_call 39; refine (implIdealOf_l (o_hhs0.below hb_w16).see' (by omega) o_hhs0.nilok).mono ?_; rintro e w17 ⟨v_hh, rfl, o_hh, hb_w17⟩; obtain ⟨A_hh, c_hh, rfl, _⟩ := o_hh.see; have y1_0''' := bcell hb_w17 y1_0''; have y1_1''' := bcell hb_w17 y1_1''; have y1_2''' := bcell hb_w17 y1_2''; have y1_3''' := bcell hb_w17 y1_3''; have y1_4''' := bcell hb_w17 y1_4''; have y1_5''' := bcell hb_w17 y1_5''))
  clear y1_0 y1_0' y1_0'' y1_0''' y1_1 y1_1' y1_1'' y1_1''' y1_2 y1_2' y1_2'' y1_2''' y1_3 y1_3' y1_3'' y1_3''' y1_4 y1_4' y1_4'' y1_4''' y1_5 y1_5' y1_5'' y1_5'''
  replace k_ref := k_ref.trans (kb hb_w15)
  replace hb := btrans hb hb_w15
  have z_w15 := hb_w15.size
  replace s_g := s_g.below hb_w15
  replace k_ref := k_ref.trans (kb hb_w16)
  replace hb := btrans hb hb_w16
  have z_w16 := hb_w16.size
  replace s_g := s_g.below hb_w16
  replace k_ref := k_ref.trans (kb hb_w17)
  replace hb := btrans hb hb_w17
  have z_w17 := hb_w17.size
  replace s_g := s_g.below hb_w17
  have k_hh : Keep (fun k => w16.heap.size ≤ k ∧ k < w17.heap.size) w17 w17 := Keep.refl _ _
  go_wp2_with fail
  refine (valB (eqMapS_c A_hh A_ref c_hh c_ref (RIdealOf ms0 m1).1 (RIdealOf ms0 m1).1 _ (by have := RIdealOf_len ms0 m1; omega) (o_hh.keep (fun k hk => o_hh.lt k hk) k_hh).see' (o_ref.keep (fun k hk => o_ref.lt k hk) k_ref).see') (decide_eq_true rfl)).mono ?_
  rintro e w18 ⟨rfl, hb_w18⟩
  replace k_ref := k_ref.trans (kb hb_w18)
  replace k_hh := k_hh.trans (kb hb_w18)
  replace hb := btrans hb hb_w18
  have z_w18 := hb_w18.size
  replace s_g := s_g.below hb_w18
  go_wp2_with fail
  refine (heldMapS_c A_g c_g (RIdealOf ms0 m1).1.length 1 _ s_g (by omega) (by decide) (by decide)).mono ?_
  rintro e w19 ⟨rfl, hb_w19⟩
  replace k_ref := k_ref.trans (kb hb_w19)
  replace k_hh := k_hh.trans (kb hb_w19)
  replace hb := btrans hb hb_w19
  have z_w19 := hb_w19.size
  replace s_g := s_g.below hb_w19
  go_wp2
  go_returns
  exact ⟨rfl, btrans k0 hb⟩
end Go.Proofs.Ytilfamenadaboaa
