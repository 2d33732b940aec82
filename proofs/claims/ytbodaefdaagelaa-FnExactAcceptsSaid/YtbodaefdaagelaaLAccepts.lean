/- 'FnExactAccepts' returns true, whatever it is given. No condition. -/
import Derived.Test.YtbodaefdaagelaaAccepts
import Derived.Test.YtbodaefdaagelaaAccCopy
import Derived.Test.YtbodaefdaagelaaLawKit
namespace Go.Proofs.Ytbodaefdaagelaa
open Go.RowKit
set_option maxHeartbeats 8000000 in
theorem lawAccepts_c {A0 B0 : Option Addr} {c0 d0 : Nat} {ms0 : List Mp} {f0 : Int} {ls0 : List Int} {A1 : Option Addr} {c1 : Nat} {xs1 : List Int} (w : World) (h0 : SeeMaps w A0 ms0) (n0 : ms0.length ≤ 9223372036854775807) (g0 : SeeInts w B0 ls0) (l0 : ls0.length ≤ 9223372036854775807) (h1 : SeeInts w A1 xs1) (n1 : xs1.length ≤ 9223372036854775807) :
    Calls Try.prog 4 #[.agg #[.slice A0 ms0.length c0, .int .i64 f0, .slice B0 ls0.length d0], .slice A1 xs1.length c1] w fun e w' => e = .returned (.bool true) ∧ Below w.heap.size w w' := by
  have k0 : Below w.heap.size w (w.alloc (Obj.cells #[.slice A0 ms0.length c0, .int .i64 f0, .slice B0 ls0.length d0] 25)) := (by repeat' (first | (with_reducible exact Below.refl _ _) | (with_reducible assumption) | (with_reducible refine bdrewN ?_ _) | (with_reducible refine Below.alloc ?_ ?_ _) | (with_reducible refine Below.drew ?_) | (with_reducible refine Below.setCell ?_ ?_ _) | go_size))
  have q0_0 : (w.alloc (Obj.cells #[.slice A0 ms0.length c0, .int .i64 f0, .slice B0 ls0.length d0] 25)).cell? ⟨w.heap.size, 0, none⟩ = some (.slice A0 ms0.length c0) := by simp [go_sem]
  have q0_1 : (w.alloc (Obj.cells #[.slice A0 ms0.length c0, .int .i64 f0, .slice B0 ls0.length d0] 25)).cell? ⟨w.heap.size, 1, none⟩ = some (.int .i64 f0) := by simp [go_sem]
  have q0_2 : (w.alloc (Obj.cells #[.slice A0 ms0.length c0, .int .i64 f0, .slice B0 ls0.length d0] 25)).cell? ⟨w.heap.size, 2, none⟩ = some (.slice B0 ls0.length d0) := by simp [go_sem]
  have hb : Below (w.alloc (Obj.cells #[.slice A0 ms0.length c0, .int .i64 f0, .slice B0 ls0.length d0] 25)).heap.size (w.alloc (Obj.cells #[.slice A0 ms0.length c0, .int .i64 f0, .slice B0 ls0.length d0] 25)) (w.alloc (Obj.cells #[.slice A0 ms0.length c0, .int .i64 f0, .slice B0 ls0.length d0] 25)) := Below.refl _ _
  by_cases t1 : ¬ xs1.length ≤ 1048576
  · have d1 : (1048576 : Int) < xs1.length := by omega
    go_enter Try.func4, Try.ntmps4
    go_wp2
    go_returns
    exact ⟨rfl, btrans k0 hb⟩
  have d1 : ¬ (1048576 : Int) < xs1.length := by omega
  by_cases s0 : szAcc ms0.length ls0.length 1048576 < 0
  · go_enter Try.func4, Try.ntmps4
    have y0 := bcell hb q0_0
    have y1 := bcell hb q0_1
    have y2 := bcell hb q0_2
    go_wp2_with fail
    refine (szAcceptor_c A0 B0 ms0.length c0 ls0.length d0 f0 1048576 _ (by omega) (by omega) (by omega) (by omega)).mono ?_
    rintro e w1 ⟨rfl, hb_w1⟩
    replace hb := btrans hb hb_w1
    have z_w1 := hb_w1.size
    clear y0 y1 y2
    go_wp2
    go_returns
    exact ⟨rfl, btrans k0 hb⟩
  have t0 := szAcc_ok2 s0 (by omega) (by omega)
  go_enter Try.func4, Try.ntmps4
  have y0 := bcell hb q0_0
  have y1 := bcell hb q0_1
  have y2 := bcell hb q0_2
  go_wp2_with fail
  refine (szAcceptor_c A0 B0 ms0.length c0 ls0.length d0 f0 1048576 _ (by omega) (by omega) (by omega) (by omega)).mono ?_
  rintro e w1 ⟨rfl, hb_w1⟩
  replace hb := btrans hb hb_w1
  have z_w1 := hb_w1.size
  clear y0 y1 y2
  have y0 := bcell hb q0_0
  have y1 := bcell hb q0_1
  have y2 := bcell hb q0_2
  go_wp2_with fail
  refine (toAcceptor_c A0 B0 c0 d0 ms0 f0 ls0 _ (h0.below (btrans k0 hb)) (by omega) (g0.below (btrans k0 hb)) (by omega)).mono ?_
  rintro e w2 ⟨v_s0, v_s0', rfl, o_s0, o_s0', hb_w2⟩
  replace hb := btrans hb hb_w2
  have z_w2 := hb_w2.size
  obtain ⟨A_s0, c_s0, rfl, _⟩ := o_s0.see
  have k_s0 : Keep (fun k => w1.heap.size ≤ k ∧ k < w2.heap.size) w2 w2 := Keep.refl _ _
  obtain ⟨A_s0', c_s0', rfl, _⟩ := o_s0'.see
  have k_s0' : Keep (fun k => w1.heap.size ≤ k ∧ k < w2.heap.size) w2 w2 := Keep.refl _ _
  clear y0 y1 y2
  go_wp2_with fail
  refine (toInt64S_c A1 c1 xs1 _ (h1.below (btrans k0 hb)) (by omega)).mono ?_
  rintro e w3 ⟨v_s1, rfl, o_s1, hb_w3⟩
  replace k_s0 := k_s0.trans (kb hb_w3)
  replace k_s0' := k_s0'.trans (kb hb_w3)
  replace hb := btrans hb hb_w3
  have z_w3 := hb_w3.size
  obtain ⟨A_s1, c_s1, rfl, _⟩ := o_s1.see
  have k_s1 : Keep (fun k => w2.heap.size ≤ k ∧ k < w3.heap.size) w3 w3 := Keep.refl _ _
  go_wp2_with fail
  refine (specAccepts_l (o_s0.keep (fun k hk => o_s0.lt k hk) k_s0).see' (by omega) o_s0.nilok (o_s0'.keep (fun k hk => o_s0'.lt k hk) k_s0').see' (by omega) o_s0'.nilok (o_s1.keep (fun k hk => o_s1.lt k hk) k_s1).see' (by omega) o_s1.nilok).mono ?_
  rintro e w4 ⟨rfl, hb_w4⟩
  replace k_s0 := k_s0.trans (kb hb_w4)
  replace k_s0' := k_s0'.trans (kb hb_w4)
  replace k_s1 := k_s1.trans (kb hb_w4)
  replace hb := btrans hb hb_w4
  have z_w4 := hb_w4.size
  have y0 := bcell hb q0_0
  have y1 := bcell hb q0_1
  have y2 := bcell hb q0_2
  go_wp2_with fail
  refine (toAcceptor_c A0 B0 c0 d0 ms0 f0 ls0 _ (h0.below (btrans k0 hb)) (by omega) (g0.below (btrans k0 hb)) (by omega)).mono ?_
  rintro e w5 ⟨v_x0, v_x0', rfl, o_x0, o_x0', hb_w5⟩
  replace hb := btrans hb hb_w5
  have z_w5 := hb_w5.size
  obtain ⟨A_x0, c_x0, rfl, _⟩ := o_x0.see
  have k_x0 : Keep (fun k => w4.heap.size ≤ k ∧ k < w5.heap.size) w5 w5 := Keep.refl _ _
  obtain ⟨A_x0', c_x0', rfl, _⟩ := o_x0'.see
  have k_x0' : Keep (fun k => w4.heap.size ≤ k ∧ k < w5.heap.size) w5 w5 := Keep.refl _ _
  clear y0 y1 y2
  replace k_x0 := k_x0.alloc (Obj.cells #[.slice A_x0 ms0.length c_x0, .int .i64 f0, .slice A_x0' ls0.length c_x0'] 30)
  replace k_x0' := k_x0'.alloc (Obj.cells #[.slice A_x0 ms0.length c_x0, .int .i64 f0, .slice A_x0' ls0.length c_x0'] 30)
  replace hb := btrans hb (kbelow w5 (Obj.cells #[.slice A_x0 ms0.length c_x0, .int .i64 f0, .slice A_x0' ls0.length c_x0'] 30))
  have z_a5_0 := (kbelow w5 (Obj.cells #[.slice A_x0 ms0.length c_x0, .int .i64 f0, .slice A_x0' ls0.length c_x0'] 30)).size
  have b0_0 : (w5.alloc (Obj.cells #[.slice A_x0 ms0.length c_x0, .int .i64 f0, .slice A_x0' ls0.length c_x0'] 30)).cell? ⟨w5.heap.size, 0, none⟩ = some (.slice A_x0 ms0.length c_x0) := by simp [go_sem]
  have b0_1 : (w5.alloc (Obj.cells #[.slice A_x0 ms0.length c_x0, .int .i64 f0, .slice A_x0' ls0.length c_x0'] 30)).cell? ⟨w5.heap.size, 1, none⟩ = some (.int .i64 f0) := by simp [go_sem]
  have b0_2 : (w5.alloc (Obj.cells #[.slice A_x0 ms0.length c_x0, .int .i64 f0, .slice A_x0' ls0.length c_x0'] 30)).cell? ⟨w5.heap.size, 2, none⟩ = some (.slice A_x0' ls0.length c_x0') := by simp [go_sem]
  go_wp2_with fail
  refine (toInt64S_c A1 c1 xs1 _ (h1.below (btrans k0 hb)) (by omega)).mono ?_
  rintro e w6 ⟨v_x1, rfl, o_x1, hb_w6⟩
  replace k_x0 := k_x0.trans (kb hb_w6)
  replace k_x0' := k_x0'.trans (kb hb_w6)
  replace b0_0 := bcell hb_w6 b0_0
  replace b0_1 := bcell hb_w6 b0_1
  replace b0_2 := bcell hb_w6 b0_2
  replace hb := btrans hb hb_w6
  have z_w6 := hb_w6.size
  obtain ⟨A_x1, c_x1, rfl, _⟩ := o_x1.see
  have k_x1 : Keep (fun k => (w5.alloc (Obj.cells #[.slice A_x0 ms0.length c_x0, .int .i64 f0, .slice A_x0' ls0.length c_x0'] 30)).heap.size ≤ k ∧ k < w6.heap.size) w6 w6 := Keep.refl _ _
  go_wp2_with fail
  refine (implAccepts_l (o_x0.keep (fun k hk => o_x0.lt k hk) k_x0).see' (by omega) o_x0.nilok (o_x0'.keep (fun k hk => o_x0'.lt k hk) k_x0').see' (by omega) o_x0'.nilok (o_x1.keep (fun k hk => o_x1.lt k hk) k_x1).see' (by omega) o_x1.nilok).mono ?_
  rintro e w7 ⟨rfl, hb_w7⟩
  replace k_x0 := k_x0.trans (kb hb_w7)
  replace k_x0' := k_x0'.trans (kb hb_w7)
  replace k_x1 := k_x1.trans (kb hb_w7)
  replace b0_0 := bcell hb_w7 b0_0
  replace b0_1 := bcell hb_w7 b0_1
  replace b0_2 := bcell hb_w7 b0_2
  replace hb := btrans hb hb_w7
  have z_w7 := hb_w7.size
  have y0 := bcell hb q0_0
  have y1 := bcell hb q0_1
  have y2 := bcell hb q0_2
  have sx := (o_x0.keep (fun k hk => o_x0.lt k hk) k_x0).see'
  have sx' := (o_x0'.keep (fun k hk => o_x0'.lt k hk) k_x0').see'
  go_wp2_with fail
  go_region_held3 (fun w' => w'.cell? ⟨w5.heap.size, 0, none⟩ = some (.slice A_x0 ms0.length c_x0) ∧ w'.cell? ⟨w5.heap.size, 1, none⟩ = some (.int .i64 f0) ∧ w'.cell? ⟨w5.heap.size, 2, none⟩ = some (.slice A_x0' ls0.length c_x0') ∧ w'.cell? ⟨w.heap.size, 0, none⟩ = some (.slice A0 ms0.length c0) ∧ w'.cell? ⟨w.heap.size, 1, none⟩ = some (.int .i64 f0) ∧ w'.cell? ⟨w.heap.size, 2, none⟩ = some (.slice B0 ls0.length d0)) (go_keep) (first | (go_at_call 17; refine (toAcceptor_c A0 B0 c0 d0 ms0 f0 ls0 _ (h0.below (btrans k0 hb.drew)) (by omega) (g0.below (btrans k0 hb.drew)) (by omega)).mono ?_; rintro e w8 ⟨v, v', rfl, jo, jo', hb_w8⟩; obtain ⟨D, cD, rfl, js1⟩ := jo.see; obtain ⟨D', cD', rfl, js2⟩ := jo'.see; replace hb_w8 := bdr hb_w8; have b0_06 := bcell hb_w8 b0_0; have b0_16 := bcell hb_w8 b0_1; have b0_26 := bcell hb_w8 b0_2; have y06 := bcell hb_w8 y0; have y16 := bcell hb_w8 y1; have y26 := bcell hb_w8 y2) | (go_at_call 19; refine (valB (eqAcceptor_c A_x0 A_x0' D D' c_x0 c_x0' cD cD' ms0 ms0 f0 f0 ls0 ls0 _ (sx.below hb_w8) (by omega) (sx'.below hb_w8) (by omega) js1 js2) (eqAcc_refl _ _ _)).mono ?_; rintro e w9 ⟨rfl, hb_w9⟩; have b0_07 := bcell hb_w9 b0_06; have b0_17 := bcell hb_w9 b0_16; have b0_27 := bcell hb_w9 b0_26; have y07 := bcell hb_w9 y06; have y17 := bcell hb_w9 y16; have y27 := bcell hb_w9 y26))
  replace hb_w9 := btrans hb_w8 hb_w9
  clear sx sx' y0 y1 y2 b0_06 b0_07 b0_16 b0_17 b0_26 b0_27 y06 y07 y16 y17 y26 y27
  replace k_x0 := k_x0.trans (kb hb_w9)
  replace k_x0' := k_x0'.trans (kb hb_w9)
  replace k_x1 := k_x1.trans (kb hb_w9)
  replace b0_0 := bcell hb_w9 b0_0
  replace b0_1 := bcell hb_w9 b0_1
  replace b0_2 := bcell hb_w9 b0_2
  replace hb := btrans hb hb_w9
  have z_w9 := hb_w9.size
  go_wp2_with fail
  refine (toInt64S_c A1 c1 xs1 _ (h1.below (btrans k0 hb)) (by omega)).mono ?_
  rintro e w10 ⟨v_y1, rfl, o_y1, hb_w10⟩
  replace k_x0 := k_x0.trans (kb hb_w10)
  replace k_x0' := k_x0'.trans (kb hb_w10)
  replace k_x1 := k_x1.trans (kb hb_w10)
  replace b0_0 := bcell hb_w10 b0_0
  replace b0_1 := bcell hb_w10 b0_1
  replace b0_2 := bcell hb_w10 b0_2
  replace hb := btrans hb hb_w10
  have z_w10 := hb_w10.size
  obtain ⟨A_y1, c_y1, rfl, _⟩ := o_y1.see
  have k_y1 : Keep (fun k => w9.heap.size ≤ k ∧ k < w10.heap.size) w10 w10 := Keep.refl _ _
  have E := valB (eqInt64S_c A_x1 A_y1 c_x1 c_y1 xs1 xs1 _ (by omega) (o_x1.keep (fun k hk => o_x1.lt k hk) k_x1).see' (o_y1.keep (fun k hk => o_y1.lt k hk) k_y1).see') (decide_eq_true rfl)
  go_wp2_with fail
  refine (E).mono ?_
  rintro e w11 ⟨rfl, hb_w11⟩
  replace k_x0 := k_x0.trans (kb hb_w11)
  replace k_x0' := k_x0'.trans (kb hb_w11)
  replace k_x1 := k_x1.trans (kb hb_w11)
  replace b0_0 := bcell hb_w11 b0_0
  replace b0_1 := bcell hb_w11 b0_1
  replace b0_2 := bcell hb_w11 b0_2
  replace hb := btrans hb hb_w11
  have z_w11 := hb_w11.size
  clear E
  go_wp2
  go_returns
  exact ⟨rfl, btrans k0 hb⟩
end Go.Proofs.Ytbodaefdaagelaa
