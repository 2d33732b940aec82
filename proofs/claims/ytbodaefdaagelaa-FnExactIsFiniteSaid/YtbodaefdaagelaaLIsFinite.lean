/- 'FnExactIsFinite' returns true, whatever it is given. No condition. -/
import Derived.Test.YtbodaefdaagelaaFin
import Derived.Test.YtbodaefdaagelaaAccMark
import Derived.Test.YtbodaefdaagelaaToMap
namespace Go.Proofs.Ytbodaefdaagelaa
set_option linter.unusedSimpArgs false
set_option linter.unusedVariables false
set_option linter.unusedSectionVars false
open Go.RowKit
set_option maxHeartbeats 8000000 in
theorem lawIsFinite_c {A0 B0 : Option Addr} {c0 d0 : Nat} {ms0 : List Mp} {f0 : Int} {ls0 : List Int} (w : World) (h0 : SeeMaps w A0 ms0) (n0 : ms0.length ≤ 9223372036854775807) (g0 : SeeInts w B0 ls0) (l0 : ls0.length ≤ 9223372036854775807) :
    Calls Try.prog 11 #[.agg #[.slice A0 ms0.length c0, .int .i64 f0, .slice B0 ls0.length d0]] w fun e w' => e = .returned (.bool true) ∧ Below w.heap.size w w' := by
  have k0 : Below w.heap.size w (w.alloc (Obj.cells #[.slice A0 ms0.length c0, .int .i64 f0, .slice B0 ls0.length d0] 25)) := (by repeat' (first | (with_reducible exact Below.refl _ _) | (with_reducible assumption) | (with_reducible refine bdrewN ?_ _) | (with_reducible refine Below.alloc ?_ ?_ _) | (with_reducible refine Below.drew ?_) | (with_reducible refine Below.setCell ?_ ?_ _) | go_size))
  have q0_0 : (w.alloc (Obj.cells #[.slice A0 ms0.length c0, .int .i64 f0, .slice B0 ls0.length d0] 25)).cell? ⟨w.heap.size, 0, none⟩ = some (.slice A0 ms0.length c0) := by simp [go_sem]
  have q0_1 : (w.alloc (Obj.cells #[.slice A0 ms0.length c0, .int .i64 f0, .slice B0 ls0.length d0] 25)).cell? ⟨w.heap.size, 1, none⟩ = some (.int .i64 f0) := by simp [go_sem]
  have q0_2 : (w.alloc (Obj.cells #[.slice A0 ms0.length c0, .int .i64 f0, .slice B0 ls0.length d0] 25)).cell? ⟨w.heap.size, 2, none⟩ = some (.slice B0 ls0.length d0) := by simp [go_sem]
  have hb : Below (w.alloc (Obj.cells #[.slice A0 ms0.length c0, .int .i64 f0, .slice B0 ls0.length d0] 25)).heap.size (w.alloc (Obj.cells #[.slice A0 ms0.length c0, .int .i64 f0, .slice B0 ls0.length d0] 25)) (w.alloc (Obj.cells #[.slice A0 ms0.length c0, .int .i64 f0, .slice B0 ls0.length d0] 25)) := Below.refl _ _
  by_cases s0 : szAcc ms0.length ls0.length 1048576 < 0
  · go_enter Try.func11, Try.ntmps11
    have y0 := bcell hb q0_0
    have y1 := bcell hb q0_1
    have y2 := bcell hb q0_2
    go_wp2_with fail
    refine (szAcceptor_c A0 B0 ms0.length c0 ls0.length d0 f0 1048576 _ (by omega) (by omega) (by omega) (by omega)).mono ?_
    rintro e w1 ⟨rfl, hb_w1⟩
    replace hb := btrans hb hb_w1
    have z_w1 := hb_w1.size
    clear y0 y1 y2
    go_wp2
    go_returns
    exact ⟨rfl, btrans k0 hb⟩
  have t0 := szAcc_ok2 s0 (by omega) (by omega)
  go_enter Try.func11, Try.ntmps11
  have y0 := bcell hb q0_0
  have y1 := bcell hb q0_1
  have y2 := bcell hb q0_2
  go_wp2_with fail
  refine (szAcceptor_c A0 B0 ms0.length c0 ls0.length d0 f0 1048576 _ (by omega) (by omega) (by omega) (by omega)).mono ?_
  rintro e w1 ⟨rfl, hb_w1⟩
  replace hb := btrans hb hb_w1
  have z_w1 := hb_w1.size
  clear y0 y1 y2
  have y0 := bcell hb q0_0
  have y1 := bcell hb q0_1
  have y2 := bcell hb q0_2
  go_wp2_with fail
  refine (toAcceptor_c A0 B0 c0 d0 ms0 f0 ls0 _ (h0.below (btrans k0 hb)) (by omega) (g0.below (btrans k0 hb)) (by omega)).mono ?_
  rintro e w2 ⟨v_s0, v_s0', rfl, o_s0, o_s0', hb_w2⟩
  replace hb := btrans hb hb_w2
  have z_w2 := hb_w2.size
  obtain ⟨A_s0, c_s0, rfl, _⟩ := o_s0.see
  have k_s0 : Keep (fun k => w1.heap.size ≤ k ∧ k < w2.heap.size) w2 w2 := Keep.refl _ _
  obtain ⟨A_s0', c_s0', rfl, _⟩ := o_s0'.see
  have k_s0' : Keep (fun k => w1.heap.size ≤ k ∧ k < w2.heap.size) w2 w2 := Keep.refl _ _
  clear y0 y1 y2
  go_wp2_with fail
  refine (specIsFinite_l (o_s0.keep (fun k hk => o_s0.lt k hk) k_s0).see' (by omega) o_s0.nilok (o_s0'.keep (fun k hk => o_s0'.lt k hk) k_s0').see' (by omega) o_s0'.nilok).mono ?_
  rintro e w3 ⟨rfl, hb_w3⟩
  replace k_s0 := k_s0.trans (kb hb_w3)
  replace k_s0' := k_s0'.trans (kb hb_w3)
  replace hb := btrans hb hb_w3
  have z_w3 := hb_w3.size
  have y0 := bcell hb q0_0
  have y1 := bcell hb q0_1
  have y2 := bcell hb q0_2
  go_wp2_with fail
  refine (toAcceptor_c A0 B0 c0 d0 ms0 f0 ls0 _ (h0.below (btrans k0 hb)) (by omega) (g0.below (btrans k0 hb)) (by omega)).mono ?_
  rintro e w4 ⟨v_x0, v_x0', rfl, o_x0, o_x0', hb_w4⟩
  replace hb := btrans hb hb_w4
  have z_w4 := hb_w4.size
  obtain ⟨A_x0, c_x0, rfl, _⟩ := o_x0.see
  have k_x0 : Keep (fun k => w3.heap.size ≤ k ∧ k < w4.heap.size) w4 w4 := Keep.refl _ _
  obtain ⟨A_x0', c_x0', rfl, _⟩ := o_x0'.see
  have k_x0' : Keep (fun k => w3.heap.size ≤ k ∧ k < w4.heap.size) w4 w4 := Keep.refl _ _
  clear y0 y1 y2
  replace k_x0 := k_x0.alloc (Obj.cells #[.slice A_x0 ms0.length c_x0, .int .i64 f0, .slice A_x0' ls0.length c_x0'] 30)
  replace k_x0' := k_x0'.alloc (Obj.cells #[.slice A_x0 ms0.length c_x0, .int .i64 f0, .slice A_x0' ls0.length c_x0'] 30)
  replace hb := btrans hb (kbelow w4 (Obj.cells #[.slice A_x0 ms0.length c_x0, .int .i64 f0, .slice A_x0' ls0.length c_x0'] 30))
  have z_a4_0 := (kbelow w4 (Obj.cells #[.slice A_x0 ms0.length c_x0, .int .i64 f0, .slice A_x0' ls0.length c_x0'] 30)).size
  have b0_0 : (w4.alloc (Obj.cells #[.slice A_x0 ms0.length c_x0, .int .i64 f0, .slice A_x0' ls0.length c_x0'] 30)).cell? ⟨w4.heap.size, 0, none⟩ = some (.slice A_x0 ms0.length c_x0) := by simp [go_sem]
  have b0_1 : (w4.alloc (Obj.cells #[.slice A_x0 ms0.length c_x0, .int .i64 f0, .slice A_x0' ls0.length c_x0'] 30)).cell? ⟨w4.heap.size, 1, none⟩ = some (.int .i64 f0) := by simp [go_sem]
  have b0_2 : (w4.alloc (Obj.cells #[.slice A_x0 ms0.length c_x0, .int .i64 f0, .slice A_x0' ls0.length c_x0'] 30)).cell? ⟨w4.heap.size, 2, none⟩ = some (.slice A_x0' ls0.length c_x0') := by simp [go_sem]
  go_wp2_with fail
  refine (implIsFinite_l (o_x0.keep (fun k hk => o_x0.lt k hk) k_x0).see' (by omega) o_x0.nilok (o_x0'.keep (fun k hk => o_x0'.lt k hk) k_x0').see' (by omega) o_x0'.nilok).mono ?_
  rintro e w5 ⟨rfl, hb_w5⟩
  replace k_x0 := k_x0.trans (kb hb_w5)
  replace k_x0' := k_x0'.trans (kb hb_w5)
  replace b0_0 := bcell hb_w5 b0_0
  replace b0_1 := bcell hb_w5 b0_1
  replace b0_2 := bcell hb_w5 b0_2
  replace hb := btrans hb hb_w5
  have z_w5 := hb_w5.size
  have y0 := bcell hb q0_0
  have y1 := bcell hb q0_1
  have y2 := bcell hb q0_2
  have sx := (o_x0.keep (fun k hk => o_x0.lt k hk) k_x0).see'
  have sx' := (o_x0'.keep (fun k hk => o_x0'.lt k hk) k_x0').see'
  go_wp2_with fail
  go_region_held3 (fun w' => w'.cell? ⟨w4.heap.size, 0, none⟩ = some (.slice A_x0 ms0.length c_x0) ∧ w'.cell? ⟨w4.heap.size, 1, none⟩ = some (.int .i64 f0) ∧ w'.cell? ⟨w4.heap.size, 2, none⟩ = some (.slice A_x0' ls0.length c_x0') ∧ w'.cell? ⟨w.heap.size, 0, none⟩ = some (.slice A0 ms0.length c0) ∧ w'.cell? ⟨w.heap.size, 1, none⟩ = some (.int .i64 f0) ∧ w'.cell? ⟨w.heap.size, 2, none⟩ = some (.slice B0 ls0.length d0)) (go_keep) (first | (go_at_call 17; refine (toAcceptor_c A0 B0 c0 d0 ms0 f0 ls0 _ (h0.below (btrans k0 hb.drew)) (by omega) (g0.below (btrans k0 hb.drew)) (by omega)).mono ?_; rintro e w6 ⟨v, v', rfl, jo, jo', hb_w6⟩; obtain ⟨D, cD, rfl, js1⟩ := jo.see; obtain ⟨D', cD', rfl, js2⟩ := jo'.see; replace hb_w6 := bdr hb_w6; have b0_06 := bcell hb_w6 b0_0; have b0_16 := bcell hb_w6 b0_1; have b0_26 := bcell hb_w6 b0_2; have y06 := bcell hb_w6 y0; have y16 := bcell hb_w6 y1; have y26 := bcell hb_w6 y2) | (go_at_call 19; refine (valB (eqAcceptor_c A_x0 A_x0' D D' c_x0 c_x0' cD cD' ms0 ms0 f0 f0 ls0 ls0 _ (sx.below hb_w6) (by omega) (sx'.below hb_w6) (by omega) js1 js2) (eqAcc_refl _ _ _)).mono ?_; rintro e w7 ⟨rfl, hb_w7⟩; have b0_07 := bcell hb_w7 b0_06; have b0_17 := bcell hb_w7 b0_16; have b0_27 := bcell hb_w7 b0_26; have y07 := bcell hb_w7 y06; have y17 := bcell hb_w7 y16; have y27 := bcell hb_w7 y26))
  replace hb_w7 := btrans hb_w6 hb_w7
  clear sx sx' y0 y1 y2 b0_06 b0_07 b0_16 b0_17 b0_26 b0_27 y06 y07 y16 y17 y26 y27
  replace k_x0 := k_x0.trans (kb hb_w7)
  replace k_x0' := k_x0'.trans (kb hb_w7)
  replace b0_0 := bcell hb_w7 b0_0
  replace b0_1 := bcell hb_w7 b0_1
  replace b0_2 := bcell hb_w7 b0_2
  replace hb := btrans hb hb_w7
  have z_w7 := hb_w7.size
  go_wp2
  go_returns
  exact ⟨rfl, btrans k0 hb⟩
end Go.Proofs.Ytbodaefdaagelaa
