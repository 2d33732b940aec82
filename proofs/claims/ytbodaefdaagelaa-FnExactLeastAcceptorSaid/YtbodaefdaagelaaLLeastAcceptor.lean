/- 'FnExactLeastAcceptor' returns true, whatever it is given. No condition. -/
import Derived.Test.YtbodaefdaagelaaLeastL
import Derived.Test.YtbodaefdaagelaaAccHeld
import Derived.Test.YtbodaefdaagelaaToMap
namespace Go.Proofs.Ytbodaefdaagelaa
set_option linter.unusedSimpArgs false
set_option linter.unusedVariables false
set_option linter.unusedSectionVars false
open Go.RowKit
set_option maxHeartbeats 8000000 in
theorem lawLeastAcceptor_c {A0 B0 : Option Addr} {c0 d0 : Nat} {ms0 : List Mp} {f0 : Int} {ls0 : List Int} (w : World) (h0 : SeeMaps w A0 ms0) (n0 : ms0.length ≤ 9223372036854775807) (g0 : SeeInts w B0 ls0) (l0 : ls0.length ≤ 9223372036854775807) :
    Calls Try.prog 13 #[.agg #[.slice A0 ms0.length c0, .int .i64 f0, .slice B0 ls0.length d0]] w fun e w' => e = .returned (.bool true) ∧ Below w.heap.size w w' := by
  have k0 : Below w.heap.size w (w.alloc (Obj.cells #[.slice A0 ms0.length c0, .int .i64 f0, .slice B0 ls0.length d0] 25)) := (by repeat' (first | (with_reducible exact Below.refl _ _) | (with_reducible assumption) | (with_reducible refine bdrewN ?_ _) | (with_reducible refine Below.alloc ?_ ?_ _) | (with_reducible refine Below.drew ?_) | (with_reducible refine Below.setCell ?_ ?_ _) | go_size))
  have q0_0 : (w.alloc (Obj.cells #[.slice A0 ms0.length c0, .int .i64 f0, .slice B0 ls0.length d0] 25)).cell? ⟨w.heap.size, 0, none⟩ = some (.slice A0 ms0.length c0) := by simp [go_sem]
  have q0_1 : (w.alloc (Obj.cells #[.slice A0 ms0.length c0, .int .i64 f0, .slice B0 ls0.length d0] 25)).cell? ⟨w.heap.size, 1, none⟩ = some (.int .i64 f0) := by simp [go_sem]
  have q0_2 : (w.alloc (Obj.cells #[.slice A0 ms0.length c0, .int .i64 f0, .slice B0 ls0.length d0] 25)).cell? ⟨w.heap.size, 2, none⟩ = some (.slice B0 ls0.length d0) := by simp [go_sem]
  have hb : Below (w.alloc (Obj.cells #[.slice A0 ms0.length c0, .int .i64 f0, .slice B0 ls0.length d0] 25)).heap.size (w.alloc (Obj.cells #[.slice A0 ms0.length c0, .int .i64 f0, .slice B0 ls0.length d0] 25)) (w.alloc (Obj.cells #[.slice A0 ms0.length c0, .int .i64 f0, .slice B0 ls0.length d0] 25)) := Below.refl _ _
  by_cases s0 : szAcc ms0.length ls0.length 1048576 < 0
  · go_enter Try.func13, Try.ntmps13
    have y0 := bcell hb q0_0
    have y1 := bcell hb q0_1
    have y2 := bcell hb q0_2
    go_wp2_with fail
    refine (szAcceptor_c A0 B0 ms0.length c0 ls0.length d0 f0 1048576 _ (by omega) (by omega) (by omega) (by omega)).mono ?_
    rintro e w1 ⟨rfl, hb_w1⟩
    replace hb := btrans hb hb_w1
    have z_w1 := hb_w1.size
    clear y0 y1 y2
    go_wp2
    go_returns
    exact ⟨rfl, btrans k0 hb⟩
  have t0 := szAcc_ok2 s0 (by omega) (by omega)
  go_enter Try.func13, Try.ntmps13
  have y0 := bcell hb q0_0
  have y1 := bcell hb q0_1
  have y2 := bcell hb q0_2
  go_wp2_with fail
  refine (szAcceptor_c A0 B0 ms0.length c0 ls0.length d0 f0 1048576 _ (by omega) (by omega) (by omega) (by omega)).mono ?_
  rintro e w1 ⟨rfl, hb_w1⟩
  replace hb := btrans hb hb_w1
  have z_w1 := hb_w1.size
  clear y0 y1 y2
  have y0 := bcell hb q0_0
  have y1 := bcell hb q0_1
  have y2 := bcell hb q0_2
  go_wp2_with fail
  refine (toAcceptor_c A0 B0 c0 d0 ms0 f0 ls0 _ (h0.below (btrans k0 hb)) (by omega) (g0.below (btrans k0 hb)) (by omega)).mono ?_
  rintro e w2 ⟨v_s0, v_s0', rfl, o_s0, o_s0', hb_w2⟩
  replace hb := btrans hb hb_w2
  have z_w2 := hb_w2.size
  obtain ⟨A_s0, c_s0, rfl, _⟩ := o_s0.see
  have k_s0 : Keep (fun k => w1.heap.size ≤ k ∧ k < w2.heap.size) w2 w2 := Keep.refl _ _
  obtain ⟨A_s0', c_s0', rfl, _⟩ := o_s0'.see
  have k_s0' : Keep (fun k => w1.heap.size ≤ k ∧ k < w2.heap.size) w2 w2 := Keep.refl _ _
  clear y0 y1 y2
  go_wp2_with fail
  refine (specLeastAcceptor_l (o_s0.keep (fun k hk => o_s0.lt k hk) k_s0).see' (by omega) o_s0.nilok (o_s0'.keep (fun k hk => o_s0'.lt k hk) k_s0').see' (by omega) o_s0'.nilok).mono ?_
  rintro e w3 ⟨v_ref, v_ref', rfl, o_ref, o_ref', hb_w3⟩
  replace k_s0 := k_s0.trans (kb hb_w3)
  replace k_s0' := k_s0'.trans (kb hb_w3)
  replace hb := btrans hb hb_w3
  have z_w3 := hb_w3.size
  obtain ⟨A_ref, c_ref, rfl, _⟩ := o_ref.see
  have k_ref : Keep (fun k => w2.heap.size ≤ k ∧ k < w3.heap.size) w3 w3 := Keep.refl _ _
  obtain ⟨A_ref', c_ref', rfl, _⟩ := o_ref'.see
  have k_ref' : Keep (fun k => w2.heap.size ≤ k ∧ k < w3.heap.size) w3 w3 := Keep.refl _ _
  replace k_s0 := k_s0.alloc (Obj.cells #[.slice A_ref (RLeastAcceptor ms0 f0 ls0).1.1.length c_ref, .int .i64 (RLeastAcceptor ms0 f0 ls0).1.2.1, .slice A_ref' (RLeastAcceptor ms0 f0 ls0).1.2.2.length c_ref'] 30)
  replace k_s0' := k_s0'.alloc (Obj.cells #[.slice A_ref (RLeastAcceptor ms0 f0 ls0).1.1.length c_ref, .int .i64 (RLeastAcceptor ms0 f0 ls0).1.2.1, .slice A_ref' (RLeastAcceptor ms0 f0 ls0).1.2.2.length c_ref'] 30)
  replace k_ref := k_ref.alloc (Obj.cells #[.slice A_ref (RLeastAcceptor ms0 f0 ls0).1.1.length c_ref, .int .i64 (RLeastAcceptor ms0 f0 ls0).1.2.1, .slice A_ref' (RLeastAcceptor ms0 f0 ls0).1.2.2.length c_ref'] 30)
  replace k_ref' := k_ref'.alloc (Obj.cells #[.slice A_ref (RLeastAcceptor ms0 f0 ls0).1.1.length c_ref, .int .i64 (RLeastAcceptor ms0 f0 ls0).1.2.1, .slice A_ref' (RLeastAcceptor ms0 f0 ls0).1.2.2.length c_ref'] 30)
  replace hb := btrans hb (kbelow w3 (Obj.cells #[.slice A_ref (RLeastAcceptor ms0 f0 ls0).1.1.length c_ref, .int .i64 (RLeastAcceptor ms0 f0 ls0).1.2.1, .slice A_ref' (RLeastAcceptor ms0 f0 ls0).1.2.2.length c_ref'] 30))
  have z_a3_0 := (kbelow w3 (Obj.cells #[.slice A_ref (RLeastAcceptor ms0 f0 ls0).1.1.length c_ref, .int .i64 (RLeastAcceptor ms0 f0 ls0).1.2.1, .slice A_ref' (RLeastAcceptor ms0 f0 ls0).1.2.2.length c_ref'] 30)).size
  have zs_ref : w3.heap.size < (w3.alloc (Obj.cells #[.slice A_ref (RLeastAcceptor ms0 f0 ls0).1.1.length c_ref, .int .i64 (RLeastAcceptor ms0 f0 ls0).1.2.1, .slice A_ref' (RLeastAcceptor ms0 f0 ls0).1.2.2.length c_ref'] 30)).heap.size := by rw [World.size_alloc]; exact Nat.lt_succ_self _
  have bref_0 : (w3.alloc (Obj.cells #[.slice A_ref (RLeastAcceptor ms0 f0 ls0).1.1.length c_ref, .int .i64 (RLeastAcceptor ms0 f0 ls0).1.2.1, .slice A_ref' (RLeastAcceptor ms0 f0 ls0).1.2.2.length c_ref'] 30)).cell? ⟨w3.heap.size, 0, none⟩ = some (.slice A_ref (RLeastAcceptor ms0 f0 ls0).1.1.length c_ref) := by simp [go_sem]
  have bref_1 : (w3.alloc (Obj.cells #[.slice A_ref (RLeastAcceptor ms0 f0 ls0).1.1.length c_ref, .int .i64 (RLeastAcceptor ms0 f0 ls0).1.2.1, .slice A_ref' (RLeastAcceptor ms0 f0 ls0).1.2.2.length c_ref'] 30)).cell? ⟨w3.heap.size, 1, none⟩ = some (.int .i64 (RLeastAcceptor ms0 f0 ls0).1.2.1) := by simp [go_sem]
  have bref_2 : (w3.alloc (Obj.cells #[.slice A_ref (RLeastAcceptor ms0 f0 ls0).1.1.length c_ref, .int .i64 (RLeastAcceptor ms0 f0 ls0).1.2.1, .slice A_ref' (RLeastAcceptor ms0 f0 ls0).1.2.2.length c_ref'] 30)).cell? ⟨w3.heap.size, 2, none⟩ = some (.slice A_ref' (RLeastAcceptor ms0 f0 ls0).1.2.2.length c_ref') := by simp [go_sem]
  have y0 := bcell hb q0_0
  have y1 := bcell hb q0_1
  have y2 := bcell hb q0_2
  go_wp2_with fail
  refine (toAcceptor_c A0 B0 c0 d0 ms0 f0 ls0 _ (h0.below (btrans k0 hb)) (by omega) (g0.below (btrans k0 hb)) (by omega)).mono ?_
  rintro e w4 ⟨v_x0, v_x0', rfl, o_x0, o_x0', hb_w4⟩
  replace k_ref := k_ref.trans (kb hb_w4)
  replace k_ref' := k_ref'.trans (kb hb_w4)
  replace bref_0 := bcell hb_w4 bref_0
  replace bref_1 := bcell hb_w4 bref_1
  replace bref_2 := bcell hb_w4 bref_2
  replace hb := btrans hb hb_w4
  have z_w4 := hb_w4.size
  obtain ⟨A_x0, c_x0, rfl, _⟩ := o_x0.see
  have k_x0 : Keep (fun k => (w3.alloc (Obj.cells #[.slice A_ref (RLeastAcceptor ms0 f0 ls0).1.1.length c_ref, .int .i64 (RLeastAcceptor ms0 f0 ls0).1.2.1, .slice A_ref' (RLeastAcceptor ms0 f0 ls0).1.2.2.length c_ref'] 30)).heap.size ≤ k ∧ k < w4.heap.size) w4 w4 := Keep.refl _ _
  obtain ⟨A_x0', c_x0', rfl, _⟩ := o_x0'.see
  have k_x0' : Keep (fun k => (w3.alloc (Obj.cells #[.slice A_ref (RLeastAcceptor ms0 f0 ls0).1.1.length c_ref, .int .i64 (RLeastAcceptor ms0 f0 ls0).1.2.1, .slice A_ref' (RLeastAcceptor ms0 f0 ls0).1.2.2.length c_ref'] 30)).heap.size ≤ k ∧ k < w4.heap.size) w4 w4 := Keep.refl _ _
  clear y0 y1 y2
  replace k_ref := k_ref.alloc (Obj.cells #[.slice A_x0 ms0.length c_x0, .int .i64 f0, .slice A_x0' ls0.length c_x0'] 30)
  replace k_ref' := k_ref'.alloc (Obj.cells #[.slice A_x0 ms0.length c_x0, .int .i64 f0, .slice A_x0' ls0.length c_x0'] 30)
  replace k_x0 := k_x0.alloc (Obj.cells #[.slice A_x0 ms0.length c_x0, .int .i64 f0, .slice A_x0' ls0.length c_x0'] 30)
  replace k_x0' := k_x0'.alloc (Obj.cells #[.slice A_x0 ms0.length c_x0, .int .i64 f0, .slice A_x0' ls0.length c_x0'] 30)
  replace bref_0 := bcell (kbelow w4 (Obj.cells #[.slice A_x0 ms0.length c_x0, .int .i64 f0, .slice A_x0' ls0.length c_x0'] 30)) bref_0
  replace bref_1 := bcell (kbelow w4 (Obj.cells #[.slice A_x0 ms0.length c_x0, .int .i64 f0, .slice A_x0' ls0.length c_x0'] 30)) bref_1
  replace bref_2 := bcell (kbelow w4 (Obj.cells #[.slice A_x0 ms0.length c_x0, .int .i64 f0, .slice A_x0' ls0.length c_x0'] 30)) bref_2
  replace hb := btrans hb (kbelow w4 (Obj.cells #[.slice A_x0 ms0.length c_x0, .int .i64 f0, .slice A_x0' ls0.length c_x0'] 30))
  have z_a4_3 := (kbelow w4 (Obj.cells #[.slice A_x0 ms0.length c_x0, .int .i64 f0, .slice A_x0' ls0.length c_x0'] 30)).size
  have b0_0 : (w4.alloc (Obj.cells #[.slice A_x0 ms0.length c_x0, .int .i64 f0, .slice A_x0' ls0.length c_x0'] 30)).cell? ⟨w4.heap.size, 0, none⟩ = some (.slice A_x0 ms0.length c_x0) := by simp [go_sem]
  have b0_1 : (w4.alloc (Obj.cells #[.slice A_x0 ms0.length c_x0, .int .i64 f0, .slice A_x0' ls0.length c_x0'] 30)).cell? ⟨w4.heap.size, 1, none⟩ = some (.int .i64 f0) := by simp [go_sem]
  have b0_2 : (w4.alloc (Obj.cells #[.slice A_x0 ms0.length c_x0, .int .i64 f0, .slice A_x0' ls0.length c_x0'] 30)).cell? ⟨w4.heap.size, 2, none⟩ = some (.slice A_x0' ls0.length c_x0') := by simp [go_sem]
  go_wp2_with fail
  refine (implLeastAcceptor_l (o_x0.keep (fun k hk => o_x0.lt k hk) k_x0).see' (by omega) o_x0.nilok (o_x0'.keep (fun k hk => o_x0'.lt k hk) k_x0').see' (by omega) o_x0'.nilok).mono ?_
  rintro e w5 ⟨v_g, v_g', rfl, o_g, o_g', hb_w5⟩
  replace k_ref := k_ref.trans (kb hb_w5)
  replace k_ref' := k_ref'.trans (kb hb_w5)
  replace k_x0 := k_x0.trans (kb hb_w5)
  replace k_x0' := k_x0'.trans (kb hb_w5)
  replace bref_0 := bcell hb_w5 bref_0
  replace bref_1 := bcell hb_w5 bref_1
  replace bref_2 := bcell hb_w5 bref_2
  replace b0_0 := bcell hb_w5 b0_0
  replace b0_1 := bcell hb_w5 b0_1
  replace b0_2 := bcell hb_w5 b0_2
  replace hb := btrans hb hb_w5
  have z_w5 := hb_w5.size
  obtain ⟨A_g, c_g, rfl, _⟩ := o_g.see
  have k_g : Keep (fun k => (w4.alloc (Obj.cells #[.slice A_x0 ms0.length c_x0, .int .i64 f0, .slice A_x0' ls0.length c_x0'] 30)).heap.size ≤ k ∧ k < w5.heap.size) w5 w5 := Keep.refl _ _
  obtain ⟨A_g', c_g', rfl, _⟩ := o_g'.see
  have k_g' : Keep (fun k => (w4.alloc (Obj.cells #[.slice A_x0 ms0.length c_x0, .int .i64 f0, .slice A_x0' ls0.length c_x0'] 30)).heap.size ≤ k ∧ k < w5.heap.size) w5 w5 := Keep.refl _ _
  replace k_ref := k_ref.alloc (Obj.cells #[.slice A_g (RLeastAcceptor ms0 f0 ls0).1.1.length c_g, .int .i64 (RLeastAcceptor ms0 f0 ls0).1.2.1, .slice A_g' (RLeastAcceptor ms0 f0 ls0).1.2.2.length c_g'] 30)
  replace k_ref' := k_ref'.alloc (Obj.cells #[.slice A_g (RLeastAcceptor ms0 f0 ls0).1.1.length c_g, .int .i64 (RLeastAcceptor ms0 f0 ls0).1.2.1, .slice A_g' (RLeastAcceptor ms0 f0 ls0).1.2.2.length c_g'] 30)
  replace k_x0 := k_x0.alloc (Obj.cells #[.slice A_g (RLeastAcceptor ms0 f0 ls0).1.1.length c_g, .int .i64 (RLeastAcceptor ms0 f0 ls0).1.2.1, .slice A_g' (RLeastAcceptor ms0 f0 ls0).1.2.2.length c_g'] 30)
  replace k_x0' := k_x0'.alloc (Obj.cells #[.slice A_g (RLeastAcceptor ms0 f0 ls0).1.1.length c_g, .int .i64 (RLeastAcceptor ms0 f0 ls0).1.2.1, .slice A_g' (RLeastAcceptor ms0 f0 ls0).1.2.2.length c_g'] 30)
  replace k_g := k_g.alloc (Obj.cells #[.slice A_g (RLeastAcceptor ms0 f0 ls0).1.1.length c_g, .int .i64 (RLeastAcceptor ms0 f0 ls0).1.2.1, .slice A_g' (RLeastAcceptor ms0 f0 ls0).1.2.2.length c_g'] 30)
  replace k_g' := k_g'.alloc (Obj.cells #[.slice A_g (RLeastAcceptor ms0 f0 ls0).1.1.length c_g, .int .i64 (RLeastAcceptor ms0 f0 ls0).1.2.1, .slice A_g' (RLeastAcceptor ms0 f0 ls0).1.2.2.length c_g'] 30)
  replace bref_0 := bcell (kbelow w5 (Obj.cells #[.slice A_g (RLeastAcceptor ms0 f0 ls0).1.1.length c_g, .int .i64 (RLeastAcceptor ms0 f0 ls0).1.2.1, .slice A_g' (RLeastAcceptor ms0 f0 ls0).1.2.2.length c_g'] 30)) bref_0
  replace bref_1 := bcell (kbelow w5 (Obj.cells #[.slice A_g (RLeastAcceptor ms0 f0 ls0).1.1.length c_g, .int .i64 (RLeastAcceptor ms0 f0 ls0).1.2.1, .slice A_g' (RLeastAcceptor ms0 f0 ls0).1.2.2.length c_g'] 30)) bref_1
  replace bref_2 := bcell (kbelow w5 (Obj.cells #[.slice A_g (RLeastAcceptor ms0 f0 ls0).1.1.length c_g, .int .i64 (RLeastAcceptor ms0 f0 ls0).1.2.1, .slice A_g' (RLeastAcceptor ms0 f0 ls0).1.2.2.length c_g'] 30)) bref_2
  replace b0_0 := bcell (kbelow w5 (Obj.cells #[.slice A_g (RLeastAcceptor ms0 f0 ls0).1.1.length c_g, .int .i64 (RLeastAcceptor ms0 f0 ls0).1.2.1, .slice A_g' (RLeastAcceptor ms0 f0 ls0).1.2.2.length c_g'] 30)) b0_0
  replace b0_1 := bcell (kbelow w5 (Obj.cells #[.slice A_g (RLeastAcceptor ms0 f0 ls0).1.1.length c_g, .int .i64 (RLeastAcceptor ms0 f0 ls0).1.2.1, .slice A_g' (RLeastAcceptor ms0 f0 ls0).1.2.2.length c_g'] 30)) b0_1
  replace b0_2 := bcell (kbelow w5 (Obj.cells #[.slice A_g (RLeastAcceptor ms0 f0 ls0).1.1.length c_g, .int .i64 (RLeastAcceptor ms0 f0 ls0).1.2.1, .slice A_g' (RLeastAcceptor ms0 f0 ls0).1.2.2.length c_g'] 30)) b0_2
  replace hb := btrans hb (kbelow w5 (Obj.cells #[.slice A_g (RLeastAcceptor ms0 f0 ls0).1.1.length c_g, .int .i64 (RLeastAcceptor ms0 f0 ls0).1.2.1, .slice A_g' (RLeastAcceptor ms0 f0 ls0).1.2.2.length c_g'] 30))
  have z_a5_6 := (kbelow w5 (Obj.cells #[.slice A_g (RLeastAcceptor ms0 f0 ls0).1.1.length c_g, .int .i64 (RLeastAcceptor ms0 f0 ls0).1.2.1, .slice A_g' (RLeastAcceptor ms0 f0 ls0).1.2.2.length c_g'] 30)).size
  have zs_g : w5.heap.size < (w5.alloc (Obj.cells #[.slice A_g (RLeastAcceptor ms0 f0 ls0).1.1.length c_g, .int .i64 (RLeastAcceptor ms0 f0 ls0).1.2.1, .slice A_g' (RLeastAcceptor ms0 f0 ls0).1.2.2.length c_g'] 30)).heap.size := by rw [World.size_alloc]; exact Nat.lt_succ_self _
  have bg_0 : (w5.alloc (Obj.cells #[.slice A_g (RLeastAcceptor ms0 f0 ls0).1.1.length c_g, .int .i64 (RLeastAcceptor ms0 f0 ls0).1.2.1, .slice A_g' (RLeastAcceptor ms0 f0 ls0).1.2.2.length c_g'] 30)).cell? ⟨w5.heap.size, 0, none⟩ = some (.slice A_g (RLeastAcceptor ms0 f0 ls0).1.1.length c_g) := by simp [go_sem]
  have bg_1 : (w5.alloc (Obj.cells #[.slice A_g (RLeastAcceptor ms0 f0 ls0).1.1.length c_g, .int .i64 (RLeastAcceptor ms0 f0 ls0).1.2.1, .slice A_g' (RLeastAcceptor ms0 f0 ls0).1.2.2.length c_g'] 30)).cell? ⟨w5.heap.size, 1, none⟩ = some (.int .i64 (RLeastAcceptor ms0 f0 ls0).1.2.1) := by simp [go_sem]
  have bg_2 : (w5.alloc (Obj.cells #[.slice A_g (RLeastAcceptor ms0 f0 ls0).1.1.length c_g, .int .i64 (RLeastAcceptor ms0 f0 ls0).1.2.1, .slice A_g' (RLeastAcceptor ms0 f0 ls0).1.2.2.length c_g'] 30)).cell? ⟨w5.heap.size, 2, none⟩ = some (.slice A_g' (RLeastAcceptor ms0 f0 ls0).1.2.2.length c_g') := by simp [go_sem]
  go_wp2_with fail
  refine (valB (eqAcceptor_c A_g A_g' A_ref A_ref' c_g c_g' c_ref c_ref' (RLeastAcceptor ms0 f0 ls0).1.1 (RLeastAcceptor ms0 f0 ls0).1.1 (RLeastAcceptor ms0 f0 ls0).1.2.1 (RLeastAcceptor ms0 f0 ls0).1.2.1 (RLeastAcceptor ms0 f0 ls0).1.2.2 (RLeastAcceptor ms0 f0 ls0).1.2.2 _ (o_g.keep (fun k hk => o_g.lt k hk) k_g).see' (by have := (RLeastAcceptor_len ms0 f0 ls0).1; omega) (o_g'.keep (fun k hk => o_g'.lt k hk) k_g').see' (by have := (RLeastAcceptor_len ms0 f0 ls0).2; omega) (o_ref.keep (fun k hk => o_ref.lt k hk) k_ref).see' (o_ref'.keep (fun k hk => o_ref'.lt k hk) k_ref').see') (eqAcc_refl _ _ _)).mono ?_
  rintro e w6 ⟨rfl, hb_w6⟩
  replace k_ref := k_ref.trans (kb hb_w6)
  replace k_ref' := k_ref'.trans (kb hb_w6)
  replace k_x0 := k_x0.trans (kb hb_w6)
  replace k_x0' := k_x0'.trans (kb hb_w6)
  replace k_g := k_g.trans (kb hb_w6)
  replace k_g' := k_g'.trans (kb hb_w6)
  replace bref_0 := bcell hb_w6 bref_0
  replace bref_1 := bcell hb_w6 bref_1
  replace bref_2 := bcell hb_w6 bref_2
  replace b0_0 := bcell hb_w6 b0_0
  replace b0_1 := bcell hb_w6 b0_1
  replace b0_2 := bcell hb_w6 b0_2
  replace bg_0 := bcell hb_w6 bg_0
  replace bg_1 := bcell hb_w6 bg_1
  replace bg_2 := bcell hb_w6 bg_2
  replace hb := btrans hb hb_w6
  have z_w6 := hb_w6.size
  have y0 := bcell hb q0_0
  have y1 := bcell hb q0_1
  have y2 := bcell hb q0_2
  have sx := (o_x0.keep (fun k hk => o_x0.lt k hk) k_x0).see'
  have sx' := (o_x0'.keep (fun k hk => o_x0'.lt k hk) k_x0').see'
  go_wp2_with fail
  go_region_held3 (fun w' => w'.cell? ⟨w4.heap.size, 0, none⟩ = some (.slice A_x0 ms0.length c_x0) ∧ w'.cell? ⟨w4.heap.size, 1, none⟩ = some (.int .i64 f0) ∧ w'.cell? ⟨w4.heap.size, 2, none⟩ = some (.slice A_x0' ls0.length c_x0') ∧ w'.cell? ⟨w.heap.size, 0, none⟩ = some (.slice A0 ms0.length c0) ∧ w'.cell? ⟨w.heap.size, 1, none⟩ = some (.int .i64 f0) ∧ w'.cell? ⟨w.heap.size, 2, none⟩ = some (.slice B0 ls0.length d0)) (go_keep) (first | (go_at_call 17; refine (toAcceptor_c A0 B0 c0 d0 ms0 f0 ls0 _ (h0.below (btrans k0 hb.drew)) (by omega) (g0.below (btrans k0 hb.drew)) (by omega)).mono ?_; rintro e w7 ⟨v, v', rfl, jo, jo', hb_w7⟩; obtain ⟨D, cD, rfl, js1⟩ := jo.see; obtain ⟨D', cD', rfl, js2⟩ := jo'.see; replace hb_w7 := bdr hb_w7; have b0_06 := bcell hb_w7 b0_0; have b0_16 := bcell hb_w7 b0_1; have b0_26 := bcell hb_w7 b0_2; have y06 := bcell hb_w7 y0; have y16 := bcell hb_w7 y1; have y26 := bcell hb_w7 y2) | (go_at_call 19; refine (valB (eqAcceptor_c A_x0 A_x0' D D' c_x0 c_x0' cD cD' ms0 ms0 f0 f0 ls0 ls0 _ (sx.below hb_w7) (by omega) (sx'.below hb_w7) (by omega) js1 js2) (eqAcc_refl _ _ _)).mono ?_; rintro e w8 ⟨rfl, hb_w8⟩; have b0_07 := bcell hb_w8 b0_06; have b0_17 := bcell hb_w8 b0_16; have b0_27 := bcell hb_w8 b0_26; have y07 := bcell hb_w8 y06; have y17 := bcell hb_w8 y16; have y27 := bcell hb_w8 y26))
  replace hb_w8 := btrans hb_w7 hb_w8
  clear sx sx' y0 y1 y2 b0_06 b0_07 b0_16 b0_17 b0_26 b0_27 y06 y07 y16 y17 y26 y27
  replace k_ref := k_ref.trans (kb hb_w8)
  replace k_ref' := k_ref'.trans (kb hb_w8)
  replace k_x0 := k_x0.trans (kb hb_w8)
  replace k_x0' := k_x0'.trans (kb hb_w8)
  replace k_g := k_g.trans (kb hb_w8)
  replace k_g' := k_g'.trans (kb hb_w8)
  replace bref_0 := bcell hb_w8 bref_0
  replace bref_1 := bcell hb_w8 bref_1
  replace bref_2 := bcell hb_w8 bref_2
  replace b0_0 := bcell hb_w8 b0_0
  replace b0_1 := bcell hb_w8 b0_1
  replace b0_2 := bcell hb_w8 b0_2
  replace bg_0 := bcell hb_w8 bg_0
  replace bg_1 := bcell hb_w8 bg_1
  replace bg_2 := bcell hb_w8 bg_2
  replace hb := btrans hb hb_w8
  have z_w8 := hb_w8.size
  go_wp2_with fail
  refine (markAcceptor_r A_x0 A_x0' c_x0 c_x0' _ f0 _ 1 _ _ _ (o_x0.keep (fun k hk => o_x0.lt k hk) k_x0) (by omega) (o_x0'.keep (fun k hk => o_x0'.lt k hk) k_x0') (by omega) (by omega) (by omega)).mono ?_
  rintro e w9 ⟨r_x0, rfl, r0_x0, r1_x0, K_w9⟩
  have hz0 := hb.size
  replace k_ref := k_ref.trans (K_w9.mono (fun k h1 h2 => ⟨apart (fun k hk => o_x0.lt k hk) (by omega) k h1 h2, apart (fun k hk => o_x0'.lt k hk) (by omega) k h1 h2⟩))
  replace k_ref' := k_ref'.trans (K_w9.mono (fun k h1 h2 => ⟨apart (fun k hk => o_x0.lt k hk) (by omega) k h1 h2, apart (fun k hk => o_x0'.lt k hk) (by omega) k h1 h2⟩))
  replace k_g := k_g.trans (K_w9.mono (fun k h1 h2 => ⟨apart (fun k hk => o_x0.lt k hk) (by omega) k h1 h2, apart (fun k hk => o_x0'.lt k hk) (by omega) k h1 h2⟩))
  replace k_g' := k_g'.trans (K_w9.mono (fun k h1 h2 => ⟨apart (fun k hk => o_x0.lt k hk) (by omega) k h1 h2, apart (fun k hk => o_x0'.lt k hk) (by omega) k h1 h2⟩))
  replace bref_0 := K_w9.cell (p := ⟨w3.heap.size, 0, none⟩) ⟨(apart1 (fun k hk => o_x0.lt k hk) (by first | omega | (dsimp only; omega))), (apart1 (fun k hk => o_x0'.lt k hk) (by first | omega | (dsimp only; omega)))⟩ bref_0
  replace bref_1 := K_w9.cell (p := ⟨w3.heap.size, 1, none⟩) ⟨(apart1 (fun k hk => o_x0.lt k hk) (by first | omega | (dsimp only; omega))), (apart1 (fun k hk => o_x0'.lt k hk) (by first | omega | (dsimp only; omega)))⟩ bref_1
  replace bref_2 := K_w9.cell (p := ⟨w3.heap.size, 2, none⟩) ⟨(apart1 (fun k hk => o_x0.lt k hk) (by first | omega | (dsimp only; omega))), (apart1 (fun k hk => o_x0'.lt k hk) (by first | omega | (dsimp only; omega)))⟩ bref_2
  replace bg_0 := K_w9.cell (p := ⟨w5.heap.size, 0, none⟩) ⟨(apart1 (fun k hk => o_x0.lt k hk) (by first | omega | (dsimp only; omega))), (apart1 (fun k hk => o_x0'.lt k hk) (by first | omega | (dsimp only; omega)))⟩ bg_0
  replace bg_1 := K_w9.cell (p := ⟨w5.heap.size, 1, none⟩) ⟨(apart1 (fun k hk => o_x0.lt k hk) (by first | omega | (dsimp only; omega))), (apart1 (fun k hk => o_x0'.lt k hk) (by first | omega | (dsimp only; omega)))⟩ bg_1
  replace bg_2 := K_w9.cell (p := ⟨w5.heap.size, 2, none⟩) ⟨(apart1 (fun k hk => o_x0.lt k hk) (by first | omega | (dsimp only; omega))), (apart1 (fun k hk => o_x0'.lt k hk) (by first | omega | (dsimp only; omega)))⟩ bg_2
  replace hb := hb.trans (K_w9.below hz0 (fun k h1 => ⟨apart0 (fun k hk => o_x0.lt k hk) (by omega) k h1, apart0 (fun k hk => o_x0'.lt k hk) (by omega) k h1⟩))
  have z_w9 := K_w9.size
  clear hz0
  have dk : decide (r_x0 < 0) = false := decide_eq_false (by omega)
  go_wp2_with fail
  refine (valB (eqAcceptor_c A_g A_g' A_ref A_ref' c_g c_g' c_ref c_ref' (RLeastAcceptor ms0 f0 ls0).1.1 (RLeastAcceptor ms0 f0 ls0).1.1 (RLeastAcceptor ms0 f0 ls0).1.2.1 (RLeastAcceptor ms0 f0 ls0).1.2.1 (RLeastAcceptor ms0 f0 ls0).1.2.2 (RLeastAcceptor ms0 f0 ls0).1.2.2 _ (o_g.keep (fun k hk => o_g.lt k hk) k_g).see' (by have := (RLeastAcceptor_len ms0 f0 ls0).1; omega) (o_g'.keep (fun k hk => o_g'.lt k hk) k_g').see' (by have := (RLeastAcceptor_len ms0 f0 ls0).2; omega) (o_ref.keep (fun k hk => o_ref.lt k hk) k_ref).see' (o_ref'.keep (fun k hk => o_ref'.lt k hk) k_ref').see') (eqAcc_refl _ _ _)).mono ?_
  rintro e w10 ⟨rfl, hb_w10⟩
  replace k_ref := k_ref.trans (kb hb_w10)
  replace k_ref' := k_ref'.trans (kb hb_w10)
  replace k_g := k_g.trans (kb hb_w10)
  replace k_g' := k_g'.trans (kb hb_w10)
  replace bref_0 := bcell hb_w10 bref_0
  replace bref_1 := bcell hb_w10 bref_1
  replace bref_2 := bcell hb_w10 bref_2
  replace bg_0 := bcell hb_w10 bg_0
  replace bg_1 := bcell hb_w10 bg_1
  replace bg_2 := bcell hb_w10 bg_2
  replace hb := btrans hb hb_w10
  have z_w10 := hb_w10.size
  go_wp2_with fail
  obtain ⟨ln, ln'⟩ := RLeastAcceptor_len ms0 f0 ls0
  refine (markAcceptor_c A_g A_g' c_g c_g' (RLeastAcceptor ms0 f0 ls0).1.1 (RLeastAcceptor ms0 f0 ls0).1.2.1 (RLeastAcceptor ms0 f0 ls0).1.2.2 _ _ _ (o_g.keep (fun k hk => o_g.lt k hk) k_g) (by omega) (o_g'.keep (fun k hk => o_g'.lt k hk) k_g') (by omega)).mono ?_
  rintro e w11 ⟨rfl, o_g2, o_g2', K_w11⟩
  have hz0 := hb.size
  replace k_ref := k_ref.trans (K_w11.mono (fun k h1 h2 => ⟨apart (fun k hk => o_g.lt k hk) (by omega) k h1 h2, apart (fun k hk => o_g'.lt k hk) (by omega) k h1 h2⟩))
  replace k_ref' := k_ref'.trans (K_w11.mono (fun k h1 h2 => ⟨apart (fun k hk => o_g.lt k hk) (by omega) k h1 h2, apart (fun k hk => o_g'.lt k hk) (by omega) k h1 h2⟩))
  replace bref_0 := K_w11.cell (p := ⟨w3.heap.size, 0, none⟩) ⟨(apart1 (fun k hk => o_g.lt k hk) (by first | omega | (dsimp only; omega))), (apart1 (fun k hk => o_g'.lt k hk) (by first | omega | (dsimp only; omega)))⟩ bref_0
  replace bref_1 := K_w11.cell (p := ⟨w3.heap.size, 1, none⟩) ⟨(apart1 (fun k hk => o_g.lt k hk) (by first | omega | (dsimp only; omega))), (apart1 (fun k hk => o_g'.lt k hk) (by first | omega | (dsimp only; omega)))⟩ bref_1
  replace bref_2 := K_w11.cell (p := ⟨w3.heap.size, 2, none⟩) ⟨(apart1 (fun k hk => o_g.lt k hk) (by first | omega | (dsimp only; omega))), (apart1 (fun k hk => o_g'.lt k hk) (by first | omega | (dsimp only; omega)))⟩ bref_2
  replace bg_0 := K_w11.cell (p := ⟨w5.heap.size, 0, none⟩) ⟨(apart1 (fun k hk => o_g.lt k hk) (by first | omega | (dsimp only; omega))), (apart1 (fun k hk => o_g'.lt k hk) (by first | omega | (dsimp only; omega)))⟩ bg_0
  replace bg_1 := K_w11.cell (p := ⟨w5.heap.size, 1, none⟩) ⟨(apart1 (fun k hk => o_g.lt k hk) (by first | omega | (dsimp only; omega))), (apart1 (fun k hk => o_g'.lt k hk) (by first | omega | (dsimp only; omega)))⟩ bg_1
  replace bg_2 := K_w11.cell (p := ⟨w5.heap.size, 2, none⟩) ⟨(apart1 (fun k hk => o_g.lt k hk) (by first | omega | (dsimp only; omega))), (apart1 (fun k hk => o_g'.lt k hk) (by first | omega | (dsimp only; omega)))⟩ bg_2
  replace hb := hb.trans (K_w11.below hz0 (fun k h1 => ⟨apart0 (fun k hk => o_g.lt k hk) (by omega) k h1, apart0 (fun k hk => o_g'.lt k hk) (by omega) k h1⟩))
  have z_w11 := K_w11.size
  clear hz0
  have s_g := o_g2.see'
  have s_g' := o_g2'.see'
  have nn : ¬ ((1 : Int) + ((RLeastAcceptor ms0 f0 ls0).1.1.length : Int) * 6 + ((RLeastAcceptor ms0 f0 ls0).1.2.2.length : Int) < 0) := by omega
  go_wp2_with fail
  refine (heldAcceptor_c A_g A_g' c_g c_g' (RLeastAcceptor ms0 f0 ls0).1.1.length (RLeastAcceptor ms0 f0 ls0).1.2.2.length (RLeastAcceptor ms0 f0 ls0).1.2.1 _ s_g (by omega) s_g' (by omega)).mono ?_
  rintro e w12 ⟨rfl, hb_w12⟩
  replace k_ref := k_ref.trans (kb hb_w12)
  replace k_ref' := k_ref'.trans (kb hb_w12)
  replace bref_0 := bcell hb_w12 bref_0
  replace bref_1 := bcell hb_w12 bref_1
  replace bref_2 := bcell hb_w12 bref_2
  replace bg_0 := bcell hb_w12 bg_0
  replace bg_1 := bcell hb_w12 bg_1
  replace bg_2 := bcell hb_w12 bg_2
  replace hb := btrans hb hb_w12
  have z_w12 := hb_w12.size
  replace s_g := s_g.below hb_w12
  replace s_g' := s_g'.below hb_w12
  have y0 := bcell hb q0_0
  have y1 := bcell hb q0_1
  have y2 := bcell hb q0_2
  go_wp2_with fail
  refine (toAcceptor_c A0 B0 c0 d0 ms0 f0 ls0 _ (h0.below (btrans k0 hb)) (by omega) (g0.below (btrans k0 hb)) (by omega)).mono ?_
  rintro e w13 ⟨v_u0, v_u0', rfl, o_u0, o_u0', hb_w13⟩
  replace k_ref := k_ref.trans (kb hb_w13)
  replace k_ref' := k_ref'.trans (kb hb_w13)
  replace bref_0 := bcell hb_w13 bref_0
  replace bref_1 := bcell hb_w13 bref_1
  replace bref_2 := bcell hb_w13 bref_2
  replace bg_0 := bcell hb_w13 bg_0
  replace bg_1 := bcell hb_w13 bg_1
  replace bg_2 := bcell hb_w13 bg_2
  replace hb := btrans hb hb_w13
  have z_w13 := hb_w13.size
  replace s_g := s_g.below hb_w13
  replace s_g' := s_g'.below hb_w13
  obtain ⟨A_u0, c_u0, rfl, _⟩ := o_u0.see
  have k_u0 : Keep (fun k => w12.heap.size ≤ k ∧ k < w13.heap.size) w13 w13 := Keep.refl _ _
  obtain ⟨A_u0', c_u0', rfl, _⟩ := o_u0'.see
  have k_u0' : Keep (fun k => w12.heap.size ≤ k ∧ k < w13.heap.size) w13 w13 := Keep.refl _ _
  clear y0 y1 y2
  go_wp2_with fail
  refine (implLeastAcceptor_l (o_u0.keep (fun k hk => o_u0.lt k hk) k_u0).see' (by omega) o_u0.nilok (o_u0'.keep (fun k hk => o_u0'.lt k hk) k_u0').see' (by omega) o_u0'.nilok).mono ?_
  rintro e w14 ⟨v_hh, v_hh', rfl, o_hh, o_hh', hb_w14⟩
  replace k_ref := k_ref.trans (kb hb_w14)
  replace k_ref' := k_ref'.trans (kb hb_w14)
  replace k_u0 := k_u0.trans (kb hb_w14)
  replace k_u0' := k_u0'.trans (kb hb_w14)
  replace bref_0 := bcell hb_w14 bref_0
  replace bref_1 := bcell hb_w14 bref_1
  replace bref_2 := bcell hb_w14 bref_2
  replace bg_0 := bcell hb_w14 bg_0
  replace bg_1 := bcell hb_w14 bg_1
  replace bg_2 := bcell hb_w14 bg_2
  replace hb := btrans hb hb_w14
  have z_w14 := hb_w14.size
  replace s_g := s_g.below hb_w14
  replace s_g' := s_g'.below hb_w14
  obtain ⟨A_hh, c_hh, rfl, _⟩ := o_hh.see
  have k_hh : Keep (fun k => w13.heap.size ≤ k ∧ k < w14.heap.size) w14 w14 := Keep.refl _ _
  obtain ⟨A_hh', c_hh', rfl, _⟩ := o_hh'.see
  have k_hh' : Keep (fun k => w13.heap.size ≤ k ∧ k < w14.heap.size) w14 w14 := Keep.refl _ _
  replace k_ref := k_ref.alloc (Obj.cells #[.slice A_hh (RLeastAcceptor ms0 f0 ls0).1.1.length c_hh, .int .i64 (RLeastAcceptor ms0 f0 ls0).1.2.1, .slice A_hh' (RLeastAcceptor ms0 f0 ls0).1.2.2.length c_hh'] 30)
  replace k_ref' := k_ref'.alloc (Obj.cells #[.slice A_hh (RLeastAcceptor ms0 f0 ls0).1.1.length c_hh, .int .i64 (RLeastAcceptor ms0 f0 ls0).1.2.1, .slice A_hh' (RLeastAcceptor ms0 f0 ls0).1.2.2.length c_hh'] 30)
  replace k_u0 := k_u0.alloc (Obj.cells #[.slice A_hh (RLeastAcceptor ms0 f0 ls0).1.1.length c_hh, .int .i64 (RLeastAcceptor ms0 f0 ls0).1.2.1, .slice A_hh' (RLeastAcceptor ms0 f0 ls0).1.2.2.length c_hh'] 30)
  replace k_u0' := k_u0'.alloc (Obj.cells #[.slice A_hh (RLeastAcceptor ms0 f0 ls0).1.1.length c_hh, .int .i64 (RLeastAcceptor ms0 f0 ls0).1.2.1, .slice A_hh' (RLeastAcceptor ms0 f0 ls0).1.2.2.length c_hh'] 30)
  replace k_hh := k_hh.alloc (Obj.cells #[.slice A_hh (RLeastAcceptor ms0 f0 ls0).1.1.length c_hh, .int .i64 (RLeastAcceptor ms0 f0 ls0).1.2.1, .slice A_hh' (RLeastAcceptor ms0 f0 ls0).1.2.2.length c_hh'] 30)
  replace k_hh' := k_hh'.alloc (Obj.cells #[.slice A_hh (RLeastAcceptor ms0 f0 ls0).1.1.length c_hh, .int .i64 (RLeastAcceptor ms0 f0 ls0).1.2.1, .slice A_hh' (RLeastAcceptor ms0 f0 ls0).1.2.2.length c_hh'] 30)
  replace bref_0 := bcell (kbelow w14 (Obj.cells #[.slice A_hh (RLeastAcceptor ms0 f0 ls0).1.1.length c_hh, .int .i64 (RLeastAcceptor ms0 f0 ls0).1.2.1, .slice A_hh' (RLeastAcceptor ms0 f0 ls0).1.2.2.length c_hh'] 30)) bref_0
  replace bref_1 := bcell (kbelow w14 (Obj.cells #[.slice A_hh (RLeastAcceptor ms0 f0 ls0).1.1.length c_hh, .int .i64 (RLeastAcceptor ms0 f0 ls0).1.2.1, .slice A_hh' (RLeastAcceptor ms0 f0 ls0).1.2.2.length c_hh'] 30)) bref_1
  replace bref_2 := bcell (kbelow w14 (Obj.cells #[.slice A_hh (RLeastAcceptor ms0 f0 ls0).1.1.length c_hh, .int .i64 (RLeastAcceptor ms0 f0 ls0).1.2.1, .slice A_hh' (RLeastAcceptor ms0 f0 ls0).1.2.2.length c_hh'] 30)) bref_2
  replace bg_0 := bcell (kbelow w14 (Obj.cells #[.slice A_hh (RLeastAcceptor ms0 f0 ls0).1.1.length c_hh, .int .i64 (RLeastAcceptor ms0 f0 ls0).1.2.1, .slice A_hh' (RLeastAcceptor ms0 f0 ls0).1.2.2.length c_hh'] 30)) bg_0
  replace bg_1 := bcell (kbelow w14 (Obj.cells #[.slice A_hh (RLeastAcceptor ms0 f0 ls0).1.1.length c_hh, .int .i64 (RLeastAcceptor ms0 f0 ls0).1.2.1, .slice A_hh' (RLeastAcceptor ms0 f0 ls0).1.2.2.length c_hh'] 30)) bg_1
  replace bg_2 := bcell (kbelow w14 (Obj.cells #[.slice A_hh (RLeastAcceptor ms0 f0 ls0).1.1.length c_hh, .int .i64 (RLeastAcceptor ms0 f0 ls0).1.2.1, .slice A_hh' (RLeastAcceptor ms0 f0 ls0).1.2.2.length c_hh'] 30)) bg_2
  replace hb := btrans hb (kbelow w14 (Obj.cells #[.slice A_hh (RLeastAcceptor ms0 f0 ls0).1.1.length c_hh, .int .i64 (RLeastAcceptor ms0 f0 ls0).1.2.1, .slice A_hh' (RLeastAcceptor ms0 f0 ls0).1.2.2.length c_hh'] 30))
  have z_a14_6 := (kbelow w14 (Obj.cells #[.slice A_hh (RLeastAcceptor ms0 f0 ls0).1.1.length c_hh, .int .i64 (RLeastAcceptor ms0 f0 ls0).1.2.1, .slice A_hh' (RLeastAcceptor ms0 f0 ls0).1.2.2.length c_hh'] 30)).size
  replace s_g := s_g.below (kbelow w14 (Obj.cells #[.slice A_hh (RLeastAcceptor ms0 f0 ls0).1.1.length c_hh, .int .i64 (RLeastAcceptor ms0 f0 ls0).1.2.1, .slice A_hh' (RLeastAcceptor ms0 f0 ls0).1.2.2.length c_hh'] 30))
  replace s_g' := s_g'.below (kbelow w14 (Obj.cells #[.slice A_hh (RLeastAcceptor ms0 f0 ls0).1.1.length c_hh, .int .i64 (RLeastAcceptor ms0 f0 ls0).1.2.1, .slice A_hh' (RLeastAcceptor ms0 f0 ls0).1.2.2.length c_hh'] 30))
  have zs_hh : w14.heap.size < (w14.alloc (Obj.cells #[.slice A_hh (RLeastAcceptor ms0 f0 ls0).1.1.length c_hh, .int .i64 (RLeastAcceptor ms0 f0 ls0).1.2.1, .slice A_hh' (RLeastAcceptor ms0 f0 ls0).1.2.2.length c_hh'] 30)).heap.size := by rw [World.size_alloc]; exact Nat.lt_succ_self _
  have bhh_0 : (w14.alloc (Obj.cells #[.slice A_hh (RLeastAcceptor ms0 f0 ls0).1.1.length c_hh, .int .i64 (RLeastAcceptor ms0 f0 ls0).1.2.1, .slice A_hh' (RLeastAcceptor ms0 f0 ls0).1.2.2.length c_hh'] 30)).cell? ⟨w14.heap.size, 0, none⟩ = some (.slice A_hh (RLeastAcceptor ms0 f0 ls0).1.1.length c_hh) := by simp [go_sem]
  have bhh_1 : (w14.alloc (Obj.cells #[.slice A_hh (RLeastAcceptor ms0 f0 ls0).1.1.length c_hh, .int .i64 (RLeastAcceptor ms0 f0 ls0).1.2.1, .slice A_hh' (RLeastAcceptor ms0 f0 ls0).1.2.2.length c_hh'] 30)).cell? ⟨w14.heap.size, 1, none⟩ = some (.int .i64 (RLeastAcceptor ms0 f0 ls0).1.2.1) := by simp [go_sem]
  have bhh_2 : (w14.alloc (Obj.cells #[.slice A_hh (RLeastAcceptor ms0 f0 ls0).1.1.length c_hh, .int .i64 (RLeastAcceptor ms0 f0 ls0).1.2.1, .slice A_hh' (RLeastAcceptor ms0 f0 ls0).1.2.2.length c_hh'] 30)).cell? ⟨w14.heap.size, 2, none⟩ = some (.slice A_hh' (RLeastAcceptor ms0 f0 ls0).1.2.2.length c_hh') := by simp [go_sem]
  go_wp2_with fail
  refine (valB (eqAcceptor_c A_hh A_hh' A_ref A_ref' c_hh c_hh' c_ref c_ref' (RLeastAcceptor ms0 f0 ls0).1.1 (RLeastAcceptor ms0 f0 ls0).1.1 (RLeastAcceptor ms0 f0 ls0).1.2.1 (RLeastAcceptor ms0 f0 ls0).1.2.1 (RLeastAcceptor ms0 f0 ls0).1.2.2 (RLeastAcceptor ms0 f0 ls0).1.2.2 _ (o_hh.keep (fun k hk => o_hh.lt k hk) k_hh).see' (by have := (RLeastAcceptor_len ms0 f0 ls0).1; omega) (o_hh'.keep (fun k hk => o_hh'.lt k hk) k_hh').see' (by have := (RLeastAcceptor_len ms0 f0 ls0).2; omega) (o_ref.keep (fun k hk => o_ref.lt k hk) k_ref).see' (o_ref'.keep (fun k hk => o_ref'.lt k hk) k_ref').see') (eqAcc_refl _ _ _)).mono ?_
  rintro e w15 ⟨rfl, hb_w15⟩
  replace k_ref := k_ref.trans (kb hb_w15)
  replace k_ref' := k_ref'.trans (kb hb_w15)
  replace k_hh := k_hh.trans (kb hb_w15)
  replace k_hh' := k_hh'.trans (kb hb_w15)
  replace bref_0 := bcell hb_w15 bref_0
  replace bref_1 := bcell hb_w15 bref_1
  replace bref_2 := bcell hb_w15 bref_2
  replace bg_0 := bcell hb_w15 bg_0
  replace bg_1 := bcell hb_w15 bg_1
  replace bg_2 := bcell hb_w15 bg_2
  replace bhh_0 := bcell hb_w15 bhh_0
  replace bhh_1 := bcell hb_w15 bhh_1
  replace bhh_2 := bcell hb_w15 bhh_2
  replace hb := btrans hb hb_w15
  have z_w15 := hb_w15.size
  replace s_g := s_g.below hb_w15
  replace s_g' := s_g'.below hb_w15
  go_wp2_with fail
  refine (heldAcceptor_c A_g A_g' c_g c_g' (RLeastAcceptor ms0 f0 ls0).1.1.length (RLeastAcceptor ms0 f0 ls0).1.2.2.length (RLeastAcceptor ms0 f0 ls0).1.2.1 _ s_g (by omega) s_g' (by omega)).mono ?_
  rintro e w16 ⟨rfl, hb_w16⟩
  replace k_ref := k_ref.trans (kb hb_w16)
  replace k_ref' := k_ref'.trans (kb hb_w16)
  replace k_hh := k_hh.trans (kb hb_w16)
  replace k_hh' := k_hh'.trans (kb hb_w16)
  replace bref_0 := bcell hb_w16 bref_0
  replace bref_1 := bcell hb_w16 bref_1
  replace bref_2 := bcell hb_w16 bref_2
  replace bg_0 := bcell hb_w16 bg_0
  replace bg_1 := bcell hb_w16 bg_1
  replace bg_2 := bcell hb_w16 bg_2
  replace bhh_0 := bcell hb_w16 bhh_0
  replace bhh_1 := bcell hb_w16 bhh_1
  replace bhh_2 := bcell hb_w16 bhh_2
  replace hb := btrans hb hb_w16
  have z_w16 := hb_w16.size
  replace s_g := s_g.below hb_w16
  replace s_g' := s_g'.below hb_w16
  go_wp2
  go_returns
  exact ⟨rfl, btrans k0 hb⟩
end Go.Proofs.Ytbodaefdaagelaa
