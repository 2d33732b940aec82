/- 'FnExactIsBelow' returns true, whatever it is given. No condition. -/
import Derived.Test.YtilfamenadaboaaIsBelow
import Derived.Test.YtilfamenadaboaaLawKit
namespace Go.Proofs.Ytilfamenadaboaa
set_option linter.unusedSimpArgs false
set_option linter.unusedVariables false
set_option linter.unusedSectionVars false
open Go.RowKit
set_option maxHeartbeats 8000000 in
theorem lawIsBelow_c {A0 : Option Addr} {c0 : Nat} {ms0 : List Mp} {m1 : Mp} {m2 : Mp} (w : World) (h0 : SeeMaps w A0 ms0) (n0 : ms0.length ≤ 9223372036854775807) :
    Calls Try.prog 4 #[.slice A0 ms0.length c0, .agg #[.int .i64 m1.p, .int .i64 m1.a, .int .i64 m1.b, .int .i64 m1.c, .int .i64 m1.d, .int .i64 m1.e], .agg #[.int .i64 m2.p, .int .i64 m2.a, .int .i64 m2.b, .int .i64 m2.c, .int .i64 m2.d, .int .i64 m2.e]] w fun e w' => e = .returned (.bool true) ∧ Below w.heap.size w w' := by
  have k0 : Below w.heap.size w ((w.alloc (Obj.cells #[.int .i64 m1.p, .int .i64 m1.a, .int .i64 m1.b, .int .i64 m1.c, .int .i64 m1.d, .int .i64 m1.e] 32)).alloc (Obj.cells #[.int .i64 m2.p, .int .i64 m2.a, .int .i64 m2.b, .int .i64 m2.c, .int .i64 m2.d, .int .i64 m2.e] 32)) := (by repeat' (first | (with_reducible exact Below.refl _ _) | (with_reducible assumption) | (with_reducible refine bdrewN ?_ _) | (with_reducible refine Below.alloc ?_ ?_ _) | (with_reducible refine Below.drew ?_) | (with_reducible refine Below.setCell ?_ ?_ _) | go_size))
  have q1_0 : ((w.alloc (Obj.cells #[.int .i64 m1.p, .int .i64 m1.a, .int .i64 m1.b, .int .i64 m1.c, .int .i64 m1.d, .int .i64 m1.e] 32)).alloc (Obj.cells #[.int .i64 m2.p, .int .i64 m2.a, .int .i64 m2.b, .int .i64 m2.c, .int .i64 m2.d, .int .i64 m2.e] 32)).cell? ⟨w.heap.size, 0, none⟩ = some (.int .i64 m1.p) := by simp [go_sem]
  have q1_1 : ((w.alloc (Obj.cells #[.int .i64 m1.p, .int .i64 m1.a, .int .i64 m1.b, .int .i64 m1.c, .int .i64 m1.d, .int .i64 m1.e] 32)).alloc (Obj.cells #[.int .i64 m2.p, .int .i64 m2.a, .int .i64 m2.b, .int .i64 m2.c, .int .i64 m2.d, .int .i64 m2.e] 32)).cell? ⟨w.heap.size, 1, none⟩ = some (.int .i64 m1.a) := by simp [go_sem]
  have q1_2 : ((w.alloc (Obj.cells #[.int .i64 m1.p, .int .i64 m1.a, .int .i64 m1.b, .int .i64 m1.c, .int .i64 m1.d, .int .i64 m1.e] 32)).alloc (Obj.cells #[.int .i64 m2.p, .int .i64 m2.a, .int .i64 m2.b, .int .i64 m2.c, .int .i64 m2.d, .int .i64 m2.e] 32)).cell? ⟨w.heap.size, 2, none⟩ = some (.int .i64 m1.b) := by simp [go_sem]
  have q1_3 : ((w.alloc (Obj.cells #[.int .i64 m1.p, .int .i64 m1.a, .int .i64 m1.b, .int .i64 m1.c, .int .i64 m1.d, .int .i64 m1.e] 32)).alloc (Obj.cells #[.int .i64 m2.p, .int .i64 m2.a, .int .i64 m2.b, .int .i64 m2.c, .int .i64 m2.d, .int .i64 m2.e] 32)).cell? ⟨w.heap.size, 3, none⟩ = some (.int .i64 m1.c) := by simp [go_sem]
  have q1_4 : ((w.alloc (Obj.cells #[.int .i64 m1.p, .int .i64 m1.a, .int .i64 m1.b, .int .i64 m1.c, .int .i64 m1.d, .int .i64 m1.e] 32)).alloc (Obj.cells #[.int .i64 m2.p, .int .i64 m2.a, .int .i64 m2.b, .int .i64 m2.c, .int .i64 m2.d, .int .i64 m2.e] 32)).cell? ⟨w.heap.size, 4, none⟩ = some (.int .i64 m1.d) := by simp [go_sem]
  have q1_5 : ((w.alloc (Obj.cells #[.int .i64 m1.p, .int .i64 m1.a, .int .i64 m1.b, .int .i64 m1.c, .int .i64 m1.d, .int .i64 m1.e] 32)).alloc (Obj.cells #[.int .i64 m2.p, .int .i64 m2.a, .int .i64 m2.b, .int .i64 m2.c, .int .i64 m2.d, .int .i64 m2.e] 32)).cell? ⟨w.heap.size, 5, none⟩ = some (.int .i64 m1.e) := by simp [go_sem]
  have q2_0 : ((w.alloc (Obj.cells #[.int .i64 m1.p, .int .i64 m1.a, .int .i64 m1.b, .int .i64 m1.c, .int .i64 m1.d, .int .i64 m1.e] 32)).alloc (Obj.cells #[.int .i64 m2.p, .int .i64 m2.a, .int .i64 m2.b, .int .i64 m2.c, .int .i64 m2.d, .int .i64 m2.e] 32)).cell? ⟨w.heap.size + 1, 0, none⟩ = some (.int .i64 m2.p) := by simp [go_sem]
  have q2_1 : ((w.alloc (Obj.cells #[.int .i64 m1.p, .int .i64 m1.a, .int .i64 m1.b, .int .i64 m1.c, .int .i64 m1.d, .int .i64 m1.e] 32)).alloc (Obj.cells #[.int .i64 m2.p, .int .i64 m2.a, .int .i64 m2.b, .int .i64 m2.c, .int .i64 m2.d, .int .i64 m2.e] 32)).cell? ⟨w.heap.size + 1, 1, none⟩ = some (.int .i64 m2.a) := by simp [go_sem]
  have q2_2 : ((w.alloc (Obj.cells #[.int .i64 m1.p, .int .i64 m1.a, .int .i64 m1.b, .int .i64 m1.c, .int .i64 m1.d, .int .i64 m1.e] 32)).alloc (Obj.cells #[.int .i64 m2.p, .int .i64 m2.a, .int .i64 m2.b, .int .i64 m2.c, .int .i64 m2.d, .int .i64 m2.e] 32)).cell? ⟨w.heap.size + 1, 2, none⟩ = some (.int .i64 m2.b) := by simp [go_sem]
  have q2_3 : ((w.alloc (Obj.cells #[.int .i64 m1.p, .int .i64 m1.a, .int .i64 m1.b, .int .i64 m1.c, .int .i64 m1.d, .int .i64 m1.e] 32)).alloc (Obj.cells #[.int .i64 m2.p, .int .i64 m2.a, .int .i64 m2.b, .int .i64 m2.c, .int .i64 m2.d, .int .i64 m2.e] 32)).cell? ⟨w.heap.size + 1, 3, none⟩ = some (.int .i64 m2.c) := by simp [go_sem]
  have q2_4 : ((w.alloc (Obj.cells #[.int .i64 m1.p, .int .i64 m1.a, .int .i64 m1.b, .int .i64 m1.c, .int .i64 m1.d, .int .i64 m1.e] 32)).alloc (Obj.cells #[.int .i64 m2.p, .int .i64 m2.a, .int .i64 m2.b, .int .i64 m2.c, .int .i64 m2.d, .int .i64 m2.e] 32)).cell? ⟨w.heap.size + 1, 4, none⟩ = some (.int .i64 m2.d) := by simp [go_sem]
  have q2_5 : ((w.alloc (Obj.cells #[.int .i64 m1.p, .int .i64 m1.a, .int .i64 m1.b, .int .i64 m1.c, .int .i64 m1.d, .int .i64 m1.e] 32)).alloc (Obj.cells #[.int .i64 m2.p, .int .i64 m2.a, .int .i64 m2.b, .int .i64 m2.c, .int .i64 m2.d, .int .i64 m2.e] 32)).cell? ⟨w.heap.size + 1, 5, none⟩ = some (.int .i64 m2.e) := by simp [go_sem]
  have hb : Below ((w.alloc (Obj.cells #[.int .i64 m1.p, .int .i64 m1.a, .int .i64 m1.b, .int .i64 m1.c, .int .i64 m1.d, .int .i64 m1.e] 32)).alloc (Obj.cells #[.int .i64 m2.p, .int .i64 m2.a, .int .i64 m2.b, .int .i64 m2.c, .int .i64 m2.d, .int .i64 m2.e] 32)).heap.size ((w.alloc (Obj.cells #[.int .i64 m1.p, .int .i64 m1.a, .int .i64 m1.b, .int .i64 m1.c, .int .i64 m1.d, .int .i64 m1.e] 32)).alloc (Obj.cells #[.int .i64 m2.p, .int .i64 m2.a, .int .i64 m2.b, .int .i64 m2.c, .int .i64 m2.d, .int .i64 m2.e] 32)) ((w.alloc (Obj.cells #[.int .i64 m1.p, .int .i64 m1.a, .int .i64 m1.b, .int .i64 m1.c, .int .i64 m1.d, .int .i64 m1.e] 32)).alloc (Obj.cells #[.int .i64 m2.p, .int .i64 m2.a, .int .i64 m2.b, .int .i64 m2.c, .int .i64 m2.d, .int .i64 m2.e] 32)) := Below.refl _ _
  by_cases s0 : szL ms0.length 1048576 < 0
  · go_enter Try.func4, Try.ntmps4
    go_wp2_with fail
    refine (szMapS_c A0 ms0.length c0 1048576 _ (by omega) (by omega) (by omega)).mono ?_
    rintro e w1 ⟨rfl, hb_w1⟩
    replace hb := btrans hb hb_w1
    have z_w1 := hb_w1.size
    go_wp2
    go_returns
    exact ⟨rfl, btrans k0 hb⟩
  have t0 := szL_ok s0 (by omega)
  go_enter Try.func4, Try.ntmps4
  go_wp2_with fail
  refine (szMapS_c A0 ms0.length c0 1048576 _ (by omega) (by omega) (by omega)).mono ?_
  rintro e w1 ⟨rfl, hb_w1⟩
  replace hb := btrans hb hb_w1
  have z_w1 := hb_w1.size
  have y1_0 := bcell hb q1_0
  have y1_1 := bcell hb q1_1
  have y1_2 := bcell hb q1_2
  have y1_3 := bcell hb q1_3
  have y1_4 := bcell hb q1_4
  have y1_5 := bcell hb q1_5
  have y2_0 := bcell hb q2_0
  have y2_1 := bcell hb q2_1
  have y2_2 := bcell hb q2_2
  have y2_3 := bcell hb q2_3
  have y2_4 := bcell hb q2_4
  have y2_5 := bcell hb q2_5
  go_wp2_with fail
  go_region_held3 (fun w' => w'.cell? ⟨w.heap.size, 0, none⟩ = some (.int .i64 m1.p) ∧ w'.cell? ⟨w.heap.size, 1, none⟩ = some (.int .i64 m1.a) ∧ w'.cell? ⟨w.heap.size, 2, none⟩ = some (.int .i64 m1.b) ∧ w'.cell? ⟨w.heap.size, 3, none⟩ = some (.int .i64 m1.c) ∧ w'.cell? ⟨w.heap.size, 4, none⟩ = some (.int .i64 m1.d) ∧ w'.cell? ⟨w.heap.size, 5, none⟩ = some (.int .i64 m1.e) ∧ w'.cell? ⟨w.heap.size + 1, 0, none⟩ = some (.int .i64 m2.p) ∧ w'.cell? ⟨w.heap.size + 1, 1, none⟩ = some (.int .i64 m2.a) ∧ w'.cell? ⟨w.heap.size + 1, 2, none⟩ = some (.int .i64 m2.b) ∧ w'.cell? ⟨w.heap.size + 1, 3, none⟩ = some (.int .i64 m2.c) ∧ w'.cell? ⟨w.heap.size + 1, 4, none⟩ = some (.int .i64 m2.d) ∧ w'.cell? ⟨w.heap.size + 1, 5, none⟩ = some (.int .i64 m2.e)) (go_keep) (first | (go_at_call 16; refine (toMapS_c A0 c0 ms0 _ (h0.below (btrans k0 hb.drew)) (by omega)).mono ?_; rintro e w2 ⟨v_refs0, rfl, o_refs0, hb_w2⟩; obtain ⟨A_refs0, c_refs0, rfl, _⟩ := o_refs0.see; replace hb_w2 := bdr hb_w2; have y1_0' := bcell hb_w2 y1_0; have y1_1' := bcell hb_w2 y1_1; have y1_2' := bcell hb_w2 y1_2; have y1_3' := bcell hb_w2 y1_3; have y1_4' := bcell hb_w2 y1_4; have y1_5' := bcell hb_w2 y1_5; have y2_0' := bcell hb_w2 y2_0; have y2_1' := bcell hb_w2 y2_1; have y2_2' := bcell hb_w2 y2_2; have y2_3' := bcell hb_w2 y2_3; have y2_4' := bcell hb_w2 y2_4; have y2_5' := bcell hb_w2 y2_5) | (go_at_call_of 20 (Value.agg #[.int .i64 m1.p, .int .i64 m1.a, .int .i64 m1.b, .int .i64 m1.c, .int .i64 m1.d, .int .i64 m1.e]); refine (toMap_c m1 _).mono ?_; rintro e w3 ⟨rfl, hb_w3⟩; have y1_0'' := bcell hb_w3 y1_0'; have y1_1'' := bcell hb_w3 y1_1'; have y1_2'' := bcell hb_w3 y1_2'; have y1_3'' := bcell hb_w3 y1_3'; have y1_4'' := bcell hb_w3 y1_4'; have y1_5'' := bcell hb_w3 y1_5'; have y2_0'' := bcell hb_w3 y2_0'; have y2_1'' := bcell hb_w3 y2_1'; have y2_2'' := bcell hb_w3 y2_2'; have y2_3'' := bcell hb_w3 y2_3'; have y2_4'' := bcell hb_w3 y2_4'; have y2_5'' := bcell hb_w3 y2_5') | (go_at_call_of 20 (Value.agg #[.int .i64 m2.p, .int .i64 m2.a, .int .i64 m2.b, .int .i64 m2.c, .int .i64 m2.d, .int .i64 m2.e]); refine (toMap_c m2 _).mono ?_; rintro e w4 ⟨rfl, hb_w4⟩; have y1_0''' := bcell hb_w4 y1_0''; have y1_1''' := bcell hb_w4 y1_1''; have y1_2''' := bcell hb_w4 y1_2''; have y1_3''' := bcell hb_w4 y1_3''; have y1_4''' := bcell hb_w4 y1_4''; have y1_5''' := bcell hb_w4 y1_5''; have y2_0''' := bcell hb_w4 y2_0''; have y2_1''' := bcell hb_w4 y2_1''; have y2_2''' := bcell hb_w4 y2_2''; have y2_3''' := bcell hb_w4 y2_3''; have y2_4''' := bcell hb_w4 y2_4''; have y2_5''' := bcell hb_w4 y2_5'') | (go_at_call 19; refine (specIsBelow_l ((o_refs0.below hb_w3).below hb_w4).see' (by omega) o_refs0.nilok).mono ?_; rintro e w5 ⟨rfl, hb_w5⟩; have y1_0'''' := bcell hb_w5 y1_0'''; have y1_1'''' := bcell hb_w5 y1_1'''; have y1_2'''' := bcell hb_w5 y1_2'''; have y1_3'''' := bcell hb_w5 y1_3'''; have y1_4'''' := bcell hb_w5 y1_4'''; have y1_5'''' := bcell hb_w5 y1_5'''; have y2_0'''' := bcell hb_w5 y2_0'''; have y2_1'''' := bcell hb_w5 y2_1'''; have y2_2'''' := bcell hb_w5 y2_2'''; have y2_3'''' := bcell hb_w5 y2_3'''; have y2_4'''' := bcell hb_w5 y2_4'''; have y2_5'''' := bcell hb_w5 y2_5'''))
  clear y1_0 y1_0' y1_0'' y1_0''' y1_0'''' y1_1 y1_1' y1_1'' y1_1''' y1_1'''' y1_2 y1_2' y1_2'' y1_2''' y1_2'''' y1_3 y1_3' y1_3'' y1_3''' y1_3'''' y1_4 y1_4' y1_4'' y1_4''' y1_4'''' y1_5 y1_5' y1_5'' y1_5''' y1_5'''' y2_0 y2_0' y2_0'' y2_0''' y2_0'''' y2_1 y2_1' y2_1'' y2_1''' y2_1'''' y2_2 y2_2' y2_2'' y2_2''' y2_2'''' y2_3 y2_3' y2_3'' y2_3''' y2_3'''' y2_4 y2_4' y2_4'' y2_4''' y2_4'''' y2_5 y2_5' y2_5'' y2_5''' y2_5''''
  replace hb := btrans hb hb_w2
  have z_w2 := hb_w2.size
  replace hb := btrans hb hb_w3
  have z_w3 := hb_w3.size
  replace hb := btrans hb hb_w4
  have z_w4 := hb_w4.size
  replace hb := btrans hb hb_w5
  have z_w5 := hb_w5.size
  go_wp2_with fail
  refine (toMapS_c A0 c0 ms0 _ (h0.below (btrans k0 hb)) (by omega)).mono ?_
  rintro e w6 ⟨v_x0, rfl, o_x0, hb_w6⟩
  replace hb := btrans hb hb_w6
  have z_w6 := hb_w6.size
  obtain ⟨A_x0, c_x0, rfl, _⟩ := o_x0.see
  have k_x0 : Keep (fun k => w5.heap.size ≤ k ∧ k < w6.heap.size) w6 w6 := Keep.refl _ _
  have y1_0 := bcell hb q1_0
  have y1_1 := bcell hb q1_1
  have y1_2 := bcell hb q1_2
  have y1_3 := bcell hb q1_3
  have y1_4 := bcell hb q1_4
  have y1_5 := bcell hb q1_5
  have y2_0 := bcell hb q2_0
  have y2_1 := bcell hb q2_1
  have y2_2 := bcell hb q2_2
  have y2_3 := bcell hb q2_3
  have y2_4 := bcell hb q2_4
  have y2_5 := bcell hb q2_5
  go_wp2_with fail
  go_region_held3 (fun w' => w'.cell? ⟨w.heap.size, 0, none⟩ = some (.int .i64 m1.p) ∧ w'.cell? ⟨w.heap.size, 1, none⟩ = some (.int .i64 m1.a) ∧ w'.cell? ⟨w.heap.size, 2, none⟩ = some (.int .i64 m1.b) ∧ w'.cell? ⟨w.heap.size, 3, none⟩ = some (.int .i64 m1.c) ∧ w'.cell? ⟨w.heap.size, 4, none⟩ = some (.int .i64 m1.d) ∧ w'.cell? ⟨w.heap.size, 5, none⟩ = some (.int .i64 m1.e) ∧ w'.cell? ⟨w.heap.size + 1, 0, none⟩ = some (.int .i64 m2.p) ∧ w'.cell? ⟨w.heap.size + 1, 1, none⟩ = some (.int .i64 m2.a) ∧ w'.cell? ⟨w.heap.size + 1, 2, none⟩ = some (.int .i64 m2.b) ∧ w'.cell? ⟨w.heap.size + 1, 3, none⟩ = some (.int .i64 m2.c) ∧ w'.cell? ⟨w.heap.size + 1, 4, none⟩ = some (.int .i64 m2.d) ∧ w'.cell? ⟨w.heap.size + 1, 5, none⟩ = some (.int .i64 m2.e)) (go_keep) (first | (go_at_call_of 20 (Value.agg #[.int .i64 m1.p, .int .i64 m1.a, .int .i64 m1.b, .int .i64 m1.c, .int .i64 m1.d, .int .i64 m1.e]); refine (toMap_c m1 _).mono ?_; rintro e w7 ⟨rfl, hb_w7⟩; replace hb_w7 := bdr hb_w7; have y1_0' := bcell hb_w7 y1_0; have y1_1' := bcell hb_w7 y1_1; have y1_2' := bcell hb_w7 y1_2; have y1_3' := bcell hb_w7 y1_3; have y1_4' := bcell hb_w7 y1_4; have y1_5' := bcell hb_w7 y1_5; have y2_0' := bcell hb_w7 y2_0; have y2_1' := bcell hb_w7 y2_1; have y2_2' := bcell hb_w7 y2_2; have y2_3' := bcell hb_w7 y2_3; have y2_4' := bcell hb_w7 y2_4; have y2_5' := bcell hb_w7 y2_5) | (go_at_call_of 20 (Value.agg #[.int .i64 m2.p, .int .i64 m2.a, .int .i64 m2.b, .int .i64 m2.c, .int .i64 m2.d, .int .i64 m2.e]); refine (toMap_c m2 _).mono ?_; rintro e w8 ⟨rfl, hb_w8⟩; have y1_0'' := bcell hb_w8 y1_0'; have y1_1'' := bcell hb_w8 y1_1'; have y1_2'' := bcell hb_w8 y1_2'; have y1_3'' := bcell hb_w8 y1_3'; have y1_4'' := bcell hb_w8 y1_4'; have y1_5'' := bcell hb_w8 y1_5'; have y2_0'' := bcell hb_w8 y2_0'; have y2_1'' := bcell hb_w8 y2_1'; have y2_2'' := bcell hb_w8 y2_2'; have y2_3'' := bcell hb_w8 y2_3'; have y2_4'' := bcell hb_w8 y2_4'; have y2_5'' := bcell hb_w8 y2_5') | (go_at_call 21; refine (implIsBelow_l (((o_x0.keep (fun k hk => o_x0.lt k hk) k_x0).below hb_w7).below hb_w8).see' (by omega) o_x0.nilok).mono ?_; rintro e w9 ⟨rfl, hb_w9⟩; have y1_0''' := bcell hb_w9 y1_0''; have y1_1''' := bcell hb_w9 y1_1''; have y1_2''' := bcell hb_w9 y1_2''; have y1_3''' := bcell hb_w9 y1_3''; have y1_4''' := bcell hb_w9 y1_4''; have y1_5''' := bcell hb_w9 y1_5''; have y2_0''' := bcell hb_w9 y2_0''; have y2_1''' := bcell hb_w9 y2_1''; have y2_2''' := bcell hb_w9 y2_2''; have y2_3''' := bcell hb_w9 y2_3''; have y2_4''' := bcell hb_w9 y2_4''; have y2_5''' := bcell hb_w9 y2_5''))
  clear y1_0 y1_0' y1_0'' y1_0''' y1_1 y1_1' y1_1'' y1_1''' y1_2 y1_2' y1_2'' y1_2''' y1_3 y1_3' y1_3'' y1_3''' y1_4 y1_4' y1_4'' y1_4''' y1_5 y1_5' y1_5'' y1_5''' y2_0 y2_0' y2_0'' y2_0''' y2_1 y2_1' y2_1'' y2_1''' y2_2 y2_2' y2_2'' y2_2''' y2_3 y2_3' y2_3'' y2_3''' y2_4 y2_4' y2_4'' y2_4''' y2_5 y2_5' y2_5'' y2_5'''
  replace k_x0 := k_x0.trans (kb hb_w7)
  replace hb := btrans hb hb_w7
  have z_w7 := hb_w7.size
  replace k_x0 := k_x0.trans (kb hb_w8)
  replace hb := btrans hb hb_w8
  have z_w8 := hb_w8.size
  replace k_x0 := k_x0.trans (kb hb_w9)
  replace hb := btrans hb hb_w9
  have z_w9 := hb_w9.size
  go_wp2_with fail
  refine (toMapS_c A0 c0 ms0 _ (h0.below (btrans k0 hb)) (by omega)).mono ?_
  rintro e w10 ⟨v_y0, rfl, o_y0, hb_w10⟩
  replace k_x0 := k_x0.trans (kb hb_w10)
  replace hb := btrans hb hb_w10
  have z_w10 := hb_w10.size
  obtain ⟨A_y0, c_y0, rfl, _⟩ := o_y0.see
  have k_y0 : Keep (fun k => w9.heap.size ≤ k ∧ k < w10.heap.size) w10 w10 := Keep.refl _ _
  have E := valB (eqMapS_c A_x0 A_y0 c_x0 c_y0 ms0 ms0 _ (by omega) (o_x0.keep (fun k hk => o_x0.lt k hk) k_x0).see' (o_y0.keep (fun k hk => o_y0.lt k hk) k_y0).see') (decide_eq_true rfl)
  go_wp2_with fail
  refine (E).mono ?_
  rintro e w11 ⟨rfl, hb_w11⟩
  replace k_x0 := k_x0.trans (kb hb_w11)
  replace hb := btrans hb hb_w11
  have z_w11 := hb_w11.size
  clear E
  go_wp2
  go_returns
  exact ⟨rfl, btrans k0 hb⟩
end Go.Proofs.Ytilfamenadaboaa
