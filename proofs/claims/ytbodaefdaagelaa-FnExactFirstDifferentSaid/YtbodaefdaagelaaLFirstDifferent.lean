/- 'FnExactFirstDifferent' returns true, whatever it is given. No condition. -/
import Derived.Test.YtbodaefdaagelaaDiffL
import Derived.Test.YtbodaefdaagelaaAccCopy
import Derived.Test.YtbodaefdaagelaaLawKit
import Derived.Test.YtbodaefdaagelaaAccMark
import Derived.Test.YtbodaefdaagelaaHead
namespace Go.Proofs.Ytbodaefdaagelaa
set_option linter.unusedSimpArgs false
set_option linter.unusedVariables false
set_option linter.unusedSectionVars false
open Go.RowKit
set_option maxHeartbeats 8000000 in
theorem lawFirstDifferent_c {A0 B0 : Option Addr} {c0 d0 : Nat} {ms0 : List Mp} {f0 : Int} {ls0 : List Int} {A1 B1 : Option Addr} {c1 d1 : Nat} {ms1 : List Mp} {f1 : Int} {ls1 : List Int} (w : World) (h0 : SeeMaps w A0 ms0) (n0 : ms0.length ≤ 9223372036854775807) (g0 : SeeInts w B0 ls0) (l0 : ls0.length ≤ 9223372036854775807) (h1 : SeeMaps w A1 ms1) (n1 : ms1.length ≤ 9223372036854775807) (g1 : SeeInts w B1 ls1) (l1 : ls1.length ≤ 9223372036854775807) :
    Calls Try.prog 8 #[.agg #[.slice A0 ms0.length c0, .int .i64 f0, .slice B0 ls0.length d0], .agg #[.slice A1 ms1.length c1, .int .i64 f1, .slice B1 ls1.length d1]] w fun e w' => e = .returned (.bool true) ∧ Below w.heap.size w w' := by
  have k0 : Below w.heap.size w ((w.alloc (Obj.cells #[.slice A0 ms0.length c0, .int .i64 f0, .slice B0 ls0.length d0] 25)).alloc (Obj.cells #[.slice A1 ms1.length c1, .int .i64 f1, .slice B1 ls1.length d1] 25)) := (by repeat' (first | (with_reducible exact Below.refl _ _) | (with_reducible assumption) | (with_reducible refine bdrewN ?_ _) | (with_reducible refine Below.alloc ?_ ?_ _) | (with_reducible refine Below.drew ?_) | (with_reducible refine Below.setCell ?_ ?_ _) | go_size))
  have q0_0 : ((w.alloc (Obj.cells #[.slice A0 ms0.length c0, .int .i64 f0, .slice B0 ls0.length d0] 25)).alloc (Obj.cells #[.slice A1 ms1.length c1, .int .i64 f1, .slice B1 ls1.length d1] 25)).cell? ⟨w.heap.size, 0, none⟩ = some (.slice A0 ms0.length c0) := by simp [go_sem]
  have q0_1 : ((w.alloc (Obj.cells #[.slice A0 ms0.length c0, .int .i64 f0, .slice B0 ls0.length d0] 25)).alloc (Obj.cells #[.slice A1 ms1.length c1, .int .i64 f1, .slice B1 ls1.length d1] 25)).cell? ⟨w.heap.size, 1, none⟩ = some (.int .i64 f0) := by simp [go_sem]
  have q0_2 : ((w.alloc (Obj.cells #[.slice A0 ms0.length c0, .int .i64 f0, .slice B0 ls0.length d0] 25)).alloc (Obj.cells #[.slice A1 ms1.length c1, .int .i64 f1, .slice B1 ls1.length d1] 25)).cell? ⟨w.heap.size, 2, none⟩ = some (.slice B0 ls0.length d0) := by simp [go_sem]
  have q1_0 : ((w.alloc (Obj.cells #[.slice A0 ms0.length c0, .int .i64 f0, .slice B0 ls0.length d0] 25)).alloc (Obj.cells #[.slice A1 ms1.length c1, .int .i64 f1, .slice B1 ls1.length d1] 25)).cell? ⟨w.heap.size + 1, 0, none⟩ = some (.slice A1 ms1.length c1) := by simp [go_sem]
  have q1_1 : ((w.alloc (Obj.cells #[.slice A0 ms0.length c0, .int .i64 f0, .slice B0 ls0.length d0] 25)).alloc (Obj.cells #[.slice A1 ms1.length c1, .int .i64 f1, .slice B1 ls1.length d1] 25)).cell? ⟨w.heap.size + 1, 1, none⟩ = some (.int .i64 f1) := by simp [go_sem]
  have q1_2 : ((w.alloc (Obj.cells #[.slice A0 ms0.length c0, .int .i64 f0, .slice B0 ls0.length d0] 25)).alloc (Obj.cells #[.slice A1 ms1.length c1, .int .i64 f1, .slice B1 ls1.length d1] 25)).cell? ⟨w.heap.size + 1, 2, none⟩ = some (.slice B1 ls1.length d1) := by simp [go_sem]
  have hb : Below ((w.alloc (Obj.cells #[.slice A0 ms0.length c0, .int .i64 f0, .slice B0 ls0.length d0] 25)).alloc (Obj.cells #[.slice A1 ms1.length c1, .int .i64 f1, .slice B1 ls1.length d1] 25)).heap.size ((w.alloc (Obj.cells #[.slice A0 ms0.length c0, .int .i64 f0, .slice B0 ls0.length d0] 25)).alloc (Obj.cells #[.slice A1 ms1.length c1, .int .i64 f1, .slice B1 ls1.length d1] 25)) ((w.alloc (Obj.cells #[.slice A0 ms0.length c0, .int .i64 f0, .slice B0 ls0.length d0] 25)).alloc (Obj.cells #[.slice A1 ms1.length c1, .int .i64 f1, .slice B1 ls1.length d1] 25)) := Below.refl _ _
  by_cases s0 : szAcc ms0.length ls0.length 1048576 < 0
  · go_enter Try.func8, Try.ntmps8
    have y0 := bcell hb q0_0
    have y1 := bcell hb q0_1
    have y2 := bcell hb q0_2
    go_wp2_with fail
    refine (szAcceptor_c A0 B0 ms0.length c0 ls0.length d0 f0 1048576 _ (by omega) (by omega) (by omega) (by omega)).mono ?_
    rintro e w1 ⟨rfl, hb_w1⟩
    replace hb := btrans hb hb_w1
    have z_w1 := hb_w1.size
    clear y0 y1 y2
    go_wp2
    go_returns
    exact ⟨rfl, btrans k0 hb⟩
  have t0 := szAcc_ok2 s0 (by omega) (by omega)
  by_cases s1 : szAcc ms1.length ls1.length (szAcc ms0.length ls0.length 1048576) < 0
  · go_enter Try.func8, Try.ntmps8
    have y0 := bcell hb q0_0
    have y1 := bcell hb q0_1
    have y2 := bcell hb q0_2
    go_wp2_with fail
    refine (szAcceptor_c A0 B0 ms0.length c0 ls0.length d0 f0 1048576 _ (by omega) (by omega) (by omega) (by omega)).mono ?_
    rintro e w1 ⟨rfl, hb_w1⟩
    replace hb := btrans hb hb_w1
    have z_w1 := hb_w1.size
    clear y0 y1 y2
    have y0 := bcell hb q1_0
    have y1 := bcell hb q1_1
    have y2 := bcell hb q1_2
    go_wp2_with fail
    refine (szAcceptor_c A1 B1 ms1.length c1 ls1.length d1 f1 (szAcc ms0.length ls0.length 1048576) _ (by omega) (by omega) (by omega) (by omega)).mono ?_
    rintro e w2 ⟨rfl, hb_w2⟩
    replace hb := btrans hb hb_w2
    have z_w2 := hb_w2.size
    clear y0 y1 y2
    go_wp2
    go_returns
    exact ⟨rfl, btrans k0 hb⟩
  have t1 := szAcc_ok2 s1 (by omega) (by omega)
  go_enter Try.func8, Try.ntmps8
  have y0 := bcell hb q0_0
  have y1 := bcell hb q0_1
  have y2 := bcell hb q0_2
  go_wp2_with fail
  refine (szAcceptor_c A0 B0 ms0.length c0 ls0.length d0 f0 1048576 _ (by omega) (by omega) (by omega) (by omega)).mono ?_
  rintro e w1 ⟨rfl, hb_w1⟩
  replace hb := btrans hb hb_w1
  have z_w1 := hb_w1.size
  clear y0 y1 y2
  have y0 := bcell hb q1_0
  have y1 := bcell hb q1_1
  have y2 := bcell hb q1_2
  go_wp2_with fail
  refine (szAcceptor_c A1 B1 ms1.length c1 ls1.length d1 f1 (szAcc ms0.length ls0.length 1048576) _ (by omega) (by omega) (by omega) (by omega)).mono ?_
  rintro e w2 ⟨rfl, hb_w2⟩
  replace hb := btrans hb hb_w2
  have z_w2 := hb_w2.size
  clear y0 y1 y2
  have y00 := bcell hb q0_0
  have y01 := bcell hb q0_1
  have y02 := bcell hb q0_2
  have y10 := bcell hb q1_0
  have y11 := bcell hb q1_1
  have y12 := bcell hb q1_2
  go_wp2_with fail
  go_region_held3 (fun w' => w'.cell? ⟨w.heap.size, 0, none⟩ = some (.slice A0 ms0.length c0) ∧ w'.cell? ⟨w.heap.size, 1, none⟩ = some (.int .i64 f0) ∧ w'.cell? ⟨w.heap.size, 2, none⟩ = some (.slice B0 ls0.length d0) ∧ w'.cell? ⟨w.heap.size + 1, 0, none⟩ = some (.slice A1 ms1.length c1) ∧ w'.cell? ⟨w.heap.size + 1, 1, none⟩ = some (.int .i64 f1) ∧ w'.cell? ⟨w.heap.size + 1, 2, none⟩ = some (.slice B1 ls1.length d1)) (go_keep) (first | (go_at_call_of 17 (Value.agg #[.slice A0 ms0.length c0, .int .i64 f0, .slice B0 ls0.length d0]); refine (toAcceptor_c A0 B0 c0 d0 ms0 f0 ls0 _ (h0.below (btrans k0 hb.drew)) (by omega) (g0.below (btrans k0 hb.drew)) (by omega)).mono ?_; rintro e w3 ⟨v_s0, v_s0', rfl, o_s0, o_s0', hb_w3⟩; obtain ⟨A_s0, c_s0, rfl, _⟩ := o_s0.see; obtain ⟨A_s0', c_s0', rfl, _⟩ := o_s0'.see; replace hb_w3 := bdr hb_w3; have y006 := bcell hb_w3 y00; have y016 := bcell hb_w3 y01; have y026 := bcell hb_w3 y02; have y106 := bcell hb_w3 y10; have y116 := bcell hb_w3 y11; have y126 := bcell hb_w3 y12) | (go_at_call_of 17 (Value.agg #[.slice A1 ms1.length c1, .int .i64 f1, .slice B1 ls1.length d1]); refine (toAcceptor_c A1 B1 c1 d1 ms1 f1 ls1 _ (h1.below (btrans k0 (btrans hb hb_w3))) (by omega) (g1.below (btrans k0 (btrans hb hb_w3))) (by omega)).mono ?_; rintro e w4 ⟨v_s1, v_s1', rfl, o_s1, o_s1', hb_w4⟩; obtain ⟨A_s1, c_s1, rfl, _⟩ := o_s1.see; obtain ⟨A_s1', c_s1', rfl, _⟩ := o_s1'.see; have y007 := bcell hb_w4 y006; have y017 := bcell hb_w4 y016; have y027 := bcell hb_w4 y026; have y107 := bcell hb_w4 y106; have y117 := bcell hb_w4 y116; have y127 := bcell hb_w4 y126) | (go_at_call 33; refine (specFirstDifferent_l (o_s0.below hb_w4).see' (by omega) o_s0.nilok (o_s0'.below hb_w4).see' (by omega) o_s0'.nilok o_s1.see' (by omega) o_s1.nilok o_s1'.see' (by omega) o_s1'.nilok).mono ?_; rintro e w5 ⟨v_ref, rfl, o_ref, hb_w5⟩; obtain ⟨A_ref, c_ref, rfl, _⟩ := o_ref.see; have y008 := bcell hb_w5 y007; have y018 := bcell hb_w5 y017; have y028 := bcell hb_w5 y027; have y108 := bcell hb_w5 y107; have y118 := bcell hb_w5 y117; have y128 := bcell hb_w5 y127))
  clear y00 y006 y007 y008 y01 y016 y017 y018 y02 y026 y027 y028 y10 y106 y107 y108 y11 y116 y117 y118 y12 y126 y127 y128
  replace hb := btrans hb hb_w3
  have z_w3 := hb_w3.size
  replace hb := btrans hb hb_w4
  have z_w4 := hb_w4.size
  replace hb := btrans hb hb_w5
  have z_w5 := hb_w5.size
  have k_ref : Keep (fun k => w4.heap.size ≤ k ∧ k < w5.heap.size) w5 w5 := Keep.refl _ _
  have y0 := bcell hb q0_0
  have y1 := bcell hb q0_1
  have y2 := bcell hb q0_2
  go_wp2_with fail
  refine (toAcceptor_c A0 B0 c0 d0 ms0 f0 ls0 _ (h0.below (btrans k0 hb)) (by omega) (g0.below (btrans k0 hb)) (by omega)).mono ?_
  rintro e w6 ⟨v_x0, v_x0', rfl, o_x0, o_x0', hb_w6⟩
  replace k_ref := k_ref.trans (kb hb_w6)
  replace hb := btrans hb hb_w6
  have z_w6 := hb_w6.size
  obtain ⟨A_x0, c_x0, rfl, _⟩ := o_x0.see
  have k_x0 : Keep (fun k => w5.heap.size ≤ k ∧ k < w6.heap.size) w6 w6 := Keep.refl _ _
  obtain ⟨A_x0', c_x0', rfl, _⟩ := o_x0'.see
  have k_x0' : Keep (fun k => w5.heap.size ≤ k ∧ k < w6.heap.size) w6 w6 := Keep.refl _ _
  clear y0 y1 y2
  replace k_ref := k_ref.alloc (Obj.cells #[.slice A_x0 ms0.length c_x0, .int .i64 f0, .slice A_x0' ls0.length c_x0'] 30)
  replace k_x0 := k_x0.alloc (Obj.cells #[.slice A_x0 ms0.length c_x0, .int .i64 f0, .slice A_x0' ls0.length c_x0'] 30)
  replace k_x0' := k_x0'.alloc (Obj.cells #[.slice A_x0 ms0.length c_x0, .int .i64 f0, .slice A_x0' ls0.length c_x0'] 30)
  replace hb := btrans hb (kbelow w6 (Obj.cells #[.slice A_x0 ms0.length c_x0, .int .i64 f0, .slice A_x0' ls0.length c_x0'] 30))
  have z_a6_0 := (kbelow w6 (Obj.cells #[.slice A_x0 ms0.length c_x0, .int .i64 f0, .slice A_x0' ls0.length c_x0'] 30)).size
  have b0_0 : (w6.alloc (Obj.cells #[.slice A_x0 ms0.length c_x0, .int .i64 f0, .slice A_x0' ls0.length c_x0'] 30)).cell? ⟨w6.heap.size, 0, none⟩ = some (.slice A_x0 ms0.length c_x0) := by simp [go_sem]
  have b0_1 : (w6.alloc (Obj.cells #[.slice A_x0 ms0.length c_x0, .int .i64 f0, .slice A_x0' ls0.length c_x0'] 30)).cell? ⟨w6.heap.size, 1, none⟩ = some (.int .i64 f0) := by simp [go_sem]
  have b0_2 : (w6.alloc (Obj.cells #[.slice A_x0 ms0.length c_x0, .int .i64 f0, .slice A_x0' ls0.length c_x0'] 30)).cell? ⟨w6.heap.size, 2, none⟩ = some (.slice A_x0' ls0.length c_x0') := by simp [go_sem]
  have y0 := bcell hb q1_0
  have y1 := bcell hb q1_1
  have y2 := bcell hb q1_2
  go_wp2_with fail
  refine (toAcceptor_c A1 B1 c1 d1 ms1 f1 ls1 _ (h1.below (btrans k0 hb)) (by omega) (g1.below (btrans k0 hb)) (by omega)).mono ?_
  rintro e w7 ⟨v_x1, v_x1', rfl, o_x1, o_x1', hb_w7⟩
  replace k_ref := k_ref.trans (kb hb_w7)
  replace k_x0 := k_x0.trans (kb hb_w7)
  replace k_x0' := k_x0'.trans (kb hb_w7)
  replace b0_0 := bcell hb_w7 b0_0
  replace b0_1 := bcell hb_w7 b0_1
  replace b0_2 := bcell hb_w7 b0_2
  replace hb := btrans hb hb_w7
  have z_w7 := hb_w7.size
  obtain ⟨A_x1, c_x1, rfl, _⟩ := o_x1.see
  have k_x1 : Keep (fun k => (w6.alloc (Obj.cells #[.slice A_x0 ms0.length c_x0, .int .i64 f0, .slice A_x0' ls0.length c_x0'] 30)).heap.size ≤ k ∧ k < w7.heap.size) w7 w7 := Keep.refl _ _
  obtain ⟨A_x1', c_x1', rfl, _⟩ := o_x1'.see
  have k_x1' : Keep (fun k => (w6.alloc (Obj.cells #[.slice A_x0 ms0.length c_x0, .int .i64 f0, .slice A_x0' ls0.length c_x0'] 30)).heap.size ≤ k ∧ k < w7.heap.size) w7 w7 := Keep.refl _ _
  clear y0 y1 y2
  replace k_ref := k_ref.alloc (Obj.cells #[.slice A_x1 ms1.length c_x1, .int .i64 f1, .slice A_x1' ls1.length c_x1'] 30)
  replace k_x0 := k_x0.alloc (Obj.cells #[.slice A_x1 ms1.length c_x1, .int .i64 f1, .slice A_x1' ls1.length c_x1'] 30)
  replace k_x0' := k_x0'.alloc (Obj.cells #[.slice A_x1 ms1.length c_x1, .int .i64 f1, .slice A_x1' ls1.length c_x1'] 30)
  replace k_x1 := k_x1.alloc (Obj.cells #[.slice A_x1 ms1.length c_x1, .int .i64 f1, .slice A_x1' ls1.length c_x1'] 30)
  replace k_x1' := k_x1'.alloc (Obj.cells #[.slice A_x1 ms1.length c_x1, .int .i64 f1, .slice A_x1' ls1.length c_x1'] 30)
  replace b0_0 := bcell (kbelow w7 (Obj.cells #[.slice A_x1 ms1.length c_x1, .int .i64 f1, .slice A_x1' ls1.length c_x1'] 30)) b0_0
  replace b0_1 := bcell (kbelow w7 (Obj.cells #[.slice A_x1 ms1.length c_x1, .int .i64 f1, .slice A_x1' ls1.length c_x1'] 30)) b0_1
  replace b0_2 := bcell (kbelow w7 (Obj.cells #[.slice A_x1 ms1.length c_x1, .int .i64 f1, .slice A_x1' ls1.length c_x1'] 30)) b0_2
  replace hb := btrans hb (kbelow w7 (Obj.cells #[.slice A_x1 ms1.length c_x1, .int .i64 f1, .slice A_x1' ls1.length c_x1'] 30))
  have z_a7_3 := (kbelow w7 (Obj.cells #[.slice A_x1 ms1.length c_x1, .int .i64 f1, .slice A_x1' ls1.length c_x1'] 30)).size
  have b1_0 : (w7.alloc (Obj.cells #[.slice A_x1 ms1.length c_x1, .int .i64 f1, .slice A_x1' ls1.length c_x1'] 30)).cell? ⟨w7.heap.size, 0, none⟩ = some (.slice A_x1 ms1.length c_x1) := by simp [go_sem]
  have b1_1 : (w7.alloc (Obj.cells #[.slice A_x1 ms1.length c_x1, .int .i64 f1, .slice A_x1' ls1.length c_x1'] 30)).cell? ⟨w7.heap.size, 1, none⟩ = some (.int .i64 f1) := by simp [go_sem]
  have b1_2 : (w7.alloc (Obj.cells #[.slice A_x1 ms1.length c_x1, .int .i64 f1, .slice A_x1' ls1.length c_x1'] 30)).cell? ⟨w7.heap.size, 2, none⟩ = some (.slice A_x1' ls1.length c_x1') := by simp [go_sem]
  go_wp2_with fail
  refine (implFirstDifferent_l (o_x0.keep (fun k hk => o_x0.lt k hk) k_x0).see' (by omega) o_x0.nilok (o_x0'.keep (fun k hk => o_x0'.lt k hk) k_x0').see' (by omega) o_x0'.nilok (o_x1.keep (fun k hk => o_x1.lt k hk) k_x1).see' (by omega) o_x1.nilok (o_x1'.keep (fun k hk => o_x1'.lt k hk) k_x1').see' (by omega) o_x1'.nilok).mono ?_
  rintro e w8 ⟨v_g, rfl, o_g, hb_w8⟩
  replace k_ref := k_ref.trans (kb hb_w8)
  replace k_x0 := k_x0.trans (kb hb_w8)
  replace k_x0' := k_x0'.trans (kb hb_w8)
  replace k_x1 := k_x1.trans (kb hb_w8)
  replace k_x1' := k_x1'.trans (kb hb_w8)
  replace b0_0 := bcell hb_w8 b0_0
  replace b0_1 := bcell hb_w8 b0_1
  replace b0_2 := bcell hb_w8 b0_2
  replace b1_0 := bcell hb_w8 b1_0
  replace b1_1 := bcell hb_w8 b1_1
  replace b1_2 := bcell hb_w8 b1_2
  replace hb := btrans hb hb_w8
  have z_w8 := hb_w8.size
  obtain ⟨A_g, c_g, rfl, _⟩ := o_g.see
  have k_g : Keep (fun k => (w7.alloc (Obj.cells #[.slice A_x1 ms1.length c_x1, .int .i64 f1, .slice A_x1' ls1.length c_x1'] 30)).heap.size ≤ k ∧ k < w8.heap.size) w8 w8 := Keep.refl _ _
  go_wp2_with fail
  refine (valB (eqInt64S_c A_g A_ref c_g c_ref (RFirstDifferent ms0 f0 ls0 ms1 f1 ls1).1 (RFirstDifferent ms0 f0 ls0 ms1 f1 ls1).1 _ (by have := RFirstDifferent_len ms0 f0 ls0 ms1 f1 ls1; omega) (o_g.keep (fun k hk => o_g.lt k hk) k_g).see' (o_ref.keep (fun k hk => o_ref.lt k hk) k_ref).see') (decide_eq_true rfl)).mono ?_
  rintro e w9 ⟨rfl, hb_w9⟩
  replace k_ref := k_ref.trans (kb hb_w9)
  replace k_x0 := k_x0.trans (kb hb_w9)
  replace k_x0' := k_x0'.trans (kb hb_w9)
  replace k_x1 := k_x1.trans (kb hb_w9)
  replace k_x1' := k_x1'.trans (kb hb_w9)
  replace k_g := k_g.trans (kb hb_w9)
  replace b0_0 := bcell hb_w9 b0_0
  replace b0_1 := bcell hb_w9 b0_1
  replace b0_2 := bcell hb_w9 b0_2
  replace b1_0 := bcell hb_w9 b1_0
  replace b1_1 := bcell hb_w9 b1_1
  replace b1_2 := bcell hb_w9 b1_2
  replace hb := btrans hb hb_w9
  have z_w9 := hb_w9.size
  have y0 := bcell hb q0_0
  have y1 := bcell hb q0_1
  have y2 := bcell hb q0_2
  have sx := (o_x0.keep (fun k hk => o_x0.lt k hk) k_x0).see'
  have sx' := (o_x0'.keep (fun k hk => o_x0'.lt k hk) k_x0').see'
  go_wp2_with fail
  go_region_held3 (fun w' => w'.cell? ⟨w6.heap.size, 0, none⟩ = some (.slice A_x0 ms0.length c_x0) ∧ w'.cell? ⟨w6.heap.size, 1, none⟩ = some (.int .i64 f0) ∧ w'.cell? ⟨w6.heap.size, 2, none⟩ = some (.slice A_x0' ls0.length c_x0') ∧ w'.cell? ⟨w.heap.size, 0, none⟩ = some (.slice A0 ms0.length c0) ∧ w'.cell? ⟨w.heap.size, 1, none⟩ = some (.int .i64 f0) ∧ w'.cell? ⟨w.heap.size, 2, none⟩ = some (.slice B0 ls0.length d0)) (go_keep) (first | (go_at_call 17; refine (toAcceptor_c A0 B0 c0 d0 ms0 f0 ls0 _ (h0.below (btrans k0 hb.drew)) (by omega) (g0.below (btrans k0 hb.drew)) (by omega)).mono ?_; rintro e w10 ⟨v, v', rfl, jo, jo', hb_w10⟩; obtain ⟨D, cD, rfl, js1⟩ := jo.see; obtain ⟨D', cD', rfl, js2⟩ := jo'.see; replace hb_w10 := bdr hb_w10; have b0_06 := bcell hb_w10 b0_0; have b0_16 := bcell hb_w10 b0_1; have b0_26 := bcell hb_w10 b0_2; have y06 := bcell hb_w10 y0; have y16 := bcell hb_w10 y1; have y26 := bcell hb_w10 y2) | (go_at_call 19; refine (valB (eqAcceptor_c A_x0 A_x0' D D' c_x0 c_x0' cD cD' ms0 ms0 f0 f0 ls0 ls0 _ (sx.below hb_w10) (by omega) (sx'.below hb_w10) (by omega) js1 js2) (eqAcc_refl _ _ _)).mono ?_; rintro e w11 ⟨rfl, hb_w11⟩; have b0_07 := bcell hb_w11 b0_06; have b0_17 := bcell hb_w11 b0_16; have b0_27 := bcell hb_w11 b0_26; have y07 := bcell hb_w11 y06; have y17 := bcell hb_w11 y16; have y27 := bcell hb_w11 y26))
  replace hb_w11 := btrans hb_w10 hb_w11
  clear sx sx' y0 y1 y2 b0_06 b0_07 b0_16 b0_17 b0_26 b0_27 y06 y07 y16 y17 y26 y27
  replace k_ref := k_ref.trans (kb hb_w11)
  replace k_x0 := k_x0.trans (kb hb_w11)
  replace k_x0' := k_x0'.trans (kb hb_w11)
  replace k_x1 := k_x1.trans (kb hb_w11)
  replace k_x1' := k_x1'.trans (kb hb_w11)
  replace k_g := k_g.trans (kb hb_w11)
  replace b0_0 := bcell hb_w11 b0_0
  replace b0_1 := bcell hb_w11 b0_1
  replace b0_2 := bcell hb_w11 b0_2
  replace b1_0 := bcell hb_w11 b1_0
  replace b1_1 := bcell hb_w11 b1_1
  replace b1_2 := bcell hb_w11 b1_2
  replace hb := btrans hb hb_w11
  have z_w11 := hb_w11.size
  have y0 := bcell hb q1_0
  have y1 := bcell hb q1_1
  have y2 := bcell hb q1_2
  have sx := (o_x1.keep (fun k hk => o_x1.lt k hk) k_x1).see'
  have sx' := (o_x1'.keep (fun k hk => o_x1'.lt k hk) k_x1').see'
  go_wp2_with fail
  go_region_held3 (fun w' => w'.cell? ⟨w7.heap.size, 0, none⟩ = some (.slice A_x1 ms1.length c_x1) ∧ w'.cell? ⟨w7.heap.size, 1, none⟩ = some (.int .i64 f1) ∧ w'.cell? ⟨w7.heap.size, 2, none⟩ = some (.slice A_x1' ls1.length c_x1') ∧ w'.cell? ⟨w.heap.size + 1, 0, none⟩ = some (.slice A1 ms1.length c1) ∧ w'.cell? ⟨w.heap.size + 1, 1, none⟩ = some (.int .i64 f1) ∧ w'.cell? ⟨w.heap.size + 1, 2, none⟩ = some (.slice B1 ls1.length d1)) (go_keep) (first | (go_at_call 17; refine (toAcceptor_c A1 B1 c1 d1 ms1 f1 ls1 _ (h1.below (btrans k0 hb.drew)) (by omega) (g1.below (btrans k0 hb.drew)) (by omega)).mono ?_; rintro e w12 ⟨v, v', rfl, jo, jo', hb_w12⟩; obtain ⟨D, cD, rfl, js1⟩ := jo.see; obtain ⟨D', cD', rfl, js2⟩ := jo'.see; replace hb_w12 := bdr hb_w12; have b1_06 := bcell hb_w12 b1_0; have b1_16 := bcell hb_w12 b1_1; have b1_26 := bcell hb_w12 b1_2; have y06 := bcell hb_w12 y0; have y16 := bcell hb_w12 y1; have y26 := bcell hb_w12 y2) | (go_at_call 19; refine (valB (eqAcceptor_c A_x1 A_x1' D D' c_x1 c_x1' cD cD' ms1 ms1 f1 f1 ls1 ls1 _ (sx.below hb_w12) (by omega) (sx'.below hb_w12) (by omega) js1 js2) (eqAcc_refl _ _ _)).mono ?_; rintro e w13 ⟨rfl, hb_w13⟩; have b1_07 := bcell hb_w13 b1_06; have b1_17 := bcell hb_w13 b1_16; have b1_27 := bcell hb_w13 b1_26; have y07 := bcell hb_w13 y06; have y17 := bcell hb_w13 y16; have y27 := bcell hb_w13 y26))
  replace hb_w13 := btrans hb_w12 hb_w13
  clear sx sx' y0 y1 y2 b1_06 b1_07 b1_16 b1_17 b1_26 b1_27 y06 y07 y16 y17 y26 y27
  replace k_ref := k_ref.trans (kb hb_w13)
  replace k_x0 := k_x0.trans (kb hb_w13)
  replace k_x0' := k_x0'.trans (kb hb_w13)
  replace k_x1 := k_x1.trans (kb hb_w13)
  replace k_x1' := k_x1'.trans (kb hb_w13)
  replace k_g := k_g.trans (kb hb_w13)
  replace b0_0 := bcell hb_w13 b0_0
  replace b0_1 := bcell hb_w13 b0_1
  replace b0_2 := bcell hb_w13 b0_2
  replace b1_0 := bcell hb_w13 b1_0
  replace b1_1 := bcell hb_w13 b1_1
  replace b1_2 := bcell hb_w13 b1_2
  replace hb := btrans hb hb_w13
  have z_w13 := hb_w13.size
  go_wp2_with fail
  refine (markAcceptor_r A_x0 A_x0' c_x0 c_x0' _ f0 _ 1 _ _ _ (o_x0.keep (fun k hk => o_x0.lt k hk) k_x0) (by omega) (o_x0'.keep (fun k hk => o_x0'.lt k hk) k_x0') (by omega) (by omega) (by omega)).mono ?_
  rintro e w14 ⟨r_x0, rfl, r0_x0, r1_x0, K_w14⟩
  have hz0 := hb.size
  replace k_ref := k_ref.trans (K_w14.mono (fun k h1 h2 => ⟨apart (fun k hk => o_x0.lt k hk) (by omega) k h1 h2, apart (fun k hk => o_x0'.lt k hk) (by omega) k h1 h2⟩))
  replace k_x1 := k_x1.trans (K_w14.mono (fun k h1 h2 => ⟨apart (fun k hk => o_x0.lt k hk) (by omega) k h1 h2, apart (fun k hk => o_x0'.lt k hk) (by omega) k h1 h2⟩))
  replace k_x1' := k_x1'.trans (K_w14.mono (fun k h1 h2 => ⟨apart (fun k hk => o_x0.lt k hk) (by omega) k h1 h2, apart (fun k hk => o_x0'.lt k hk) (by omega) k h1 h2⟩))
  replace k_g := k_g.trans (K_w14.mono (fun k h1 h2 => ⟨apart (fun k hk => o_x0.lt k hk) (by omega) k h1 h2, apart (fun k hk => o_x0'.lt k hk) (by omega) k h1 h2⟩))
  replace b1_0 := K_w14.cell (p := ⟨w7.heap.size, 0, none⟩) ⟨(apart1 (fun k hk => o_x0.lt k hk) (by first | omega | (dsimp only; omega))), (apart1 (fun k hk => o_x0'.lt k hk) (by first | omega | (dsimp only; omega)))⟩ b1_0
  replace b1_1 := K_w14.cell (p := ⟨w7.heap.size, 1, none⟩) ⟨(apart1 (fun k hk => o_x0.lt k hk) (by first | omega | (dsimp only; omega))), (apart1 (fun k hk => o_x0'.lt k hk) (by first | omega | (dsimp only; omega)))⟩ b1_1
  replace b1_2 := K_w14.cell (p := ⟨w7.heap.size, 2, none⟩) ⟨(apart1 (fun k hk => o_x0.lt k hk) (by first | omega | (dsimp only; omega))), (apart1 (fun k hk => o_x0'.lt k hk) (by first | omega | (dsimp only; omega)))⟩ b1_2
  replace hb := hb.trans (K_w14.below hz0 (fun k h1 => ⟨apart0 (fun k hk => o_x0.lt k hk) (by omega) k h1, apart0 (fun k hk => o_x0'.lt k hk) (by omega) k h1⟩))
  have z_w14 := K_w14.size
  clear hz0
  go_wp2_with fail
  refine (markAcceptor_r A_x1 A_x1' c_x1 c_x1' _ f1 _ r_x0 _ _ _ (o_x1.keep (fun k hk => o_x1.lt k hk) k_x1) (by omega) (o_x1'.keep (fun k hk => o_x1'.lt k hk) k_x1') (by omega) (by omega) (by omega)).mono ?_
  rintro e w15 ⟨r_x1, rfl, r0_x1, r1_x1, K_w15⟩
  have hz0 := hb.size
  replace k_ref := k_ref.trans (K_w15.mono (fun k h1 h2 => ⟨apart (fun k hk => o_x1.lt k hk) (by omega) k h1 h2, apart (fun k hk => o_x1'.lt k hk) (by omega) k h1 h2⟩))
  replace k_g := k_g.trans (K_w15.mono (fun k h1 h2 => ⟨apart (fun k hk => o_x1.lt k hk) (by omega) k h1 h2, apart (fun k hk => o_x1'.lt k hk) (by omega) k h1 h2⟩))
  replace hb := hb.trans (K_w15.below hz0 (fun k h1 => ⟨apart0 (fun k hk => o_x1.lt k hk) (by omega) k h1, apart0 (fun k hk => o_x1'.lt k hk) (by omega) k h1⟩))
  have z_w15 := K_w15.size
  clear hz0
  have dk : decide (r_x1 < 0) = false := decide_eq_false (by omega)
  go_wp2_with fail
  refine (valB (eqInt64S_c A_g A_ref c_g c_ref (RFirstDifferent ms0 f0 ls0 ms1 f1 ls1).1 (RFirstDifferent ms0 f0 ls0 ms1 f1 ls1).1 _ (by have := RFirstDifferent_len ms0 f0 ls0 ms1 f1 ls1; omega) (o_g.keep (fun k hk => o_g.lt k hk) k_g).see' (o_ref.keep (fun k hk => o_ref.lt k hk) k_ref).see') (decide_eq_true rfl)).mono ?_
  rintro e w16 ⟨rfl, hb_w16⟩
  replace k_ref := k_ref.trans (kb hb_w16)
  replace k_g := k_g.trans (kb hb_w16)
  replace hb := btrans hb hb_w16
  have z_w16 := hb_w16.size
  go_wp2_with fail
  have ln := RFirstDifferent_len ms0 f0 ls0 ms1 f1 ls1
  refine (markInt64S_c A_g c_g (RFirstDifferent ms0 f0 ls0 ms1 f1 ls1).1 1 _ _ (o_g.keep (fun k hk => o_g.lt k hk) k_g) (by omega) (by decide) (by decide)).mono ?_
  rintro e w17 ⟨rfl, o_g2, K_w17⟩
  have hz0 := hb.size
  replace k_ref := k_ref.trans (K_w17.mono (apart (fun k hk => o_g.lt k hk) (by omega)))
  replace hb := hb.trans (K_w17.below hz0 (apart0 (fun k hk => o_g.lt k hk) (by omega)))
  have z_w17 := K_w17.size
  clear hz0
  have s_g := o_g2.see'
  have nn : ¬ ((1 : Int) + ((RFirstDifferent ms0 f0 ls0 ms1 f1 ls1).1.length : Int) < 0) := by omega
  go_wp2_with fail
  refine (heldInt64S_c A_g c_g (RFirstDifferent ms0 f0 ls0 ms1 f1 ls1).1.length 1 _ s_g (by omega) (by decide) (by decide)).mono ?_
  rintro e w18 ⟨rfl, hb_w18⟩
  replace k_ref := k_ref.trans (kb hb_w18)
  replace hb := btrans hb hb_w18
  have z_w18 := hb_w18.size
  replace s_g := s_g.below hb_w18
  have y00 := bcell hb q0_0
  have y01 := bcell hb q0_1
  have y02 := bcell hb q0_2
  have y10 := bcell hb q1_0
  have y11 := bcell hb q1_1
  have y12 := bcell hb q1_2
  go_wp2_with fail
  go_region_held3 (fun w' => w'.cell? ⟨w.heap.size, 0, none⟩ = some (.slice A0 ms0.length c0) ∧ w'.cell? ⟨w.heap.size, 1, none⟩ = some (.int .i64 f0) ∧ w'.cell? ⟨w.heap.size, 2, none⟩ = some (.slice B0 ls0.length d0) ∧ w'.cell? ⟨w.heap.size + 1, 0, none⟩ = some (.slice A1 ms1.length c1) ∧ w'.cell? ⟨w.heap.size + 1, 1, none⟩ = some (.int .i64 f1) ∧ w'.cell? ⟨w.heap.size + 1, 2, none⟩ = some (.slice B1 ls1.length d1)) (go_keep) (first | (go_at_call_of 17 (Value.agg #[.slice A0 ms0.length c0, .int .i64 f0, .slice B0 ls0.length d0]); refine (toAcceptor_c A0 B0 c0 d0 ms0 f0 ls0 _ (h0.below (btrans k0 hb.drew)) (by omega) (g0.below (btrans k0 hb.drew)) (by omega)).mono ?_; rintro e w19 ⟨v_u0, v_u0', rfl, o_u0, o_u0', hb_w19⟩; obtain ⟨A_u0, c_u0, rfl, _⟩ := o_u0.see; obtain ⟨A_u0', c_u0', rfl, _⟩ := o_u0'.see; replace hb_w19 := bdr hb_w19; have y006 := bcell hb_w19 y00; have y016 := bcell hb_w19 y01; have y026 := bcell hb_w19 y02; have y106 := bcell hb_w19 y10; have y116 := bcell hb_w19 y11; have y126 := bcell hb_w19 y12) | (go_at_call_of 17 (Value.agg #[.slice A1 ms1.length c1, .int .i64 f1, .slice B1 ls1.length d1]); refine (toAcceptor_c A1 B1 c1 d1 ms1 f1 ls1 _ (h1.below (btrans k0 (btrans hb hb_w19))) (by omega) (g1.below (btrans k0 (btrans hb hb_w19))) (by omega)).mono ?_; rintro e w20 ⟨v_u1, v_u1', rfl, o_u1, o_u1', hb_w20⟩; obtain ⟨A_u1, c_u1, rfl, _⟩ := o_u1.see; obtain ⟨A_u1', c_u1', rfl, _⟩ := o_u1'.see; have y007 := bcell hb_w20 y006; have y017 := bcell hb_w20 y016; have y027 := bcell hb_w20 y026; have y107 := bcell hb_w20 y106; have y117 := bcell hb_w20 y116; have y127 := bcell hb_w20 y126) | (go_at_call 34; refine (implFirstDifferent_l (o_u0.below hb_w20).see' (by omega) o_u0.nilok (o_u0'.below hb_w20).see' (by omega) o_u0'.nilok o_u1.see' (by omega) o_u1.nilok o_u1'.see' (by omega) o_u1'.nilok).mono ?_; rintro e w21 ⟨v_hh, rfl, o_hh, hb_w21⟩; obtain ⟨A_hh, c_hh, rfl, _⟩ := o_hh.see; have y008 := bcell hb_w21 y007; have y018 := bcell hb_w21 y017; have y028 := bcell hb_w21 y027; have y108 := bcell hb_w21 y107; have y118 := bcell hb_w21 y117; have y128 := bcell hb_w21 y127))
  clear y00 y006 y007 y008 y01 y016 y017 y018 y02 y026 y027 y028 y10 y106 y107 y108 y11 y116 y117 y118 y12 y126 y127 y128
  replace k_ref := k_ref.trans (kb hb_w19)
  replace hb := btrans hb hb_w19
  have z_w19 := hb_w19.size
  replace s_g := s_g.below hb_w19
  replace k_ref := k_ref.trans (kb hb_w20)
  replace hb := btrans hb hb_w20
  have z_w20 := hb_w20.size
  replace s_g := s_g.below hb_w20
  replace k_ref := k_ref.trans (kb hb_w21)
  replace hb := btrans hb hb_w21
  have z_w21 := hb_w21.size
  replace s_g := s_g.below hb_w21
  have k_hh : Keep (fun k => w20.heap.size ≤ k ∧ k < w21.heap.size) w21 w21 := Keep.refl _ _
  go_wp2_with fail
  refine (valB (eqInt64S_c A_hh A_ref c_hh c_ref (RFirstDifferent ms0 f0 ls0 ms1 f1 ls1).1 (RFirstDifferent ms0 f0 ls0 ms1 f1 ls1).1 _ (by have := RFirstDifferent_len ms0 f0 ls0 ms1 f1 ls1; omega) (o_hh.keep (fun k hk => o_hh.lt k hk) k_hh).see' (o_ref.keep (fun k hk => o_ref.lt k hk) k_ref).see') (decide_eq_true rfl)).mono ?_
  rintro e w22 ⟨rfl, hb_w22⟩
  replace k_ref := k_ref.trans (kb hb_w22)
  replace k_hh := k_hh.trans (kb hb_w22)
  replace hb := btrans hb hb_w22
  have z_w22 := hb_w22.size
  replace s_g := s_g.below hb_w22
  go_wp2_with fail
  refine (heldInt64S_c A_g c_g (RFirstDifferent ms0 f0 ls0 ms1 f1 ls1).1.length 1 _ s_g (by omega) (by decide) (by decide)).mono ?_
  rintro e w23 ⟨rfl, hb_w23⟩
  replace k_ref := k_ref.trans (kb hb_w23)
  replace k_hh := k_hh.trans (kb hb_w23)
  replace hb := btrans hb hb_w23
  have z_w23 := hb_w23.size
  replace s_g := s_g.below hb_w23
  go_wp2
  go_returns
  exact ⟨rfl, btrans k0 hb⟩
end Go.Proofs.Ytbodaefdaagelaa
