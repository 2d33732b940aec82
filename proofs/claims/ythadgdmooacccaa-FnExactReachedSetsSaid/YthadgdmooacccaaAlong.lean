/- 'RankOfWord', 'ImageAlong', on both sides. No condition. -/
import Derived.Test.YthadgdmooacccaaMapS
import Derived.Test.YthadgdmooacccaaReaching
import Derived.Test.YthadgdmooacccaaBits
namespace Go.Proofs.Ythadgdmooacccaa
set_option linter.unusedSimpArgs false
set_option linter.unusedVariables false
set_option linter.unusedSectionVars false
open Go.RowKit
def ptsTo (S k : Nat) : List Int := ((List.range k).filter S.testBit).map fun (i : Nat) => (i : Int)
theorem ptsTo_succ (S k : Nat) : ptsTo S (k + 1) = ptsTo S k ++ (if S.testBit k = true then [(k : Int)] else []) := by
  unfold ptsTo
  rw [List.range_succ, List.filter_append, List.map_append]
  cases h : S.testBit k <;> simp [h]
theorem ptsTo_len (S k : Nat) : (ptsTo S k).length ≤ k := by
  unfold ptsTo
  rw [List.length_map]
  exact Nat.le_trans (List.length_filter_le _ _) (by simp)
theorem ptsTo_all {S : Nat} (hS : S < 32) : ∀ k, 5 ≤ k → ptsTo S k = ptsOf S
  | 0, h => by omega
  | k + 1, h => by
    rcases Nat.lt_or_ge k 5 with hk | hk
    · obtain rfl : k = 4 := by omega
      rfl
    · rw [ptsTo_succ, ptsTo_all hS k hk, if_neg, List.append_nil]
      rw [Nat.testBit_lt_two_pow (Nat.lt_of_lt_of_le hS (Nat.pow_le_pow_right (by decide) hk : 2 ^ 5 ≤ 2 ^ k))]
      decide
set_option maxHeartbeats 1000000 in
theorem l01Points_c (S : Nat) (w : World) (hS : S < 32) :
    Calls Try.prog 67 #[.int .i64 (S : Int)] w fun e w' => ∃ v, e = .returned v ∧ OwnInts w' w.heap.size v (ptsOf S) ∧ Below w.heap.size w w' := by
  go_enter Try.func67, Try.ntmps67
  go_wp2
  go_loopw [4, 3] (fun i out wr => ∃ k : Nat, k ≤ 62 ∧ i = .int .i64 k ∧ OwnInts wr w.heap.size out (ptsTo S k) ∧ Below w.heap.size w wr) (fun i _ _ => 62 - (intOf i).toNat)
  case atStart => exact ⟨0, by omega, rfl, ⟨rfl, .inr ⟨w.heap.size, 0, #[], rfl, Nat.le_refl _, heap_alloc_new w _, Nat.le_refl _, by decide, rfl, rfl⟩⟩, by go_grown⟩
  case round =>
    obtain ⟨k, hk, rfl, hown, hb⟩ := hrel
    have hz := hb.size
    by_cases hlt : k < 62
    · have l0 : (0 : Int) ≤ k := by omega
      have l62 : (k : Int) < 62 := by omega
      have bz := bit_one (S := S) (k := k) (by omega)
      have hl := ptsTo_len S k
      have HS := Lib.hid (ptsTo_succ S k)
      obtain ⟨A0, c0, rfl, _⟩ := hown.see
      cases ht : S.testBit k
      · rw [ht] at bz
        rw [ht] at HS
        generalize ptsTo S k = xs at *
        clear ht
        go_wp2
        go_roundw
        case rel => exact ⟨k + 1, by omega, by go_num, by rw [HS.out]; simpa using hown, hb⟩
        case measure => simp [intOf]; omega
      · rw [ht] at bz
        rw [ht] at HS
        generalize ptsTo S k = xs at *
        clear ht
        go_wp2_with (at_builtin; refine wpList_push_int _ rfl (.tmp 16) (.tmp 18) rfl w.heap.size _ xs rfl (hown.below (by go_grown)) ⟨wr.heap.size, 0, none⟩ (k : Int) rfl (by simp [go_sem]) (by omega) (by go_size) ?_; intro v' w3 hown' hgrow hv')
        go_roundw
        case rel => exact ⟨k + 1, by omega, by go_num, by rw [HS.out]; simpa using hown', Below.grown (w := wr.alloc (.cells #[.int .i64 (k : Int)] 2)) (by go_grown) hgrow (by simp; omega) (fun j hj => (hown.lt j hj).1)⟩
        case measure => simp [intOf]; omega
    · obtain rfl : k = 62 := by omega
      have e := ptsTo_all hS 62 (by omega)
      rw [e] at hown
      obtain ⟨A0, c0, rfl, _⟩ := hown.see
      go_wp2
      go_returns
      exact ⟨_, rfl, hown, hb⟩
set_option maxHeartbeats 1000000 in
theorem rank_c (f : Mp) (n : Int) (w : World) (hf : MpN f n) : Calls Try.prog 65 #[.agg #[.int .i64 f.p, .int .i64 f.a, .int .i64 f.b, .int .i64 f.c, .int .i64 f.d, .int .i64 f.e]] w fun e w' => e = .returned (.int .i64 (onesB (movedB f (2 ^ n.toNat - 1)) : Int)) ∧ Below w.heap.size w w' := by
  have n5 : n ≤ 5 := by have := hf.1.2.1; have := hf.2; omega
  have n1 : 1 ≤ n := by have := hf.1.1; have := hf.2; omega
  have hal := ptsN_AL (n := n) (by omega)
  have hr : (imgL f (ptsN n.toNat)).length = onesB (movedB f (2 ^ n.toNat - 1)) := by
    rw [← ptsN_bits n1 n5, movedB_img hf hal.2, (imgL_in hf hal.2).ones n5]
  have k0 : Below w.heap.size w (w.alloc (Obj.cells #[.int .i64 f.p, .int .i64 f.a, .int .i64 f.b, .int .i64 f.c, .int .i64 f.d, .int .i64 f.e] 61)) := by go_grown
  obtain ⟨q0, q1, q2, q3, q4, q5⟩ := (MpAt.boxed w f 61).cells0
  have hpt : ∀ W, Calls Try.prog 82 #[.int .i64 f.p] W fun e w' => ∃ v, e = .returned v ∧ OwnInts w' W.heap.size v (ptsN n.toNat) ∧ Below W.heap.size W w' := fun W => by rw [hf.2]; exact points_c n W (by omega) n5
  have HPT := Lib.hid hpt
  have him : ∀ W A c, SeeInts W A (ptsN n.toNat) → Calls Try.prog 71 #[.agg #[.int .i64 f.p, .int .i64 f.a, .int .i64 f.b, .int .i64 f.c, .int .i64 f.d, .int .i64 f.e], .slice A (ptsN n.toNat).length c] W fun e w' => ∃ v, e = .returned v ∧ OwnInts w' W.heap.size v (imgL f (ptsN n.toNat)) ∧ Below W.heap.size W w' := fun W A c hs => image_c f n A c (ptsN n.toNat) W hf hs hal.2 (by rw [ptsN_length]; omega)
  rw [← hr]
  generalize imgL f (ptsN n.toNat) = res at him ⊢
  have HIM := Lib.hid him
  clear hr hpt him
  go_enter Try.func65, Try.ntmps65
  go_wp2
  refine wp_region_headS 4 (fun w' => w'.cell? ⟨w.heap.size, 0, none⟩ = some (.int .i64 f.p) ∧ w'.cell? ⟨w.heap.size, 1, none⟩ = some (.int .i64 f.a) ∧ w'.cell? ⟨w.heap.size, 2, none⟩ = some (.int .i64 f.b) ∧ w'.cell? ⟨w.heap.size, 3, none⟩ = some (.int .i64 f.c) ∧ w'.cell? ⟨w.heap.size, 4, none⟩ = some (.int .i64 f.d) ∧ w'.cell? ⟨w.heap.size, 5, none⟩ = some (.int .i64 f.e)) (by kernel_rfl) (by kernel_rfl) ⟨q0, q1, q2, q3, q4, q5⟩ (fun hHeld => ?_)
  simp only [List.drop]
  refine headH_takeS (i := 0) (v := ?_) 3 rfl (by kernel_rfl) (by kernel_rfl) (fun _ _ _ h => h) (Or.inl ⟨by rfl, ?_⟩) hHeld ?_
  rotate_left
  · intro w hSw
    (try dsimp only at hSw)
    go_simp
    try with_reducible rfl
  try simp only [Act.put, List.setIfInBounds_toArray, List.set_cons_zero, List.set_cons_succ]
  refine headH_takeS (i := 1) (v := ?_) 4 rfl (by kernel_rfl) (by kernel_rfl) (fun _ _ _ h => h) (Or.inl ⟨by rfl, ?_⟩) hHeld ?_
  rotate_left
  · intro w hSw
    (try dsimp only at hSw)
    go_simp
    try with_reducible rfl
  try simp only [Act.put, List.setIfInBounds_toArray, List.set_cons_zero, List.set_cons_succ]
  refine headH_takeS (i := 2) (v := ?_) 5 rfl (by kernel_rfl) (by kernel_rfl) (fun _ _ _ h => h) (Or.inl ⟨by rfl, ?_⟩) hHeld ?_
  rotate_left
  · intro w hSw
    (try dsimp only at hSw)
    go_simp
    try with_reducible rfl
  try simp only [Act.put, List.setIfInBounds_toArray, List.set_cons_zero, List.set_cons_succ]
  refine headH_all (rs := [3]) (by kernel_rfl) (by kernel_rfl) (headH_cons rfl (fun K hK => ?_) headH_nil)
  go_simp
  refine (HPT.out _).mono ?_
  rintro e w1 ⟨v1, rfl, hown1, hb1⟩
  obtain ⟨A1, c1, rfl, hs1⟩ := hown1.see
  refine hK.out _ _ ⟨bcell hb1 hHeld.1, bcell hb1 hHeld.2.1, bcell hb1 hHeld.2.2.1, bcell hb1 hHeld.2.2.2.1, bcell hb1 hHeld.2.2.2.2.1, bcell hb1 hHeld.2.2.2.2.2⟩ (fun hHeldn => ?_)
  clear hK K hHeld
  have hHeld := hHeldn
  clear hHeldn
  try simp only [Act.put, List.setIfInBounds_toArray, List.set_cons_zero, List.set_cons_succ]
  refine headH_tail (by kernel_rfl) ?_
  clear hHeld
  replace hb1 := btrans (Below.drew k0) hb1
  go_wp2_with fail
  refine (HIM.out _ A1 c1 hs1).mono ?_
  rintro e w2 ⟨v2, rfl, hown2, hb2⟩
  obtain ⟨A2, c2, rfl, _⟩ := hown2.see
  go_wp2
  go_returns
  exact ⟨rfl, btrans hb1 hb2⟩
end Go.Proofs.Ythadgdmooacccaa
