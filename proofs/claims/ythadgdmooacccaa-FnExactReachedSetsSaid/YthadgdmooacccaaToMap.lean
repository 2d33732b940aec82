/- 'toMap', 'toMapS', 'toInt64S' and 'toAcceptor' copy what came in. No condition. -/
import Derived.Test.YthadgdmooacccaaIsMap
namespace Go.Proofs.Ythadgdmooacccaa
set_option linter.unusedSimpArgs false
set_option linter.unusedVariables false
set_option linter.unusedSectionVars false
open Go.RowKit
set_option maxHeartbeats 1000000 in
theorem toMap_c (m : Mp) (w : World) :
    Calls Try.prog 58 #[.agg #[.int .i64 m.p, .int .i64 m.a, .int .i64 m.b, .int .i64 m.c, .int .i64 m.d, .int .i64 m.e]] w fun e w' => e = .returned (.agg #[.int .i64 m.p, .int .i64 m.a, .int .i64 m.b, .int .i64 m.c, .int .i64 m.d, .int .i64 m.e]) ∧ Below w.heap.size w w' := by
  go_enter Try.func58, Try.ntmps58
  go_wp2
  go_rounds 6
  go_returns
  exact ⟨rfl, by go_grown⟩
set_option maxHeartbeats 1000000 in
theorem toMapS_c (A : Option Addr) (c : Nat) (ms : List Mp) (w : World) (hs : SeeMaps w A ms) (hn : ms.length ≤ 2097152) :
    Calls Try.prog 17 #[.slice A ms.length c] w fun e w' => ∃ v, e = .returned v ∧ OwnMaps w' w.heap.size v ms ∧ Below w.heap.size w w' := by
  obtain ⟨i, hi, hz0, hz1, hz2⟩ := info_parts info_map
  go_enter Try.func17, Try.ntmps17
  go_wp2_with (at_make; refine wpList_make_full _ rfl _ _ 27 rfl w.heap.size 61 i _ 6 Try.underlying27 hi hz0 hz1 _ _ _ _ ms.length rfl rfl rfl rfl (by rw [hz2]; omega) (by unfold maxLen; omega) (Nat.le_refl _) ?_)
  intro w1 hown hg
  go_wp2
  have hown0 : OwnMaps w1 w.heap.size (.slice (some ⟨w.heap.size, 0, none⟩) ms.length ms.length) (ms.take 0 ++ List.replicate (ms.length - 0) Mp.z) := ⟨_, by simpa using hown, by simpa using toList_made6 ms.length⟩
  have hb0 : Below w.heap.size w w1 := (Below.refl _ _).grown hg (Nat.le_refl _) (fun k h => by cases h)
  clear hown hg
  go_loopw [4] (fun i wr => ∃ k : Nat, k ≤ ms.length ∧ i = .int .i64 k ∧ OwnMaps wr w.heap.size (.slice (some ⟨w.heap.size, 0, none⟩) ms.length ms.length) (ms.take k ++ List.replicate (ms.length - k) Mp.z) ∧ Below w.heap.size w wr) (fun i _ => ms.length - (intOf i).toNat)
  case atStart => exact ⟨0, Nat.zero_le _, rfl, hown0, hb0⟩
  case round =>
    clear hown0 hb0
    obtain ⟨k, hk, rfl, ho, hb1⟩ := hrel
    by_cases hlt : k < ms.length
    · obtain ⟨b, o, rfl, g⟩ := hs (ne_of_lt hlt)
      obtain ⟨m, hm⟩ := el hlt
      obtain ⟨g0, g1, g2, g3, g4, g5⟩ := (g k m hm).below hb1
      have HM := Lib.hid hm
      clear g hs hm
      have hl : (0 : Int) ≤ k := by omega
      have hl' : (k : Int) < ms.length := by omega
      go_wp2_with (go_at_call 58; refine (toMap_c _ _).mono ?_; rintro e w2 ⟨rfl, hb2⟩; have ho2 := ho.below hb2; obtain ⟨s0, s1, s2, s3, s4, s5⟩ := ho2.at_ (fill_at ms Mp.z hlt); have f := ho2.free)
      go_roundw
      case rel =>
        refine ⟨k + 1, by omega, by go_num, ?_, ?_⟩
        · rw [← fill_set ms Mp.z HM.out]
          exact ho2.put (by rw [fill_len ms Mp.z hk]; exact hlt) m
        · have := btrans hb1 hb2
          go_grown
      case measure => simp [intOf]; omega
    · obtain rfl : k = ms.length := by omega
      go_wp2
      go_returns
      exact ⟨_, rfl, by rw [fill_end] at ho; exact ho, hb1⟩
set_option maxHeartbeats 1000000 in
theorem toInt64S_c (A : Option Addr) (c : Nat) (xs : List Int) (w : World) (hs : SeeInts w A xs) (hn : xs.length ≤ 2097152) :
    Calls Try.prog 18 #[.slice A xs.length c] w fun e w' => ∃ v, e = .returned v ∧ OwnInts w' w.heap.size v xs ∧ Below w.heap.size w w' := by
  obtain ⟨i, hi, hz0, hz1, hz2⟩ := info_parts info_int
  go_enter Try.func18, Try.ntmps18
  go_wp2_with (at_make; refine wpList_make_full _ rfl _ _ 23 rfl w.heap.size 2 i _ 1 Try.underlying23 hi hz0 hz1 _ _ _ _ xs.length rfl rfl rfl rfl (by rw [hz2]; omega) (by unfold maxLen; omega) (Nat.le_refl _) ?_)
  intro w1 hown hg
  go_wp2
  have hown0 : OwnInts w1 w.heap.size (.slice (some ⟨w.heap.size, 0, none⟩) xs.length xs.length) (xs.take 0 ++ List.replicate (xs.length - 0) 0) := by simpa using OwnInts.made (n := xs.length) (by simpa using hown)
  have hb0 : Below w.heap.size w w1 := (Below.refl _ _).grown hg (Nat.le_refl _) (fun k h => by cases h)
  clear hown hg
  go_loopw [4] (fun i wr => ∃ k : Nat, k ≤ xs.length ∧ i = .int .i64 k ∧ OwnInts wr w.heap.size (.slice (some ⟨w.heap.size, 0, none⟩) xs.length xs.length) (xs.take k ++ List.replicate (xs.length - k) 0) ∧ Below w.heap.size w wr) (fun i _ => xs.length - (intOf i).toNat)
  case atStart => exact ⟨0, Nat.zero_le _, rfl, hown0, hb0⟩
  case round =>
    clear hown0 hb0
    obtain ⟨k, hk, rfl, ho, hb1⟩ := hrel
    by_cases hlt : k < xs.length
    · obtain ⟨b, o, x, rfl, hx, g⟩ := (hs.below hb1).at_ hlt
      have HX := Lib.hid hx
      clear hs hx
      have hl : (0 : Int) ≤ k := by omega
      have hl' : (k : Int) < xs.length := by omega
      have s0 := ho.at_ (fill_at xs 0 hlt)
      have f := ho.free
      go_wp2
      go_roundw
      case rel =>
        refine ⟨k + 1, by omega, by go_num, ?_, by go_grown⟩
        rw [← fill_set xs 0 HX.out]
        exact ho.put k x
      case measure => simp [intOf]; omega
    · obtain rfl : k = xs.length := by omega
      go_wp2
      go_returns
      exact ⟨_, rfl, by rw [fill_end] at ho; exact ho, hb1⟩
end Go.Proofs.Ythadgdmooacccaa
