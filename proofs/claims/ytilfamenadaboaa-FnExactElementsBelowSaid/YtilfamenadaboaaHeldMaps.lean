/- The laws' marks in a list of maps, read again. No condition. -/
import Derived.Test.YtilfamenadaboaaMarkMaps
namespace Go.Proofs.Ytilfamenadaboaa
set_option linter.unusedSimpArgs false
set_option linter.unusedVariables false
set_option linter.unusedSectionVars false
open Go.RowKit
set_option maxHeartbeats 4000000 in
theorem heldMapS_c (A : Option Addr) (c n : Nat) (k0 : Int) (w : World) (h : SeeMaps w A (markMs k0 n)) (hn : n ≤ 2097152) (h0 : 0 ≤ k0) (h1 : k0 ≤ 1099511627776) :
    Calls Try.prog 27 #[.slice A n c, .int .i64 k0] w fun e w' => e = .returned (.int .i64 (k0 + (n : Int) * 6)) ∧ Below w.heap.size w w' := by
  go_enter Try.func27, Try.ntmps27
  go_wp2
  go_loopw [5, 1] (fun i q wr => ∃ k : Nat, k ≤ n ∧ i = .int .i64 k ∧ q = .int .i64 (k0 + (k : Int) * 6) ∧ Below w.heap.size w wr) (fun i _ _ => n - (intOf i).toNat)
  case atStart => exact ⟨0, Nat.zero_le _, rfl, by simp, Below.refl _ _⟩
  case round =>
    obtain ⟨k, hk, rfl, rfl, hb⟩ := hrel
    by_cases hlt : k < n
    · obtain ⟨b, o, y, rfl, hy, g⟩ := (h.below hb).at_ (k := k) (by rw [markMs_length]; exact hlt)
      rw [markMs_at k0 hlt] at hy
      obtain rfl := Option.some.inj hy
      obtain ⟨q, hq⟩ : ∃ q : Int, q = k0 + (k : Int) * 6 := ⟨_, rfl⟩
      have q0 : 0 ≤ q := by omega
      have q1 : q ≤ 1099527000000 := by omega
      rw [← hq] at g ⊢
      obtain ⟨g0, g1, g2, g3, g4, g5⟩ := g
      simp only [markM] at g0 g1 g2 g3 g4 g5
      have HQ := Lib.hid hq
      have hl : (0 : Int) ≤ k := by omega
      have hl' : (k : Int) < n := by omega
      clear hy h hq
      go_wp2
      refine wp_loop_rounds 6 ?_
      rw [rounds_succ]
      go_wp2
      rw [rounds_succ]
      go_wp2
      rw [rounds_succ]
      go_wp2
      rw [rounds_succ]
      go_wp2
      rw [rounds_succ]
      go_wp2
      rw [rounds_succ]
      go_wp2
      go_roundw
      case rel => exact ⟨k + 1, by omega, by go_num, by have := HQ.out; go_num, hb⟩
      case measure => simp [intOf]; omega
    · obtain rfl : k = n := by omega
      go_wp2
      go_returns
      exact ⟨rfl, hb⟩
end Go.Proofs.Ytilfamenadaboaa
