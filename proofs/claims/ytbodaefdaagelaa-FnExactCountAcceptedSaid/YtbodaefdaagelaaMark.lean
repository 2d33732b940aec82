/- The laws' marks: numbers written into a slice, and looked for. No condition. -/
import Derived.Test.YtbodaefdaagelaaPush
namespace Go.Proofs.Ytbodaefdaagelaa
set_option linter.unusedSimpArgs false
set_option linter.unusedVariables false
set_option linter.unusedSectionVars false
open Go.RowKit
def marksTo (k : Int) (xs : List Int) (i : Nat) : Prop := ∀ j, j < i → xs[j]? = some (k + j)
def markL (k : Int) (n : Nat) : List Int := (List.range n).map fun (j : Nat) => k + (j : Int)
theorem markL_at (k : Int) {n j : Nat} (h : j < n) : (markL k n)[j]? = some (k + j) := by simp [markL, h]
theorem markL_length (k : Int) (n : Nat) : (markL k n).length = n := by simp [markL]
theorem marksTo.all {k : Int} {xs : List Int} (h : marksTo k xs xs.length) : xs = markL k xs.length := List.ext_getElem? fun j => by
  by_cases hj : j < xs.length
  · rw [h j hj, markL_at k hj]
  · rw [List.getElem?_eq_none (by omega), List.getElem?_eq_none (by rw [markL_length]; omega)]
theorem marksTo.snoc {k : Int} {xs : List Int} {i : Nat} (h : marksTo k xs i) (hi : i < xs.length) : marksTo k (xs.set i (k + i)) (i + 1) := fun j hj => by
  by_cases e : j = i
  · subst e; rw [List.getElem?_set_self hi]
  · rw [List.getElem?_set_ne (Ne.symm e)]; exact h j (by omega)
/-- a slice's own block alone turns -/
def NotOf (A : Option Addr) (k : Nat) : Prop := ∀ a, A = some a → k ≠ a.block
theorem Keep.setCell {S : Nat → Prop} {w w' : World} (h : Keep S w w') {p : Addr} (hp : ¬ S p.block) (u : Value) : Keep S w (w'.setCell p u) :=
  ⟨h.os, h.tape, h.output, by simpa using h.size, fun k hk hs => by rw [heap_setCell_other _ _ _ _ (fun e => hp (e ▸ hs))]; exact h.block k hk hs⟩
set_option maxHeartbeats 1000000 in
theorem markInt64S_c (A : Option Addr) (c : Nat) (xs : List Int) (k0 : Int) (base : Nat) (w : World) (h : OwnInts w base (.slice A xs.length c) xs) (hn : xs.length ≤ 2097152) (h0 : 0 ≤ k0) (h1 : k0 ≤ 1099511627776) :
    Calls Try.prog 27 #[.slice A xs.length c, .int .i64 k0] w fun e w' => e = .returned (.int .i64 (k0 + xs.length)) ∧ OwnInts w' base (.slice A xs.length c) (markL k0 xs.length) ∧ Keep (NotOf A) w w' := by
  go_enter Try.func27, Try.ntmps27
  go_wp2
  go_loopw [5, 1] (fun i q wr => ∃ k : Nat, k ≤ xs.length ∧ i = .int .i64 k ∧ q = .int .i64 (k0 + k) ∧ (∃ ys : List Int, OwnInts wr base (.slice A xs.length c) ys ∧ ys.length = xs.length ∧ marksTo k0 ys k) ∧ Keep (NotOf A) w wr) (fun i _ _ => xs.length - (intOf i).toNat)
  case atStart => exact ⟨0, Nat.zero_le _, rfl, by simp, ⟨xs, h, rfl, fun j hj => absurd hj (Nat.not_lt_zero _)⟩, Keep.refl _ _⟩
  case round =>
    obtain ⟨k, hk, rfl, rfl, ⟨ys, hown, hy, hm⟩, hK⟩ := hrel
    by_cases hlt : k < xs.length
    · obtain ⟨A', c', e, hs⟩ := hown.see
      obtain ⟨b, o, y, e2, hyk, g⟩ := hs.at_ (show k < ys.length by omega)
      simp only [Value.slice.injEq] at e
      obtain ⟨rfl, _, _⟩ := e
      subst e2
      obtain rfl : o = 0 := by
        have h2 := hown
        unfold OwnInts at h2
        rcases h2.2 with ⟨h', _⟩ | ⟨g', cap', cur, h', _⟩
        · simp at h'
        · simp at h'; exact h'.1.2
      have hf := hown.free
      have hp := hown.put k (k0 + k)
      have hl : (0 : Int) ≤ k := by omega
      have hl' : (k : Int) < xs.length := by omega
      simp only [Nat.zero_add] at g
      have HO := Lib.hid hp
      have HM := Lib.hid hm
      have HY := Lib.hid hy
      have HK := Lib.hid hK
      clear hp hm hy hyk hs h hown hK
      go_wp2
      go_roundw
      case rel =>
        refine ⟨k + 1, by omega, by go_num, by go_num, ⟨ys.set k (k0 + k), HO.out, by rw [List.length_set, HY.out], HM.out.snoc (by rw [HY.out]; exact hlt)⟩, HK.out.setCell (p := ⟨b, k, none⟩) (fun hN => hN _ rfl rfl) _⟩
      case measure => simp [intOf]; omega
    · obtain rfl : k = xs.length := by omega
      have e : ys = markL k0 xs.length := by rw [← hy]; exact marksTo.all (by rw [hy]; exact hm)
      subst e
      go_wp2
      go_returns
      exact ⟨rfl, hown, hK⟩
set_option maxHeartbeats 1000000 in
theorem heldInt64S_c (A : Option Addr) (c n : Nat) (k0 : Int) (w : World) (h : SeeInts w A (markL k0 n)) (hn : n ≤ 2097152) (h0 : 0 ≤ k0) (h1 : k0 ≤ 1099511627776) :
    Calls Try.prog 28 #[.slice A n c, .int .i64 k0] w fun e w' => e = .returned (.int .i64 (k0 + n)) ∧ Below w.heap.size w w' := by
  go_enter Try.func28, Try.ntmps28
  go_wp2
  go_loopw [5, 1] (fun i q wr => ∃ k : Nat, k ≤ n ∧ i = .int .i64 k ∧ q = .int .i64 (k0 + k) ∧ Below w.heap.size w wr) (fun i _ _ => n - (intOf i).toNat)
  case atStart => exact ⟨0, Nat.zero_le _, rfl, by simp, Below.refl _ _⟩
  case round =>
    obtain ⟨k, hk, rfl, rfl, hb⟩ := hrel
    by_cases hlt : k < n
    · obtain ⟨b, o, y, rfl, hy, g⟩ := (h.below hb).at_ (k := k) (by rw [markL_length]; exact hlt)
      rw [markL_at k0 hlt] at hy
      obtain rfl := Option.some.inj hy
      have hl : (0 : Int) ≤ k := by omega
      have hl' : (k : Int) < n := by omega
      clear hy h
      go_wp2
      go_roundw
      case rel => exact ⟨k + 1, by omega, by go_num, by go_num, hb⟩
      case measure => simp [intOf]; omega
    · obtain rfl : k = n := by omega
      go_wp2
      go_returns
      exact ⟨rfl, hb⟩
end Go.Proofs.Ytbodaefdaagelaa
