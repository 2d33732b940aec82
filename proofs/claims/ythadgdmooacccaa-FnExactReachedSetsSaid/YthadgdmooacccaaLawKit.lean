/- The laws' marks: numbers written into a slice, and looked for. No condition. -/
import Derived.Test.YthadgdmooacccaaBase
import Derived.Test.YthadgdmooacccaaMul
import Derived.Test.YthadgdmooacccaaEq
namespace Go.Proofs.Ythadgdmooacccaa
set_option linter.unusedSimpArgs false
set_option linter.unusedVariables false
set_option linter.unusedSectionVars false
open Go.RowKit
def marksTo (k : Int) (xs : List Int) (i : Nat) : Prop := ∀ j, j < i → xs[j]? = some (k + j)
def markL (k : Int) (n : Nat) : List Int := (List.range n).map fun (j : Nat) => k + (j : Int)
theorem markL_at (k : Int) {n j : Nat} (h : j < n) : (markL k n)[j]? = some (k + j) := by simp [markL, h]
theorem markL_length (k : Int) (n : Nat) : (markL k n).length = n := by simp [markL]
theorem marksTo.all {k : Int} {xs : List Int} (h : marksTo k xs xs.length) : xs = markL k xs.length := List.ext_getElem? fun j => by
  by_cases hj : j < xs.length
  · rw [h j hj, markL_at k hj]
  · rw [List.getElem?_eq_none (by omega), List.getElem?_eq_none (by rw [markL_length]; omega)]
theorem marksTo.snoc {k : Int} {xs : List Int} {i : Nat} (h : marksTo k xs i) (hi : i < xs.length) : marksTo k (xs.set i (k + i)) (i + 1) := fun j hj => by
  by_cases e : j = i
  · subst e; rw [List.getElem?_set_self hi]
  · rw [List.getElem?_set_ne (Ne.symm e)]; exact h j (by omega)
/-- a slice's own block alone turns -/
def NotOf (A : Option Addr) (k : Nat) : Prop := ∀ a, A = some a → k ≠ a.block
theorem Keep.setCell {S : Nat → Prop} {w w' : World} (h : Keep S w w') {p : Addr} (hp : ¬ S p.block) (u : Value) : Keep S w (w'.setCell p u) :=
  ⟨h.os, h.tape, h.output, by simpa using h.size, fun k hk hs => by rw [heap_setCell_other _ _ _ _ (fun e => hp (e ▸ hs))]; exact h.block k hk hs⟩
set_option maxHeartbeats 1000000 in
theorem markInt64S_c (A : Option Addr) (c : Nat) (xs : List Int) (k0 : Int) (base : Nat) (w : World) (h : OwnInts w base (.slice A xs.length c) xs) (hn : xs.length ≤ 2097152) (h0 : 0 ≤ k0) (h1 : k0 ≤ 1099511627776) :
    Calls Try.prog 23 #[.slice A xs.length c, .int .i64 k0] w fun e w' => e = .returned (.int .i64 (k0 + xs.length)) ∧ OwnInts w' base (.slice A xs.length c) (markL k0 xs.length) ∧ Keep (NotOf A) w w' := by
  go_enter Try.func23, Try.ntmps23
  go_wp2
  go_loopw [5, 1] (fun i q wr => ∃ k : Nat, k ≤ xs.length ∧ i = .int .i64 k ∧ q = .int .i64 (k0 + k) ∧ (∃ ys : List Int, OwnInts wr base (.slice A xs.length c) ys ∧ ys.length = xs.length ∧ marksTo k0 ys k) ∧ Keep (NotOf A) w wr) (fun i _ _ => xs.length - (intOf i).toNat)
  case atStart => exact ⟨0, Nat.zero_le _, rfl, by simp, ⟨xs, h, rfl, fun j hj => absurd hj (Nat.not_lt_zero _)⟩, Keep.refl _ _⟩
  case round =>
    obtain ⟨k, hk, rfl, rfl, ⟨ys, hown, hy, hm⟩, hK⟩ := hrel
    by_cases hlt : k < xs.length
    · obtain ⟨A', c', e, hs⟩ := hown.see
      obtain ⟨b, o, y, e2, hyk, g⟩ := hs.at_ (show k < ys.length by omega)
      simp only [Value.slice.injEq] at e
      obtain ⟨rfl, _, _⟩ := e
      subst e2
      obtain rfl : o = 0 := by
        have h2 := hown
        unfold OwnInts at h2
        rcases h2.2 with ⟨h', _⟩ | ⟨g', cap', cur, h', _⟩
        · simp at h'
        · simp at h'; exact h'.1.2
      have hf := hown.free
      have hp := hown.put k (k0 + k)
      have hl : (0 : Int) ≤ k := by omega
      have hl' : (k : Int) < xs.length := by omega
      simp only [Nat.zero_add] at g
      have HO := Lib.hid hp
      have HM := Lib.hid hm
      have HY := Lib.hid hy
      have HK := Lib.hid hK
      clear hp hm hy hyk hs h hown hK
      go_wp2
      go_roundw
      case rel =>
        refine ⟨k + 1, by omega, by go_num, by go_num, ⟨ys.set k (k0 + k), HO.out, by rw [List.length_set, HY.out], HM.out.snoc (by rw [HY.out]; exact hlt)⟩, HK.out.setCell (p := ⟨b, k, none⟩) (fun hN => hN _ rfl rfl) _⟩
      case measure => simp [intOf]; omega
    · obtain rfl : k = xs.length := by omega
      have e : ys = markL k0 xs.length := by rw [← hy]; exact marksTo.all (by rw [hy]; exact hm)
      subst e
      go_wp2
      go_returns
      exact ⟨rfl, hown, hK⟩
set_option maxHeartbeats 1000000 in
theorem heldInt64S_c (A : Option Addr) (c n : Nat) (k0 : Int) (w : World) (h : SeeInts w A (markL k0 n)) (hn : n ≤ 2097152) (h0 : 0 ≤ k0) (h1 : k0 ≤ 1099511627776) :
    Calls Try.prog 24 #[.slice A n c, .int .i64 k0] w fun e w' => e = .returned (.int .i64 (k0 + n)) ∧ Below w.heap.size w w' := by
  go_enter Try.func24, Try.ntmps24
  go_wp2
  go_loopw [5, 1] (fun i q wr => ∃ k : Nat, k ≤ n ∧ i = .int .i64 k ∧ q = .int .i64 (k0 + k) ∧ Below w.heap.size w wr) (fun i _ _ => n - (intOf i).toNat)
  case atStart => exact ⟨0, Nat.zero_le _, rfl, by simp, Below.refl _ _⟩
  case round =>
    obtain ⟨k, hk, rfl, rfl, hb⟩ := hrel
    by_cases hlt : k < n
    · obtain ⟨b, o, y, rfl, hy, g⟩ := (h.below hb).at_ (k := k) (by rw [markL_length]; exact hlt)
      rw [markL_at k0 hlt] at hy
      obtain rfl := Option.some.inj hy
      have hl : (0 : Int) ≤ k := by omega
      have hl' : (k : Int) < n := by omega
      clear hy h
      go_wp2
      go_roundw
      case rel => exact ⟨k + 1, by omega, by go_num, by go_num, hb⟩
      case measure => simp [intOf]; omega
    · obtain rfl : k = n := by omega
      go_wp2
      go_returns
      exact ⟨rfl, hb⟩
/-! The laws' marks in a list of maps. -/
def markM (k : Int) : Mp := ⟨k, k + 1, k + 1 + 1, k + 1 + 1 + 1, k + 1 + 1 + 1 + 1, k + 1 + 1 + 1 + 1 + 1⟩
def markMs (k : Int) (n : Nat) : List Mp := (List.range n).map fun (j : Nat) => markM (k + (j : Int) * 6)
theorem markMs_at (k : Int) {n j : Nat} (h : j < n) : (markMs k n)[j]? = some (markM (k + (j : Int) * 6)) := by simp [markMs, h]
theorem markMs_length (k : Int) (n : Nat) : (markMs k n).length = n := by simp [markMs]
def mmarksTo (k : Int) (xs : List Mp) (i : Nat) : Prop := ∀ j, j < i → xs[j]? = some (markM (k + (j : Int) * 6))
theorem mmarksTo.all {k : Int} {xs : List Mp} (h : mmarksTo k xs xs.length) : xs = markMs k xs.length := List.ext_getElem? fun j => by
  by_cases hj : j < xs.length
  · rw [h j hj, markMs_at k hj]
  · rw [List.getElem?_eq_none (by omega), List.getElem?_eq_none (by rw [markMs_length]; omega)]
theorem mmarksTo.snoc {k : Int} {xs : List Mp} {i : Nat} (h : mmarksTo k xs i) (hi : i < xs.length) : mmarksTo k (xs.set i (markM (k + (i : Int) * 6))) (i + 1) := fun j hj => by
  by_cases e : j = i
  · subst e; rw [List.getElem?_set_self hi]
  · rw [List.getElem?_set_ne (Ne.symm e)]; exact h j (by omega)
theorem own_off {w : World} {base : Nat} {e : TypeId} {size b o l c n : Nat} {xs : List Value} (h : w.ownsRow base e size (.slice (some ⟨b, o, none⟩) l c) n xs) : o = 0 := by
  rcases h.2 with ⟨h', _⟩ | ⟨g', cap', cur, h', _⟩
  · simp at h'
  · simp at h'; exact h'.1.2
set_option maxHeartbeats 4000000 in
theorem markMapS_c (A : Option Addr) (c : Nat) (ms : List Mp) (k0 : Int) (base : Nat) (w : World) (h : OwnMaps w base (.slice A ms.length c) ms) (hn : ms.length ≤ 2097152) (h0 : 0 ≤ k0) (h1 : k0 ≤ 1099511627776) :
    Calls Try.prog 22 #[.slice A ms.length c, .int .i64 k0] w fun e w' => e = .returned (.int .i64 (k0 + (ms.length : Int) * 6)) ∧ OwnMaps w' base (.slice A ms.length c) (markMs k0 ms.length) ∧ Keep (NotOf A) w w' := by
  go_enter Try.func22, Try.ntmps22
  go_wp2
  go_loopw [5, 1] (fun i q wr => ∃ k : Nat, k ≤ ms.length ∧ i = .int .i64 k ∧ q = .int .i64 (k0 + (k : Int) * 6) ∧ (∃ ys : List Mp, OwnMaps wr base (.slice A ms.length c) ys ∧ ys.length = ms.length ∧ mmarksTo k0 ys k) ∧ Keep (NotOf A) w wr) (fun i _ _ => ms.length - (intOf i).toNat)
  case atStart => exact ⟨0, Nat.zero_le _, rfl, by simp, ⟨ms, h, rfl, fun j hj => absurd hj (Nat.not_lt_zero _)⟩, Keep.refl _ _⟩
  case round =>
    obtain ⟨k, hk, rfl, rfl, ⟨ys, hown, hy, hm⟩, hK⟩ := hrel
    by_cases hlt : k < ms.length
    · obtain ⟨A', c', e, hs⟩ := hown.see
      obtain ⟨b, o, y, e2, hyk, _⟩ := hs.at_ (show k < ys.length by omega)
      simp only [Value.slice.injEq] at e
      obtain ⟨rfl, _, _⟩ := e
      subst e2
      obtain rfl : o = 0 := by obtain ⟨xs, h2, _⟩ := hown; exact own_off h2
      obtain ⟨g0, g1, g2, g3, g4, g5⟩ := hown.at_ hyk
      have hf := hown.free
      have hp := hown.put (show k < ys.length by omega) (markM (k0 + (k : Int) * 6))
      have hl : (0 : Int) ≤ k := by omega
      have hl' : (k : Int) < ms.length := by omega
      obtain ⟨q, hq⟩ : ∃ q : Int, q = k0 + (k : Int) * 6 := ⟨_, rfl⟩
      have q0 : 0 ≤ q := by omega
      have q1 : q ≤ 1099527000000 := by omega
      rw [← hq] at hp ⊢
      simp only [markM] at hp
      have HQ := Lib.hid hq
      have HO := Lib.hid hp
      have HM := Lib.hid hm
      have HY := Lib.hid hy
      have HK := Lib.hid hK
      clear hp hm hy hyk hs h hown hK hq
      go_wp2
      refine wp_loop_rounds 6 ?_
      rw [rounds_succ]
      go_wp2
      rw [rounds_succ]
      go_wp2
      rw [rounds_succ]
      go_wp2
      rw [rounds_succ]
      go_wp2
      rw [rounds_succ]
      go_wp2
      rw [rounds_succ]
      go_wp2
      go_roundw
      case rel =>
        have hNo : ¬ NotOf (some (⟨b, 0, none⟩ : Addr)) b := fun hN => hN _ rfl rfl
        refine ⟨k + 1, by omega, by go_num, by have := HQ.out; go_num, ⟨ys.set k (markM q), HO.out, by rw [List.length_set, HY.out], ?_⟩, ?_⟩
        · rw [HQ.out]
          exact HM.out.snoc (by rw [HY.out]; exact hlt)
        · exact (((((HK.out.setCell (p := ⟨b, _, none⟩) hNo _).setCell (p := ⟨b, _, none⟩) hNo _).setCell (p := ⟨b, _, none⟩) hNo _).setCell (p := ⟨b, _, none⟩) hNo _).setCell (p := ⟨b, _, none⟩) hNo _).setCell (p := ⟨b, _, none⟩) hNo _
      case measure => simp [intOf]; omega
    · obtain rfl : k = ms.length := by omega
      have e : ys = markMs k0 ms.length := by rw [← hy]; exact mmarksTo.all (by rw [hy]; exact hm)
      subst e
      go_wp2
      go_returns
      exact ⟨rfl, hown, hK⟩
/-! What the laws' walks share: rows of the call's own as they are read, kept and told apart; what is left of a count; marks. -/
theorem Keep.alloc {S : Nat → Prop} {w w' : World} (h : Keep S w w') (o : Obj) : Keep S w (w'.alloc o) := h.trans (kb (Below.alloc (Below.refl _ w') (Nat.le_refl _) o))
theorem apart {A : Option Addr} {n c lo hi lo' hi' B : Nat} (h : ∀ k, (Value.slice A n c).ownBlock = some k → lo ≤ k ∧ k < hi) (hd : hi ≤ lo' ∨ hi' ≤ lo) : ∀ k, k < B → (lo' ≤ k ∧ k < hi') → NotOf A k := fun k _ hk a ha e => by
  subst ha
  have := h a.block rfl
  omega
theorem apart0 {A : Option Addr} {n c lo hi B : Nat} (h : ∀ k, (Value.slice A n c).ownBlock = some k → lo ≤ k ∧ k < hi) (hd : B ≤ lo) : ∀ k, k < B → NotOf A k := fun k hk a ha e => by
  subst ha
  have := h a.block rfl
  omega
theorem szL_ok {n : Nat} {left : Int} (h : ¬ szL n left < 0) (hl : left ≤ 1048576) : n ≤ 1048576 ∧ 0 ≤ szL n left ∧ szL n left ≤ 1048576 := by
  unfold szL at h ⊢
  split at h
  · omega
  · rw [if_neg (by assumption)]; omega
theorem markInt64S_r (A : Option Addr) (c : Nat) (xs : List Int) (k0 : Int) (base : Nat) (w : World) (h : OwnInts w base (.slice A xs.length c) xs) (hn : xs.length ≤ 2097152) (h0 : 0 ≤ k0) (h1 : k0 ≤ 1099511627776) :
    Calls Try.prog 23 #[.slice A xs.length c, .int .i64 k0] w fun e w' => ∃ r : Int, e = .returned (.int .i64 r) ∧ k0 ≤ r ∧ r ≤ k0 + 20971520 ∧ Keep (NotOf A) w w' :=
  (markInt64S_c A c xs k0 base w h hn h0 h1).mono fun _ _ ⟨he, _, hk⟩ => ⟨_, he, by omega, by omega, hk⟩
theorem markMapS_r (A : Option Addr) (c : Nat) (ms : List Mp) (k0 : Int) (base : Nat) (w : World) (h : OwnMaps w base (.slice A ms.length c) ms) (hn : ms.length ≤ 2097152) (h0 : 0 ≤ k0) (h1 : k0 ≤ 1099511627776) :
    Calls Try.prog 22 #[.slice A ms.length c, .int .i64 k0] w fun e w' => ∃ r : Int, e = .returned (.int .i64 r) ∧ k0 ≤ r ∧ r ≤ k0 + 20971520 ∧ Keep (NotOf A) w w' :=
  (markMapS_c A c ms k0 base w h hn h0 h1).mono fun _ _ ⟨he, _, hk⟩ => ⟨_, he, by omega, by omega, hk⟩
theorem apart1 {A : Option Addr} {n c lo hi k : Nat} (h : ∀ k, (Value.slice A n c).ownBlock = some k → lo ≤ k ∧ k < hi) (hd : hi ≤ k ∨ k < lo) : NotOf A k := fun a ha e => by
  subst ha
  have := h a.block rfl
  omega
/-! The laws' marks in a list of maps, read again. -/
end Go.Proofs.Ythadgdmooacccaa
