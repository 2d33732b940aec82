/- What the laws' walks share: rows of the call's own as they are read, kept and told apart; what is left of a count; marks. No condition. -/
import Derived.Test.YtbodaefdaagelaaEq
import Derived.Test.YtbodaefdaagelaaMark
import Derived.Test.YtbodaefdaagelaaMarkMaps
namespace Go.Proofs.Ytbodaefdaagelaa
set_option linter.unusedSimpArgs false
set_option linter.unusedVariables false
set_option linter.unusedSectionVars false
open Go.RowKit
theorem Keep.alloc {S : Nat → Prop} {w w' : World} (h : Keep S w w') (o : Obj) : Keep S w (w'.alloc o) := h.trans (kb (Below.alloc (Below.refl _ w') (Nat.le_refl _) o))
theorem apart {A : Option Addr} {n c lo hi lo' hi' B : Nat} (h : ∀ k, (Value.slice A n c).ownBlock = some k → lo ≤ k ∧ k < hi) (hd : hi ≤ lo' ∨ hi' ≤ lo) : ∀ k, k < B → (lo' ≤ k ∧ k < hi') → NotOf A k := fun k _ hk a ha e => by
  subst ha
  have := h a.block rfl
  omega
theorem apart0 {A : Option Addr} {n c lo hi B : Nat} (h : ∀ k, (Value.slice A n c).ownBlock = some k → lo ≤ k ∧ k < hi) (hd : B ≤ lo) : ∀ k, k < B → NotOf A k := fun k hk a ha e => by
  subst ha
  have := h a.block rfl
  omega
theorem szL_ok {n : Nat} {left : Int} (h : ¬ szL n left < 0) (hl : left ≤ 1048576) : n ≤ 1048576 ∧ 0 ≤ szL n left ∧ szL n left ≤ 1048576 := by
  unfold szL at h ⊢
  split at h
  · omega
  · rw [if_neg (by assumption)]; omega
theorem markInt64S_r (A : Option Addr) (c : Nat) (xs : List Int) (k0 : Int) (base : Nat) (w : World) (h : OwnInts w base (.slice A xs.length c) xs) (hn : xs.length ≤ 2097152) (h0 : 0 ≤ k0) (h1 : k0 ≤ 1099511627776) :
    Calls Try.prog 27 #[.slice A xs.length c, .int .i64 k0] w fun e w' => ∃ r : Int, e = .returned (.int .i64 r) ∧ k0 ≤ r ∧ r ≤ k0 + 20971520 ∧ Keep (NotOf A) w w' :=
  (markInt64S_c A c xs k0 base w h hn h0 h1).mono fun _ _ ⟨he, _, hk⟩ => ⟨_, he, by omega, by omega, hk⟩
theorem markMapS_r (A : Option Addr) (c : Nat) (ms : List Mp) (k0 : Int) (base : Nat) (w : World) (h : OwnMaps w base (.slice A ms.length c) ms) (hn : ms.length ≤ 2097152) (h0 : 0 ≤ k0) (h1 : k0 ≤ 1099511627776) :
    Calls Try.prog 71 #[.slice A ms.length c, .int .i64 k0] w fun e w' => ∃ r : Int, e = .returned (.int .i64 r) ∧ k0 ≤ r ∧ r ≤ k0 + 20971520 ∧ Keep (NotOf A) w w' :=
  (markMapS_c A c ms k0 base w h hn h0 h1).mono fun _ _ ⟨he, _, hk⟩ => ⟨_, he, by omega, by omega, hk⟩
theorem apart1 {A : Option Addr} {n c lo hi k : Nat} (h : ∀ k, (Value.slice A n c).ownBlock = some k → lo ≤ k ∧ k < hi) (hd : hi ≤ k ∨ k < lo) : NotOf A k := fun a ha e => by
  subst ha
  have := h a.block rfl
  omega
end Go.Proofs.Ytbodaefdaagelaa
