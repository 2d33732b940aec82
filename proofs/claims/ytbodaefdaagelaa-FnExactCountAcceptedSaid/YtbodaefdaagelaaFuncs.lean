/- Predicates handed over as function values: 'IndexFunc', 'ContainsFunc' at lists of numbers and of maps; 'Index', 'Contains' at numbers. No condition. -/
import Derived.Test.YtbodaefdaagelaaIsMap
import Derived.Shelf.Abstract
namespace Go.Proofs.Ytbodaefdaagelaa
set_option linter.unusedSimpArgs false
set_option linter.unusedVariables false
set_option linter.unusedSectionVars false
open Go.RowKit
/-- the place of the first such element, or -1 -/
def fidx {α : Type} (p : α → Bool) (xs : List α) : Int := match xs.findIdx? p with | some i => (i : Int) | none => -1
theorem fidx_hit {α : Type} {p : α → Bool} {xs : List α} {k : Nat} {x : α} (hk : xs[k]? = some x) (hx : p x = true) (h : AllTo (fun x => p x = false) xs k) : fidx p xs = k := by
  obtain ⟨hl, rfl⟩ := List.getElem?_eq_some_iff.1 hk
  have : xs.findIdx? p = some k := List.findIdx?_eq_some_iff_getElem.2 ⟨hl, hx, fun j hj => by simpa using h j _ hj (List.getElem?_eq_getElem (Nat.lt_trans hj hl))⟩
  unfold fidx
  rw [this]
theorem fidx_miss {α : Type} {p : α → Bool} {xs : List α} (h : AllTo (fun x => p x = false) xs xs.length) : fidx p xs = -1 := by
  have : xs.findIdx? p = none := List.findIdx?_eq_none_iff.2 h.all
  unfold fidx
  rw [this]
theorem fidx_any {α : Type} (p : α → Bool) (xs : List α) : decide (0 ≤ fidx p xs) = xs.any p := by
  unfold fidx
  cases h : xs.findIdx? p with
  | none =>
    have := List.findIdx?_eq_none_iff.1 h
    rw [List.any_eq_false.2 (fun x hx => by simpa using this x hx)]
    rfl
  | some i =>
    obtain ⟨hl, hx, _⟩ := List.findIdx?_eq_some_iff_getElem.1 h
    rw [List.any_eq_true.2 ⟨_, List.getElem_mem hl, hx⟩]
    simp
/-- a function value that tells whether an element is such, in every later world, and leaves what lay there as it was -/
def PredB {α : Type} (g : Nat) (lb : Array Value) (enc : α → Value) (p : α → Bool) (xs : List α) (w : World) : Prop :=
  ∀ (W : World) (x : α), x ∈ xs → Below w.heap.size w W → Calls Try.prog g (#[enc x] ++ lb) W fun e w' => e = .returned (.bool (p x)) ∧ Below W.heap.size W w'
theorem PredB.below {α : Type} {g : Nat} {lb : Array Value} {enc : α → Value} {p : α → Bool} {xs : List α} {w w1 : World} (h : PredB g lb enc p xs w) (hb : Below w.heap.size w w1) : PredB g lb enc p xs w1 := fun W x hx hB => h W x hx (btrans hb hB)
def encI (x : Int) : Value := .int .i64 x
def encM (m : Mp) : Value := .agg #[.int .i64 m.p, .int .i64 m.a, .int .i64 m.b, .int .i64 m.c, .int .i64 m.d, .int .i64 m.e]


set_option maxHeartbeats 1000000 in
theorem IndexFuncI_c (g : Nat) (lb : Array Value) (p : Int → Bool) (eg : Enters Try.prog g) (A : Option Addr) (c : Nat) (xs : List Int) (w : World) (h : SeeInts w A xs) (hn : xs.length ≤ 2097152) (hp : PredB g lb encI p xs w) :
    Calls Try.prog 120 #[.slice A xs.length c, .func (.func g) #[] lb] w fun e w' => e = .returned (.int .i64 (fidx p xs)) ∧ Below w.heap.size w w' := by
  unfold Enters at eg
  go_enter Try.func120, Try.ntmps120
  go_wp2
  go_loopw [8] (fun i wr => ∃ k : Nat, k ≤ xs.length ∧ i = .int .i64 k ∧ AllTo (fun x => p x = false) xs k ∧ Below w.heap.size w wr) (fun i _ => xs.length - (intOf i).toNat)
  case atStart => exact ⟨0, Nat.zero_le _, rfl, AllTo.zero _ _, Below.refl _ _⟩
  case round =>
    obtain ⟨k, hk, rfl, hj, hb⟩ := hrel
    by_cases hlt : k < xs.length
    · obtain ⟨b, o, x, rfl, hx, q⟩ := (h.below hb).at_ hlt
      have hl : (0 : Int) ≤ k := by omega
      have hl' : (k : Int) < xs.length := by omega
      have hcall := hp wr x (List.mem_of_getElem? hx) hb
      unfold encI at hcall
      have HJ := Lib.hid hj
      have HX := Lib.hid hx
      clear hj hx hp h
      cases e : p x
      · rw [e] at hcall
        have HE := Lib.hid e
        clear e
        go_wp2_with (go_at_fn g; refine hcall.mono ?_; rintro e w' ⟨rfl, hb'⟩)
        go_roundw
        case rel => exact ⟨k + 1, by omega, by go_num, HJ.out.snoc HX.out HE.out, btrans hb hb'⟩
        case measure => simp [intOf]; omega
      · rw [e] at hcall
        have HE := Lib.hid e
        clear e
        go_wp2_with (go_at_fn g; refine hcall.mono ?_; rintro e w' ⟨rfl, hb'⟩)
        go_returns
        exact ⟨ret_int (fidx_hit HX.out HE.out HJ.out).symm, btrans hb hb'⟩
    · obtain rfl : k = xs.length := by omega
      go_wp2
      go_returns
      exact ⟨ret_int (fidx_miss hj).symm, hb⟩
set_option maxHeartbeats 1000000 in
theorem ContainsFuncI_c (g : Nat) (lb : Array Value) (p : Int → Bool) (eg : Enters Try.prog g) (A : Option Addr) (c : Nat) (xs : List Int) (w : World) (h : SeeInts w A xs) (hn : xs.length ≤ 2097152) (hp : PredB g lb encI p xs w) :
    Calls Try.prog 84 #[.slice A xs.length c, .func (.func g) #[] lb] w fun e w' => e = .returned (.bool (xs.any p)) ∧ Below w.heap.size w w' := by
  rw [← fidx_any]
  go_enter Try.func84, Try.ntmps84
  go_wp2_with (go_at_call 120; go_must (refine (IndexFuncI_c g lb p eg A c xs _ h hn hp).mono ?_); rintro e w2 ⟨rfl, hb2⟩)
  go_returns
  exact ⟨rfl, hb2⟩
end Go.Proofs.Ytbodaefdaagelaa
