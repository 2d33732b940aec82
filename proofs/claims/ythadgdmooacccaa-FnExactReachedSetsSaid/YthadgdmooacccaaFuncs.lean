/- Predicates handed over as function values: 'IndexFunc', 'ContainsFunc' at lists of numbers and of maps; 'Index', 'Contains' at numbers. No condition. -/
import Derived.Test.YthadgdmooacccaaIsMap
import Derived.Test.YthadgdmooacccaaBase
import Derived.Shelf.Abstract
namespace Go.Proofs.Ythadgdmooacccaa
set_option linter.unusedSimpArgs false
set_option linter.unusedVariables false
set_option linter.unusedSectionVars false
open Go.RowKit
/-- the place of the first such element, or -1 -/
def fidx {α : Type} (p : α → Bool) (xs : List α) : Int := match xs.findIdx? p with | some i => (i : Int) | none => -1
theorem fidx_hit {α : Type} {p : α → Bool} {xs : List α} {k : Nat} {x : α} (hk : xs[k]? = some x) (hx : p x = true) (h : AllTo (fun x => p x = false) xs k) : fidx p xs = k := by
  obtain ⟨hl, rfl⟩ := List.getElem?_eq_some_iff.1 hk
  have : xs.findIdx? p = some k := List.findIdx?_eq_some_iff_getElem.2 ⟨hl, hx, fun j hj => by simpa using h j _ hj (List.getElem?_eq_getElem (Nat.lt_trans hj hl))⟩
  unfold fidx
  rw [this]
theorem fidx_miss {α : Type} {p : α → Bool} {xs : List α} (h : AllTo (fun x => p x = false) xs xs.length) : fidx p xs = -1 := by
  have : xs.findIdx? p = none := List.findIdx?_eq_none_iff.2 h.all
  unfold fidx
  rw [this]
theorem fidx_any {α : Type} (p : α → Bool) (xs : List α) : decide (0 ≤ fidx p xs) = xs.any p := by
  unfold fidx
  cases h : xs.findIdx? p with
  | none =>
    have := List.findIdx?_eq_none_iff.1 h
    rw [List.any_eq_false.2 (fun x hx => by simpa using this x hx)]
    rfl
  | some i =>
    obtain ⟨hl, hx, _⟩ := List.findIdx?_eq_some_iff_getElem.1 h
    rw [List.any_eq_true.2 ⟨_, List.getElem_mem hl, hx⟩]
    simp
/-- a function value that tells whether an element is such, in every later world, and leaves what lay there as it was -/
def PredB {α : Type} (g : Nat) (lb : Array Value) (enc : α → Value) (p : α → Bool) (xs : List α) (w : World) : Prop :=
  ∀ (W : World) (x : α), x ∈ xs → Below w.heap.size w W → Calls Try.prog g (#[enc x] ++ lb) W fun e w' => e = .returned (.bool (p x)) ∧ Below W.heap.size W w'
theorem PredB.below {α : Type} {g : Nat} {lb : Array Value} {enc : α → Value} {p : α → Bool} {xs : List α} {w w1 : World} (h : PredB g lb enc p xs w) (hb : Below w.heap.size w w1) : PredB g lb enc p xs w1 := fun W x hx hB => h W x hx (btrans hb hB)
def encI (x : Int) : Value := .int .i64 x
def encM (m : Mp) : Value := .agg #[.int .i64 m.p, .int .i64 m.a, .int .i64 m.b, .int .i64 m.c, .int .i64 m.d, .int .i64 m.e]


set_option maxHeartbeats 1000000 in
theorem IndexFuncI_c (g : Nat) (lb : Array Value) (p : Int → Bool) (eg : Enters Try.prog g) (A : Option Addr) (c : Nat) (xs : List Int) (w : World) (h : SeeInts w A xs) (hn : xs.length ≤ 2097152) (hp : PredB g lb encI p xs w) :
    Calls Try.prog 143 #[.slice A xs.length c, .func (.func g) #[] lb] w fun e w' => e = .returned (.int .i64 (fidx p xs)) ∧ Below w.heap.size w w' := by
  unfold Enters at eg
  go_enter Try.func143, Try.ntmps143
  go_wp2
  go_loopw [8] (fun i wr => ∃ k : Nat, k ≤ xs.length ∧ i = .int .i64 k ∧ AllTo (fun x => p x = false) xs k ∧ Below w.heap.size w wr) (fun i _ => xs.length - (intOf i).toNat)
  case atStart => exact ⟨0, Nat.zero_le _, rfl, AllTo.zero _ _, Below.refl _ _⟩
  case round =>
    obtain ⟨k, hk, rfl, hj, hb⟩ := hrel
    by_cases hlt : k < xs.length
    · obtain ⟨b, o, x, rfl, hx, q⟩ := (h.below hb).at_ hlt
      have hl : (0 : Int) ≤ k := by omega
      have hl' : (k : Int) < xs.length := by omega
      have hcall := hp wr x (List.mem_of_getElem? hx) hb
      unfold encI at hcall
      have HJ := Lib.hid hj
      have HX := Lib.hid hx
      clear hj hx hp h
      cases e : p x
      · rw [e] at hcall
        have HE := Lib.hid e
        clear e
        go_wp2_with (go_at_fn g; refine hcall.mono ?_; rintro e w' ⟨rfl, hb'⟩)
        go_roundw
        case rel => exact ⟨k + 1, by omega, by go_num, HJ.out.snoc HX.out HE.out, btrans hb hb'⟩
        case measure => simp [intOf]; omega
      · rw [e] at hcall
        have HE := Lib.hid e
        clear e
        go_wp2_with (go_at_fn g; refine hcall.mono ?_; rintro e w' ⟨rfl, hb'⟩)
        go_returns
        exact ⟨ret_int (fidx_hit HX.out HE.out HJ.out).symm, btrans hb hb'⟩
    · obtain rfl : k = xs.length := by omega
      go_wp2
      go_returns
      exact ⟨ret_int (fidx_miss hj).symm, hb⟩
set_option maxHeartbeats 1000000 in
theorem ContainsFuncI_c (g : Nat) (lb : Array Value) (p : Int → Bool) (eg : Enters Try.prog g) (A : Option Addr) (c : Nat) (xs : List Int) (w : World) (h : SeeInts w A xs) (hn : xs.length ≤ 2097152) (hp : PredB g lb encI p xs w) :
    Calls Try.prog 120 #[.slice A xs.length c, .func (.func g) #[] lb] w fun e w' => e = .returned (.bool (xs.any p)) ∧ Below w.heap.size w w' := by
  rw [← fidx_any]
  go_enter Try.func120, Try.ntmps120
  go_wp2_with (go_at_call 143; go_must (refine (IndexFuncI_c g lb p eg A c xs _ h hn hp).mono ?_); rintro e w2 ⟨rfl, hb2⟩)
  go_returns
  exact ⟨rfl, hb2⟩
/-! 'Equal', 'Clone' at lists of numbers. -/
set_option maxHeartbeats 1000000 in
theorem EqualI_c (A A' : Option Addr) (c c' : Nat) (xs ys : List Int) (w : World) (h : SeeInts w A xs) (h' : SeeInts w A' ys) (hn : xs.length ≤ 2097152) :
    Calls Try.prog 89 #[.slice A xs.length c, .slice A' ys.length c'] w fun e w' => e = .returned (.bool (decide (xs = ys))) ∧ Below w.heap.size w w' := by
  by_cases hlen : xs.length = ys.length
  · rw [← hlen]
    have HL := Lib.hid hlen
    clear hlen
    go_enter Try.func89, Try.ntmps89
    go_wp2
    go_loopw [13] (fun i wr => ∃ k : Nat, k ≤ xs.length ∧ i = .int .i64 k ∧ Upto xs ys k ∧ Below w.heap.size w wr) (fun i _ => xs.length - (intOf i).toNat)
    case atStart => exact ⟨0, Nat.zero_le _, rfl, Upto.zero _ _, Below.refl _ _⟩
    case round =>
      obtain ⟨k, hk, rfl, hj, hb⟩ := hrel
      by_cases hlt : k < xs.length
      · obtain ⟨b, o, x, rfl, hx, q⟩ := (h.below hb).at_ hlt
        obtain ⟨b', o', y, rfl, hy, q'⟩ := (h'.below hb).at_ (k := k) (by rw [← HL.out]; exact hlt)
        have hl : (0 : Int) ≤ k := by omega
        have hl' : (k : Int) < xs.length := by omega
        have HJ := Lib.hid hj
        have HX := Lib.hid hx
        have HY := Lib.hid hy
        have Q := bwcell q
        have Q' := bwcell q'
        clear hj hx hy h h' q q'
        by_cases e : x = y
        · have d : (x != y) = false := by simpa using e
          have HE := Lib.hid e
          clear e
          go_wp2
          refine wp_region_bw (by kernel_rfl) (by kernel_rfl) ?_
          repeat go_big_quiet_step (fail)
          refine wpQuiet_nil ?_
          rintro _ ⟨⟨w2, hb2⟩, rfl⟩
          go_wp2
          go_roundw
          case rel => exact ⟨k + 1, by omega, by go_num, HJ.out.snoc (by rw [HX.out, HY.out, HE.out]), btrans hb hb2⟩
          case measure => simp [intOf]; omega
        · have d : (x != y) = true := by simpa using e
          go_wp2
          refine wp_region_bw (by kernel_rfl) (by kernel_rfl) ?_
          repeat go_big_quiet_step (fail)
          refine wpQuiet_nil ?_
          rintro _ ⟨⟨w2, hb2⟩, rfl⟩
          go_wp2
          go_returns
          exact ⟨ret_bool (by
            have : xs ≠ ys := fun H => e (by have h1 := HX.out; have h2 := HY.out; rw [H, h2] at h1; exact (Option.some.inj h1).symm)
            simp [this]), btrans hb hb2⟩
      · obtain rfl : k = xs.length := by omega
        go_wp2
        go_returns
        exact ⟨ret_bool (by simp [hj.all HL.out]), hb⟩
  · have d : ((xs.length : Int) != (ys.length : Int)) = true := by simpa using fun e => hlen (by omega)
    have d2 : decide (xs = ys) = false := by simpa using fun e => hlen (by rw [e])
    rw [d2]
    go_enter Try.func89, Try.ntmps89
    go_wp2
    go_returns
    exact ⟨rfl, Below.refl _ _⟩
set_option maxHeartbeats 1000000 in
set_option maxRecDepth 100000 in
theorem CloneI_c (A : Option Addr) (c : Nat) (xs : List Int) (w : World) (h : SeeInts w A xs) (hA : NilOk A c) (hn : xs.length ≤ 2097152) :
    Calls Try.prog 126 #[.slice A xs.length c] w fun e w' => ∃ v, e = .returned v ∧ OwnInts w' w.heap.size v xs ∧ Below w.heap.size w w' := by
  cases A with
  | none =>
    have hx : xs = [] := by
      cases xs with
      | nil => rfl
      | cons x xs => obtain ⟨b, o, e, _⟩ := h (by simp); cases e
    have hc := hA rfl
    subst hx hc
    have he : ∀ w : World, (binOp .eql 23 (.slice none 0 0) (.slice none 0 0)).run Try.prog w = .ok (.bool true) w := fun _ => rfl
    have he' : ∀ w : World, (binOp .eql 23 (.slice none ([] : List Int).length 0) (.slice none 0 0)).run Try.prog w = .ok (.bool true) w := fun _ => rfl
    go_enter Try.func126, Try.ntmps126
    go_wp2
    go_returns
    exact ⟨_, rfl, OwnInts.nil _ _, Below.refl _ _⟩
  | some ad =>
    obtain ⟨i0, hi, hz0, hz1, hz2⟩ := info_parts info_int
    have k0 : Below w.heap.size w (w.alloc (.cells #[] 2)) := by go_grown
    have hs : SeeCells (w.alloc (.cells #[] 2)) (some ad) c (xs.map (Value.int .i64)) := .inr ⟨ad, rfl, fun j u hu => by
      have hj : j < xs.length := by simpa using (List.getElem?_eq_some_iff.1 hu).1
      obtain ⟨b, o, x, e, hx, q⟩ := (h.below k0).at_ hj
      obtain rfl := Option.some.inj e
      rw [List.getElem?_map, hx] at hu
      obtain rfl := Option.some.inj hu
      rw [add_lit]
      exact q⟩
    have he : ∀ w : World, (binOp .eql 23 (.slice (some ad) xs.length c) (.slice none 0 0)).run Try.prog w = .ok (.bool false) w := fun _ => rfl
    have ho : OwnInts (w.alloc (.cells #[] 2)) w.heap.size (.slice (some ⟨w.heap.size, 0, none⟩) 0 0) [] := World.ownsRow_made w #[] 0 (Nat.le_refl _) (by decide) rfl
    go_enter Try.func126, Try.ntmps126
    go_wp2_with (at_builtin; refine wpList_append_see _ rfl (.tmp 5) (.tmp 6) 23 rfl w.heap.size 2 i0 (.int .i64 0) 1 8 Try.underlying23 hi hz0 hz1 hz2 rfl (by decide) _ 0 [] rfl ho (some ad) xs.length c (xs.map (Value.int .i64)) rfl (by simp) hs (by intro u hu; obtain ⟨x, _, rfl⟩ := List.mem_map.1 hu; rfl) (by unfold maxLen; omega) (by omega) (by go_size) ?_; intro v' w1 hown' hgrow hv')
    have hb1 : Below w.heap.size w w1 := k0.grown hgrow (by simp) (fun j hj => by obtain rfl := Option.some.inj hj; exact Nat.le_refl _)
    rw [Nat.zero_add, List.nil_append] at hown'
    go_wp2
    go_returns
    exact ⟨_, rfl, hown', hb1⟩
end Go.Proofs.Ythadgdmooacccaa
