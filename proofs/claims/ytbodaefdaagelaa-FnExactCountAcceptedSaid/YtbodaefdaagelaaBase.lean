/- The base of this seat's proofs: the cells of maps, slices as they are read and owned, drawn regions whose callees make memory. No condition. -/
import Derived.Test.YtbodaefdaagelaaProg
import Derived.Test.YtbodaefdaagelaaPure
import Derived.Below
import Derived.Deep.Draws
import Derived.OwnWalk
import Derived.Tactics
import Derived.WalkKit
import Derived.KernelRfl
import Derived.RowKit3
import Derived.Deep.LoopGhost
import Derived.Deep.QuietTactic
import Derived.BigQuiet
import Derived.WideLaws
import Derived.Deep.DeepCutAuto
import Derived.Deep.CutBlock
import Derived.Deep.RegionHeld3
import Derived.Deep.DrawnRows
import Derived.Laws.Rows
import Derived.RowKit
import Derived.Handy
import Derived.Lib.Hide
import Derived.Deep.DeepMust
namespace Go.Proofs.Ytbodaefdaagelaa
set_option linter.unusedSimpArgs false
set_option linter.unusedVariables false
set_option linter.unusedSectionVars false
open Go.RowKit

/-! ### Worlds in which all that was there is as it was -/
def BW (w : World) := { w' : World // Below w.heap.size w w' }
instance (w : World) : Nonempty (BW w) := ⟨⟨w, Below.refl _ _⟩⟩
theorem wp_region_bw {P : Program} {id : Nat} {Q : Exit → Act → World → Prop} {a : Act} {w : World} {l : List Oper} (hm : P.follows .mixedOrders = true) (hB : Region.lexB .any l.toArray = true)
    (h : wpQuiet P l.toArray (fun w' => ∃ x : BW w, w' = x.1) (fun a' => ∀ w', (∃ x : BW w, w' = x.1) → Q .normal a' w') l a) : (Code.region id l.toArray true).wp P Q a w :=
  wp_region_quiet (C := fun w' => ∃ x : BW w, w' = x.1) hm hB ⟨⟨{ w with drawn := w.drawn + 1 }, ⟨rfl, rfl, rfl, Nat.le_refl _, fun _ _ => rfl⟩⟩, rfl⟩ (by simpa using h)
theorem Calls.bw {P : Program} {f : FuncId} {args : Array Value} {w : World} (x : BW w) {v : Value} (h : Calls P f args x.1 fun e w' => e = .returned v ∧ Below x.1.heap.size x.1 w') : Calls P f args x.1 fun e w'' => e = .returned v ∧ ∃ y : BW w, w'' = y.1 :=
  h.mono fun _ w' ⟨he, hb⟩ => ⟨he, ⟨w', x.2.trans (hb.mono x.2.size)⟩, rfl⟩
/-- a contract's Bool, by its value -/
theorem valB {P : Program} {f : FuncId} {args : Array Value} {w : World} {a v : Bool} (h : Calls P f args w fun e w' => e = .returned (.bool a) ∧ Below w.heap.size w w') (e : a = v) : Calls P f args w fun e w' => e = .returned (.bool v) ∧ Below w.heap.size w w' := e ▸ h
theorem valI {P : Program} {f : FuncId} {args : Array Value} {w : World} {k : IntKind} {a v : Int} (h : Calls P f args w fun e w' => e = .returned (.int k a) ∧ Below w.heap.size w w') (e : a = v) : Calls P f args w fun e w' => e = .returned (.int k v) ∧ Below w.heap.size w w' := e ▸ h
theorem bcell {w w1 : World} (hb : Below w.heap.size w w1) {p : Addr} {v : Value} (h : w.cell? p = some v) : w1.cell? p = some v :=
  (hb.cell (World.block_lt_of_cell? w p h)).trans h
theorem bwcell {w : World} {p : Addr} {v : Value} (h : w.cell? p = some v) : ∀ x : BW w, x.1.cell? p = some v := fun x => bcell x.2 h
theorem bdrewN {B : Nat} {w W : World} (h : Below B w W) (n : Nat) : Below B w (W.drewN n) := ⟨h.os, h.tape, h.output, h.size, h.block⟩
/-- all old cells and marks read as before -/
theorem brules {W w1 : World} (hb : Below W.heap.size W w1) : (∀ b o, b < W.heap.size → w1.cell? ⟨b, o, none⟩ = W.cell? ⟨b, o, none⟩) ∧ (∀ b o, b < W.heap.size → w1.frozen? ⟨b, o, none⟩ = W.frozen? ⟨b, o, none⟩) :=
  ⟨fun b o h => hb.cell (p := ⟨b, o, none⟩) h, fun b o h => hb.frozen (p := ⟨b, o, none⟩) h⟩
/-- behind one more block -/
theorem acell {w : World} {p : Addr} {v : Value} (h : w.cell? p = some v) : ∀ o, (w.alloc o).cell? p = some v := fun o => bcell ((Below.refl _ _).alloc (Nat.le_refl _) o) h
/-- behind a draw -/
theorem bdr {w w1 : World} (h : Below w.drew.heap.size w.drew w1) : Below w.heap.size w w1 := ⟨h.os, h.tape, h.output, h.size, h.block⟩
/-- on from a later world -/
theorem btrans {w w1 w2 : World} (h : Below w.heap.size w w1) (k : Below w1.heap.size w1 w2) : Below w.heap.size w w2 := h.trans (k.mono h.size)

/-! ### Maps: six cells -/
/-- the six cells of a map lie at b, o -/
structure MpAt (w : World) (b o : Nat) (m : Mp) : Prop where
  h0 : w.cell? ⟨b, o, none⟩ = some (.int .i64 m.p)
  h1 : w.cell? ⟨b, o + 1, none⟩ = some (.int .i64 m.a)
  h2 : w.cell? ⟨b, o + 2, none⟩ = some (.int .i64 m.b)
  h3 : w.cell? ⟨b, o + 3, none⟩ = some (.int .i64 m.c)
  h4 : w.cell? ⟨b, o + 4, none⟩ = some (.int .i64 m.d)
  h5 : w.cell? ⟨b, o + 5, none⟩ = some (.int .i64 m.e)
theorem MpAt.below {w w1 : World} {b o : Nat} {m : Mp} (h : MpAt w b o m) (hb : Below w.heap.size w w1) : MpAt w1 b o m :=
  ⟨bcell hb h.h0, bcell hb h.h1, bcell hb h.h2, bcell hb h.h3, bcell hb h.h4, bcell hb h.h5⟩
theorem MpAt.bw {w : World} {b o : Nat} {m : Mp} (h : MpAt w b o m) : 
   (∀ x : BW w, x.1.cell? ⟨b, o, none⟩ = some (.int .i64 m.p)) ∧ (∀ x : BW w, x.1.cell? ⟨b, o + 1, none⟩ = some (.int .i64 m.a)) ∧ (∀ x : BW w, x.1.cell? ⟨b, o + 2, none⟩ = some (.int .i64 m.b)) ∧ (∀ x : BW w, x.1.cell? ⟨b, o + 3, none⟩ = some (.int .i64 m.c)) ∧ (∀ x : BW w, x.1.cell? ⟨b, o + 4, none⟩ = some (.int .i64 m.d)) ∧ (∀ x : BW w, x.1.cell? ⟨b, o + 5, none⟩ = some (.int .i64 m.e)) :=
  ⟨fun x => (h.below x.2).h0, fun x => (h.below x.2).h1, fun x => (h.below x.2).h2, fun x => (h.below x.2).h3, fun x => (h.below x.2).h4, fun x => (h.below x.2).h5⟩
theorem MpAt.to {w : World} {b o : Nat} {m : Mp} (h : MpAt w b o m) {i : Nat} (hi : i < 5) : w.cell? ⟨b, o + 1 + i, none⟩ = some (.int .i64 (m.to i)) := by
  match i, hi with
  | 0, _ => exact h.h1
  | 1, _ => exact h.h2
  | 2, _ => exact h.h3
  | 3, _ => exact h.h4
  | 4, _ => exact h.h5

theorem MpAt.to' {w : World} {b : Nat} {m : Mp} (h : MpAt w b 0 m) {i : Nat} (hi : i < 5) : w.cell? ⟨b, 1 + i, none⟩ = some (.int .i64 (m.to i)) := by
  have := h.to hi
  simpa using this
theorem MpAt.cells0 {w : World} {b : Nat} {m : Mp} (h : MpAt w b 0 m) : w.cell? ⟨b, 0, none⟩ = some (.int .i64 m.p) ∧ w.cell? ⟨b, 1, none⟩ = some (.int .i64 m.a) ∧ w.cell? ⟨b, 2, none⟩ = some (.int .i64 m.b) ∧ w.cell? ⟨b, 3, none⟩ = some (.int .i64 m.c) ∧ w.cell? ⟨b, 4, none⟩ = some (.int .i64 m.d) ∧ w.cell? ⟨b, 5, none⟩ = some (.int .i64 m.e) :=
  ⟨h.h0, h.h1, h.h2, h.h3, h.h4, h.h5⟩
theorem MpAt.boxed (w : World) (m : Mp) (t : TypeId) : MpAt (w.alloc (.cells #[.int .i64 m.p, .int .i64 m.a, .int .i64 m.b, .int .i64 m.c, .int .i64 m.d, .int .i64 m.e] t)) w.heap.size 0 m := by
  constructor <;> simp [go_sem]

/-! ### Slices as they are read -/
def SeeMaps (w : World) (A : Option Addr) (ms : List Mp) : Prop := ms ≠ [] → ∃ b o, A = some ⟨b, o, none⟩ ∧ ∀ k m, ms[k]? = some m → MpAt w b (o + k * 6) m
def SeeInts (w : World) (A : Option Addr) (xs : List Int) : Prop := xs ≠ [] → ∃ b o, A = some ⟨b, o, none⟩ ∧ ∀ k x, xs[k]? = some x → w.cell? ⟨b, o + k, none⟩ = some (.int .i64 x)
theorem SeeMaps.below {w w1 : World} {A : Option Addr} {ms : List Mp} (h : SeeMaps w A ms) (hb : Below w.heap.size w w1) : SeeMaps w1 A ms := fun hn => by
  obtain ⟨b, o, e, g⟩ := h hn
  exact ⟨b, o, e, fun k m hk => (g k m hk).below hb⟩
theorem SeeInts.below {w w1 : World} {A : Option Addr} {xs : List Int} (h : SeeInts w A xs) (hb : Below w.heap.size w w1) : SeeInts w1 A xs := fun hn => by
  obtain ⟨b, o, e, g⟩ := h hn
  exact ⟨b, o, e, fun k m hk => bcell hb (g k m hk)⟩
theorem SeeMaps.bw {w : World} {A : Option Addr} {ms : List Mp} (h : SeeMaps w A ms) : ∀ x : BW w, SeeMaps x.1 A ms := fun x => h.below x.2
theorem SeeInts.bw {w : World} {A : Option Addr} {xs : List Int} (h : SeeInts w A xs) : ∀ x : BW w, SeeInts x.1 A xs := fun x => h.below x.2
theorem ne_of_lt {α : Type} {xs : List α} {k : Nat} (h : k < xs.length) : xs ≠ [] := fun e => by rw [e] at h; exact absurd h (Nat.not_lt_zero _)
/-- element k of a list -/
theorem el {α : Type} {xs : List α} {k : Nat} (h : k < xs.length) : ∃ x, xs[k]? = some x := ⟨xs[k], List.getElem?_eq_getElem h⟩
/-- the value of a slice that may be nil -/
def NilOk (A : Option Addr) (c : Nat) : Prop := A = none → c = 0
/-! ### Rows of the call's own -/
/-- the cells of a list of maps, place by place -/
structure RepMaps (xs : List Value) (ms : List Mp) : Prop where
  len : xs.length = ms.length * 6
  at_ : ∀ k m, ms[k]? = some m → xs[k * 6]? = some (.int .i64 m.p) ∧ xs[k * 6 + 1]? = some (.int .i64 m.a) ∧ xs[k * 6 + 2]? = some (.int .i64 m.b) ∧ xs[k * 6 + 3]? = some (.int .i64 m.c) ∧ xs[k * 6 + 4]? = some (.int .i64 m.d) ∧ xs[k * 6 + 5]? = some (.int .i64 m.e)
def OwnMaps (w : World) (base : Nat) (v : Value) (ms : List Mp) : Prop := ∃ xs, w.ownsRow base 67 6 v ms.length xs ∧ RepMaps xs ms
def OwnInts (w : World) (base : Nat) (v : Value) (xs : List Int) : Prop := w.ownsRow base 2 1 v xs.length (xs.map (Value.int .i64))
theorem OwnMaps.below {w w1 : World} {base : Nat} {v : Value} {ms : List Mp} (h : OwnMaps w base v ms) (hb : Below w.heap.size w w1) : OwnMaps w1 base v ms := by
  obtain ⟨xs, h1, h2⟩ := h
  refine ⟨xs, h1.kept (row := none) ⟨hb.os, hb.tape, hb.output, hb.size, fun i hi _ => hb.block i hi⟩ ?_, h2⟩
  cases v.ownBlock <;> simp
theorem OwnInts.below {w w1 : World} {base : Nat} {v : Value} {xs : List Int} (h : OwnInts w base v xs) (hb : Below w.heap.size w w1) : OwnInts w1 base v xs :=
  World.ownsRow.kept (row := none) h ⟨hb.os, hb.tape, hb.output, hb.size, fun i hi _ => hb.block i hi⟩ (by cases v.ownBlock <;> simp)
/-- what a row's place holds, and that it may be written -/
theorem OwnMaps.at_ {w : World} {base g n c : Nat} {ms : List Mp} (h : OwnMaps w base (.slice (some ⟨g, 0, none⟩) n c) ms) {k : Nat} {m : Mp} (hk : ms[k]? = some m) : MpAt w g (k * 6) m := by
  obtain ⟨xs, h1, h2⟩ := h
  have hl : k < ms.length := (List.getElem?_eq_some_iff.1 hk).1
  have hn : n = ms.length := by
    rcases h1.2 with ⟨h', _⟩ | ⟨g', cap', cur, h', _⟩
    · simp at h'
    · simp at h'; omega
  subst hn
  obtain ⟨a0, a1, a2, a3, a4, a5⟩ := h2.at_ k m hk
  exact ⟨(h1.cellAt _ (by omega)).trans a0, (h1.cellAt _ (by omega)).trans a1, (h1.cellAt _ (by omega)).trans a2, (h1.cellAt _ (by omega)).trans a3, (h1.cellAt _ (by omega)).trans a4, (h1.cellAt _ (by omega)).trans a5⟩
theorem OwnMaps.free {w : World} {base g n c : Nat} {ms : List Mp} (h : OwnMaps w base (.slice (some ⟨g, 0, none⟩) n c) ms) (j : Nat) : w.frozen? ⟨g, j, none⟩ = false := by
  obtain ⟨xs, h1, h2⟩ := h
  rcases h1.2 with ⟨h', _⟩ | ⟨g', cap', cur, h', hb, hg, _⟩
  · simp at h'
  · simp only [Value.slice.injEq, Option.some.injEq, Addr.mk.injEq, and_true] at h'
    obtain ⟨rfl, _⟩ := h'
    exact frozen_of_row w g j cur _ hg
def put6 (xs : List Value) (o : Nat) (m : Mp) : List Value := (((((xs.set o (.int .i64 m.p)).set (o + 1) (.int .i64 m.a)).set (o + 2) (.int .i64 m.b)).set (o + 3) (.int .i64 m.c)).set (o + 4) (.int .i64 m.d)).set (o + 5) (.int .i64 m.e)
theorem put6_length (xs : List Value) (o : Nat) (m : Mp) : (put6 xs o m).length = xs.length := by simp [put6]
theorem put6_far (xs : List Value) (o : Nat) (m : Mp) (q : Nat) (h : q < o ∨ o + 6 ≤ q) : (put6 xs o m)[q]? = xs[q]? := by
  unfold put6
  rw [List.getElem?_set_ne (by omega), List.getElem?_set_ne (by omega), List.getElem?_set_ne (by omega), List.getElem?_set_ne (by omega), List.getElem?_set_ne (by omega), List.getElem?_set_ne (by omega)]
theorem put6_at (xs : List Value) (o : Nat) (m : Mp) (h : o + 6 ≤ xs.length) : (put6 xs o m)[o]? = some (.int .i64 m.p) ∧ (put6 xs o m)[o + 1]? = some (.int .i64 m.a) ∧ (put6 xs o m)[o + 2]? = some (.int .i64 m.b) ∧ (put6 xs o m)[o + 3]? = some (.int .i64 m.c) ∧ (put6 xs o m)[o + 4]? = some (.int .i64 m.d) ∧ (put6 xs o m)[o + 5]? = some (.int .i64 m.e) := by
  unfold put6
  refine ⟨?_, ?_, ?_, ?_, ?_, ?_⟩
  · rw [List.getElem?_set_ne (by omega), List.getElem?_set_ne (by omega), List.getElem?_set_ne (by omega), List.getElem?_set_ne (by omega), List.getElem?_set_ne (by omega), List.getElem?_set_self (by omega)]
  · rw [List.getElem?_set_ne (by omega), List.getElem?_set_ne (by omega), List.getElem?_set_ne (by omega), List.getElem?_set_ne (by omega), List.getElem?_set_self (by simp; omega)]
  · rw [List.getElem?_set_ne (by omega), List.getElem?_set_ne (by omega), List.getElem?_set_ne (by omega), List.getElem?_set_self (by simp; omega)]
  · rw [List.getElem?_set_ne (by omega), List.getElem?_set_ne (by omega), List.getElem?_set_self (by simp; omega)]
  · rw [List.getElem?_set_ne (by omega), List.getElem?_set_self (by simp; omega)]
  · rw [List.getElem?_set_self (by simp; omega)]
theorem RepMaps.put {xs : List Value} {ms : List Mp} (h : RepMaps xs ms) {k : Nat} (hk : k < ms.length) (m : Mp) : RepMaps (put6 xs (k * 6) m) (ms.set k m) := by
  have hl := h.len
  refine ⟨by rw [put6_length, List.length_set, hl], fun j m' hj => ?_⟩
  by_cases e : j = k
  · subst e
    rw [List.getElem?_set_self hk] at hj
    obtain rfl := Option.some.inj hj
    exact put6_at xs (j * 6) m (by omega)
  · rw [List.getElem?_set_ne (Ne.symm e)] at hj
    have := h.at_ j m' hj
    rcases Nat.lt_or_gt_of_ne e with hlt | hlt
    · rw [put6_far _ _ _ _ (by omega), put6_far _ _ _ _ (by omega), put6_far _ _ _ _ (by omega), put6_far _ _ _ _ (by omega), put6_far _ _ _ _ (by omega), put6_far _ _ _ _ (by omega)]
      exact this
    · rw [put6_far _ _ _ _ (by omega), put6_far _ _ _ _ (by omega), put6_far _ _ _ _ (by omega), put6_far _ _ _ _ (by omega), put6_far _ _ _ _ (by omega), put6_far _ _ _ _ (by omega)]
      exact this
theorem own_slice_len {w : World} {base : Nat} {e : TypeId} {size g n c l : Nat} {xs : List Value} (h : w.ownsRow base e size (.slice (some ⟨g, 0, none⟩) n c) l xs) : n = l := by
  rcases h.2 with ⟨h', _⟩ | ⟨g', cap', cur, h', _⟩
  · simp at h'
  · simp at h'
    omega
theorem OwnMaps.put {w : World} {base g n c : Nat} {ms : List Mp} (h : OwnMaps w base (.slice (some ⟨g, 0, none⟩) n c) ms) {k : Nat} (hk : k < ms.length) (m : Mp) :
    OwnMaps ((((((w.setCell ⟨g, k * 6, none⟩ (.int .i64 m.p)).setCell ⟨g, k * 6 + 1, none⟩ (.int .i64 m.a)).setCell ⟨g, k * 6 + 2, none⟩ (.int .i64 m.b)).setCell ⟨g, k * 6 + 3, none⟩ (.int .i64 m.c)).setCell ⟨g, k * 6 + 4, none⟩ (.int .i64 m.d)).setCell ⟨g, k * 6 + 5, none⟩ (.int .i64 m.e)) base (.slice (some ⟨g, 0, none⟩) n c) (ms.set k m) := by
  obtain ⟨xs, h1, h2⟩ := h
  obtain rfl := own_slice_len h1
  refine ⟨put6 xs (k * 6) m, ?_, h2.put hk m⟩
  rw [List.length_set]
  exact (((((((h1.stored _ _).1.stored _ _).1.stored _ _).1.stored _ _).1.stored _ _).1.stored _ _).1)
theorem toList_made6 (n : Nat) : RepMaps (madeCells #[.int .i64 0, .int .i64 0, .int .i64 0, .int .i64 0, .int .i64 0, .int .i64 0] (n * 6)).toList (List.replicate n Mp.z) := by
  refine ⟨by simp [size_madeCells], fun k m hk => ?_⟩
  have hl : k < n := by simpa using (List.getElem?_eq_some_iff.1 hk).1
  rw [List.getElem?_replicate, if_pos hl] at hk
  obtain rfl := Option.some.inj hk
  have e : ∀ j, j < n * 6 → (madeCells #[.int .i64 0, .int .i64 0, .int .i64 0, .int .i64 0, .int .i64 0, .int .i64 0] (n * 6)).toList[j]? = some (.int .i64 0) := fun j hj => by
    have h6 : j % 6 < 6 := Nat.mod_lt _ (by omega)
    simp only [madeCells, Array.getElem?_toList, Array.getElem?_map, Array.getElem?_range, hj, if_true, Option.map_some, Option.some.injEq]
    show #[Value.int .i64 0, .int .i64 0, .int .i64 0, .int .i64 0, .int .i64 0, .int .i64 0][j % 6]! = _
    rcases (by omega : j % 6 = 0 ∨ j % 6 = 1 ∨ j % 6 = 2 ∨ j % 6 = 3 ∨ j % 6 = 4 ∨ j % 6 = 5) with h | h | h | h | h | h <;> rw [h] <;> rfl
  exact ⟨e _ (by omega), e _ (by omega), e _ (by omega), e _ (by omega), e _ (by omega), e _ (by omega)⟩
/-- a row that is filled from the front -/
theorem fill_set {α : Type} (ms : List α) (z : α) {k : Nat} {m : α} (hk : ms[k]? = some m) : (ms.take k ++ List.replicate (ms.length - k) z).set k m = ms.take (k + 1) ++ List.replicate (ms.length - (k + 1)) z := by
  have hl : k < ms.length := (List.getElem?_eq_some_iff.1 hk).1
  have ht : (ms.take k).length = k := by rw [List.length_take]; omega
  rw [List.set_append_right _ _ (by omega), ht, Nat.sub_self, List.take_add_one, hk]
  obtain ⟨d, hd⟩ : ∃ d, ms.length - k = d + 1 := ⟨ms.length - k - 1, by omega⟩
  rw [hd, List.replicate_succ, List.set_cons_zero, show ms.length - (k + 1) = d from by omega]
  simp
theorem fill_at {α : Type} (ms : List α) (z : α) {k : Nat} (hk : k < ms.length) : (ms.take k ++ List.replicate (ms.length - k) z)[k]? = some z := by
  have ht : (ms.take k).length = k := by rw [List.length_take]; omega
  rw [List.getElem?_append_right (by omega), ht, Nat.sub_self, List.getElem?_replicate, if_pos (by omega)]
theorem fill_len {α : Type} (ms : List α) (z : α) {k : Nat} (hk : k ≤ ms.length) : (ms.take k ++ List.replicate (ms.length - k) z).length = ms.length := by
  rw [List.length_append, List.length_take, List.length_replicate]; omega
theorem fill_end {α : Type} (ms : List α) (z : α) : ms.take ms.length ++ List.replicate (ms.length - ms.length) z = ms := by simp
theorem own_setBelow {w : World} {base : Nat} {e : TypeId} {size : Nat} {v : Value} {n : Nat} {xs : List Value} (h : w.ownsRow base e size v n xs) {a : Addr} (ha : a.block < base) (u : Value) : (w.setCell a u).ownsRow base e size v n xs := by
  refine ⟨h.1, ?_⟩
  rcases h.2 with hn | ⟨g, cap, cur, rfl, hb, hgg, rest⟩
  · exact .inl hn
  · refine .inr ⟨g, cap, cur, rfl, hb, ?_, rest⟩
    rw [heap_setCell_other w a g u (by omega)]
    exact hgg
theorem OwnMaps.setBelow {w : World} {base : Nat} {v : Value} {ms : List Mp} (h : OwnMaps w base v ms) {a : Addr} (ha : a.block < base) (u : Value) : OwnMaps (w.setCell a u) base v ms := by
  obtain ⟨xs, h1, h2⟩ := h
  exact ⟨xs, own_setBelow h1 ha u, h2⟩
theorem OwnInts.setBelow {w : World} {base : Nat} {v : Value} {xs : List Int} (h : OwnInts w base v xs) {a : Addr} (ha : a.block < base) (u : Value) : OwnInts (w.setCell a u) base v xs := own_setBelow h ha u
theorem own_mono {w : World} {base base' : Nat} {e : TypeId} {size : Nat} {v : Value} {n : Nat} {xs : List Value} (h : w.ownsRow base e size v n xs) (hb : base' ≤ base) : w.ownsRow base' e size v n xs := by
  refine ⟨h.1, ?_⟩
  rcases h.2 with hn | ⟨g, cap, cur, rfl, hbb, rest⟩
  · exact .inl hn
  · exact .inr ⟨g, cap, cur, rfl, Nat.le_trans hb hbb, rest⟩
theorem OwnMaps.mono {w : World} {base base' : Nat} {v : Value} {ms : List Mp} (h : OwnMaps w base v ms) (hb : base' ≤ base) : OwnMaps w base' v ms := by
  obtain ⟨xs, h1, h2⟩ := h
  exact ⟨xs, own_mono h1 hb, h2⟩
theorem OwnInts.mono {w : World} {base base' : Nat} {v : Value} {xs : List Int} (h : OwnInts w base v xs) (hb : base' ≤ base) : OwnInts w base' v xs := own_mono h hb
theorem OwnInts.at_ {w : World} {base g n c : Nat} {xs : List Int} (h : OwnInts w base (.slice (some ⟨g, 0, none⟩) n c) xs) {k : Nat} {x : Int} (hk : xs[k]? = some x) : w.cell? ⟨g, k, none⟩ = some (.int .i64 x) := by
  have hl : k < xs.length := (List.getElem?_eq_some_iff.1 hk).1
  unfold OwnInts at h
  obtain rfl := own_slice_len h
  exact (h.cellAt k (by omega)).trans (by rw [List.getElem?_map, hk]; rfl)
theorem own_free {w : World} {base : Nat} {e : TypeId} {size g n c l : Nat} {xs : List Value} (h : w.ownsRow base e size (.slice (some ⟨g, 0, none⟩) n c) l xs) (j : Nat) : w.frozen? ⟨g, j, none⟩ = false := by
  obtain rfl := own_slice_len h
  exact h.frozenAt j
theorem OwnInts.free {w : World} {base g n c : Nat} {xs : List Int} (h : OwnInts w base (.slice (some ⟨g, 0, none⟩) n c) xs) (j : Nat) : w.frozen? ⟨g, j, none⟩ = false := own_free h j
theorem OwnInts.put {w : World} {base g n c : Nat} {xs : List Int} (h : OwnInts w base (.slice (some ⟨g, 0, none⟩) n c) xs) (k : Nat) (x : Int) : OwnInts (w.setCell ⟨g, k, none⟩ (.int .i64 x)) base (.slice (some ⟨g, 0, none⟩) n c) (xs.set k x) := by
  unfold OwnInts at h ⊢
  obtain rfl := own_slice_len h
  rw [List.length_set, List.map_set]
  exact (h.stored k _).1
theorem OwnInts.made {w : World} {base : Nat} {v : Value} {n : Nat} (h : w.ownsRow base 2 1 v n (madeCells #[.int .i64 0] (n * 1)).toList) : OwnInts w base v (List.replicate n 0) := by
  unfold OwnInts
  rw [List.length_replicate, List.map_replicate]
  rw [Nat.mul_one, toList_madeCells_one] at h
  exact h
theorem own_nilok {w : World} {base : Nat} {e : TypeId} {size n c l : Nat} {A : Option Addr} {xs : List Value} (h : w.ownsRow base e size (.slice A n c) l xs) : NilOk A c := fun hA => by
  subst hA
  rcases h.2 with ⟨h', _⟩ | ⟨g', cap', cur, h', _⟩
  · simp at h'; exact h'.2
  · simp at h'
theorem OwnMaps.nilok {w : World} {base n c : Nat} {A : Option Addr} {ms : List Mp} (h : OwnMaps w base (.slice A n c) ms) : NilOk A c := by
  obtain ⟨xs, h1, _⟩ := h
  exact own_nilok h1
theorem OwnInts.nilok {w : World} {base n c : Nat} {A : Option Addr} {xs : List Int} (h : OwnInts w base (.slice A n c) xs) : NilOk A c := own_nilok h
/-- an owned row as it is read -/
theorem OwnMaps.see {w : World} {base : Nat} {v : Value} {ms : List Mp} (h : OwnMaps w base v ms) : ∃ A c, v = .slice A ms.length c ∧ SeeMaps w A ms := by
  have h0 := h
  obtain ⟨xs, h1, h2⟩ := h
  rcases h1.2 with ⟨rfl, hn⟩ | ⟨g, cap, cur, rfl, _⟩
  · exact ⟨none, 0, by rw [hn], fun hne => absurd (List.eq_nil_of_length_eq_zero hn) hne⟩
  · exact ⟨_, cap, rfl, fun _ => ⟨g, 0, rfl, fun k m hk => by rw [Nat.zero_add]; exact h0.at_ hk⟩⟩
theorem OwnInts.see {w : World} {base : Nat} {v : Value} {xs : List Int} (h : OwnInts w base v xs) : ∃ A c, v = .slice A xs.length c ∧ SeeInts w A xs := by
  have h0 := h
  unfold OwnInts at h
  rcases h.2 with ⟨rfl, hn⟩ | ⟨g, cap, cur, rfl, _⟩
  · exact ⟨none, 0, by rw [hn], fun hne => absurd (List.eq_nil_of_length_eq_zero hn) hne⟩
  · exact ⟨_, cap, rfl, fun _ => ⟨g, 0, rfl, fun k m hk => by rw [Nat.zero_add]; exact h0.at_ hk⟩⟩
theorem SeeInts.at_ {w : World} {A : Option Addr} {xs : List Int} (h : SeeInts w A xs) {k : Nat} (hk : k < xs.length) : ∃ b o x, A = some ⟨b, o, none⟩ ∧ xs[k]? = some x ∧ w.cell? ⟨b, o + k, none⟩ = some (.int .i64 x) := by
  obtain ⟨b, o, e, g⟩ := h (ne_of_lt hk)
  obtain ⟨x, hx⟩ := el hk
  exact ⟨b, o, x, e, hx, g k x hx⟩
theorem SeeMaps.at_ {w : World} {A : Option Addr} {xs : List Mp} (h : SeeMaps w A xs) {k : Nat} (hk : k < xs.length) : ∃ b o x, A = some ⟨b, o, none⟩ ∧ xs[k]? = some x ∧ MpAt w b (o + k * 6) x := by
  obtain ⟨b, o, e, g⟩ := h (ne_of_lt hk)
  obtain ⟨x, hx⟩ := el hk
  exact ⟨b, o, x, e, hx, g k x hx⟩
/-- lists that agree up to k -/
def Upto {α : Type} (xs ys : List α) (k : Nat) : Prop := ∀ j, j < k → xs[j]? = ys[j]?
theorem Upto.zero {α : Type} (xs ys : List α) : Upto xs ys 0 := fun _ h => absurd h (Nat.not_lt_zero _)
theorem Upto.snoc {α : Type} {xs ys : List α} {k : Nat} (h : Upto xs ys k) (hk : xs[k]? = ys[k]?) : Upto xs ys (k + 1) := fun j hj => by
  rcases Nat.lt_succ_iff_lt_or_eq.1 hj with hj | rfl
  · exact h j hj
  · exact hk
theorem Upto.all {α : Type} {xs ys : List α} (h : Upto xs ys xs.length) (hl : xs.length = ys.length) : xs = ys := List.ext_getElem? fun j => by
  by_cases hj : j < xs.length
  · exact h j hj
  · rw [List.getElem?_eq_none (by omega), List.getElem?_eq_none (by omega)]
theorem info_int : (Try.prog.info? 2).map (fun i => (i.zero, i.size, i.bytes)) = some (some (.int .i64 0), 1, 8) := by kernel_rfl
theorem info_map : (Try.prog.info? 67).map (fun i => (i.zero, i.size, i.bytes)) = some (some (.agg #[.int .i64 0, .int .i64 0, .int .i64 0, .int .i64 0, .int .i64 0, .int .i64 0]), 6, 48) := by kernel_rfl
end Go.Proofs.Ytbodaefdaagelaa
