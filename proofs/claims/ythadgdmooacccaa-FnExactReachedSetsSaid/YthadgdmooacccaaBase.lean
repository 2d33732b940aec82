/- The base of this seat's proofs: the cells of maps, slices as they are read and owned, drawn regions whose callees make memory. No condition. -/
import Derived.Test.YthadgdmooacccaaProg
import Derived.Test.YthadgdmooacccaaPure
import Derived.Below
import Derived.Deep.Draws
import Derived.OwnWalk
import Derived.Tactics
import Derived.WalkKit
import Derived.KernelRfl
import Derived.RowKit3
import Derived.Deep.LoopGhost
import Derived.Deep.QuietTactic
import Derived.BigQuiet
import Derived.WideLaws
import Derived.Deep.DeepCutAuto
import Derived.Deep.CutBlock
import Derived.Deep.RegionHeld3
import Derived.Deep.DrawnRows
import Derived.Laws.Rows
import Derived.RowKit
import Derived.Handy
import Derived.Lib.Hide
import Derived.Deep.DeepMust
import Derived.StillTail
import Derived.Maps.AppendAt
import Derived.OrdersHeld
import Derived.RegionTactic
namespace Go.Proofs.Ythadgdmooacccaa
set_option linter.unusedSimpArgs false
set_option linter.unusedVariables false
set_option linter.unusedSectionVars false
open Go.RowKit
/-! ### Worlds in which all that was there is as it was -/
def BW (w : World) := { w' : World // Below w.heap.size w w' }
instance (w : World) : Nonempty (BW w) := ⟨⟨w, Below.refl _ _⟩⟩
theorem wp_region_bw {P : Program} {id : Nat} {Q : Exit → Act → World → Prop} {a : Act} {w : World} {l : List Oper} (hm : P.follows .mixedOrders = true) (hB : Region.lexB .any l.toArray = true)
    (h : wpQuiet P l.toArray (fun w' => ∃ x : BW w, w' = x.1) (fun a' => ∀ w', (∃ x : BW w, w' = x.1) → Q .normal a' w') l a) : (Code.region id l.toArray true).wp P Q a w :=
  wp_region_quiet (C := fun w' => ∃ x : BW w, w' = x.1) hm hB ⟨⟨{ w with drawn := w.drawn + 1 }, ⟨rfl, rfl, rfl, Nat.le_refl _, fun _ _ => rfl⟩⟩, rfl⟩ (by simpa using h)
theorem Calls.bw {P : Program} {f : FuncId} {args : Array Value} {w : World} (x : BW w) {v : Value} (h : Calls P f args x.1 fun e w' => e = .returned v ∧ Below x.1.heap.size x.1 w') : Calls P f args x.1 fun e w'' => e = .returned v ∧ ∃ y : BW w, w'' = y.1 :=
  h.mono fun _ w' ⟨he, hb⟩ => ⟨he, ⟨w', x.2.trans (hb.mono x.2.size)⟩, rfl⟩
/-- a contract's Bool, by its value -/
theorem valB {P : Program} {f : FuncId} {args : Array Value} {w : World} {a v : Bool} (h : Calls P f args w fun e w' => e = .returned (.bool a) ∧ Below w.heap.size w w') (e : a = v) : Calls P f args w fun e w' => e = .returned (.bool v) ∧ Below w.heap.size w w' := e ▸ h
theorem valI {P : Program} {f : FuncId} {args : Array Value} {w : World} {k : IntKind} {a v : Int} (h : Calls P f args w fun e w' => e = .returned (.int k a) ∧ Below w.heap.size w w') (e : a = v) : Calls P f args w fun e w' => e = .returned (.int k v) ∧ Below w.heap.size w w' := e ▸ h
theorem bcell {w w1 : World} (hb : Below w.heap.size w w1) {p : Addr} {v : Value} (h : w.cell? p = some v) : w1.cell? p = some v :=
  (hb.cell (World.block_lt_of_cell? w p h)).trans h
theorem bwcell {w : World} {p : Addr} {v : Value} (h : w.cell? p = some v) : ∀ x : BW w, x.1.cell? p = some v := fun x => bcell x.2 h
theorem bdrewN {B : Nat} {w W : World} (h : Below B w W) (n : Nat) : Below B w (W.drewN n) := ⟨h.os, h.tape, h.output, h.size, h.block⟩
/-- all old cells and marks read as before -/
theorem brules {W w1 : World} (hb : Below W.heap.size W w1) : (∀ b o, b < W.heap.size → w1.cell? ⟨b, o, none⟩ = W.cell? ⟨b, o, none⟩) ∧ (∀ b o, b < W.heap.size → w1.frozen? ⟨b, o, none⟩ = W.frozen? ⟨b, o, none⟩) :=
  ⟨fun b o h => hb.cell (p := ⟨b, o, none⟩) h, fun b o h => hb.frozen (p := ⟨b, o, none⟩) h⟩
/-- behind one more block -/
theorem acell {w : World} {p : Addr} {v : Value} (h : w.cell? p = some v) : ∀ o, (w.alloc o).cell? p = some v := fun o => bcell ((Below.refl _ _).alloc (Nat.le_refl _) o) h
/-- behind a draw -/
theorem bdr {w w1 : World} (h : Below w.drew.heap.size w.drew w1) : Below w.heap.size w w1 := ⟨h.os, h.tape, h.output, h.size, h.block⟩
/-- on from a later world -/
theorem btrans {w w1 w2 : World} (h : Below w.heap.size w w1) (k : Below w1.heap.size w1 w2) : Below w.heap.size w w2 := h.trans (k.mono h.size)

/-! ### Maps: six cells -/
/-- the six cells of a map lie at b, o -/
structure MpAt (w : World) (b o : Nat) (m : Mp) : Prop where
  h0 : w.cell? ⟨b, o, none⟩ = some (.int .i64 m.p)
  h1 : w.cell? ⟨b, o + 1, none⟩ = some (.int .i64 m.a)
  h2 : w.cell? ⟨b, o + 2, none⟩ = some (.int .i64 m.b)
  h3 : w.cell? ⟨b, o + 3, none⟩ = some (.int .i64 m.c)
  h4 : w.cell? ⟨b, o + 4, none⟩ = some (.int .i64 m.d)
  h5 : w.cell? ⟨b, o + 5, none⟩ = some (.int .i64 m.e)
theorem MpAt.below {w w1 : World} {b o : Nat} {m : Mp} (h : MpAt w b o m) (hb : Below w.heap.size w w1) : MpAt w1 b o m :=
  ⟨bcell hb h.h0, bcell hb h.h1, bcell hb h.h2, bcell hb h.h3, bcell hb h.h4, bcell hb h.h5⟩
theorem MpAt.bw {w : World} {b o : Nat} {m : Mp} (h : MpAt w b o m) : 
   (∀ x : BW w, x.1.cell? ⟨b, o, none⟩ = some (.int .i64 m.p)) ∧ (∀ x : BW w, x.1.cell? ⟨b, o + 1, none⟩ = some (.int .i64 m.a)) ∧ (∀ x : BW w, x.1.cell? ⟨b, o + 2, none⟩ = some (.int .i64 m.b)) ∧ (∀ x : BW w, x.1.cell? ⟨b, o + 3, none⟩ = some (.int .i64 m.c)) ∧ (∀ x : BW w, x.1.cell? ⟨b, o + 4, none⟩ = some (.int .i64 m.d)) ∧ (∀ x : BW w, x.1.cell? ⟨b, o + 5, none⟩ = some (.int .i64 m.e)) :=
  ⟨fun x => (h.below x.2).h0, fun x => (h.below x.2).h1, fun x => (h.below x.2).h2, fun x => (h.below x.2).h3, fun x => (h.below x.2).h4, fun x => (h.below x.2).h5⟩
theorem MpAt.to {w : World} {b o : Nat} {m : Mp} (h : MpAt w b o m) {i : Nat} (hi : i < 5) : w.cell? ⟨b, o + 1 + i, none⟩ = some (.int .i64 (m.to i)) := by
  match i, hi with
  | 0, _ => exact h.h1
  | 1, _ => exact h.h2
  | 2, _ => exact h.h3
  | 3, _ => exact h.h4
  | 4, _ => exact h.h5

theorem MpAt.to' {w : World} {b : Nat} {m : Mp} (h : MpAt w b 0 m) {i : Nat} (hi : i < 5) : w.cell? ⟨b, 1 + i, none⟩ = some (.int .i64 (m.to i)) := by
  have := h.to hi
  simpa using this
theorem MpAt.cells0 {w : World} {b : Nat} {m : Mp} (h : MpAt w b 0 m) : w.cell? ⟨b, 0, none⟩ = some (.int .i64 m.p) ∧ w.cell? ⟨b, 1, none⟩ = some (.int .i64 m.a) ∧ w.cell? ⟨b, 2, none⟩ = some (.int .i64 m.b) ∧ w.cell? ⟨b, 3, none⟩ = some (.int .i64 m.c) ∧ w.cell? ⟨b, 4, none⟩ = some (.int .i64 m.d) ∧ w.cell? ⟨b, 5, none⟩ = some (.int .i64 m.e) :=
  ⟨h.h0, h.h1, h.h2, h.h3, h.h4, h.h5⟩
theorem MpAt.boxed (w : World) (m : Mp) (t : TypeId) : MpAt (w.alloc (.cells #[.int .i64 m.p, .int .i64 m.a, .int .i64 m.b, .int .i64 m.c, .int .i64 m.d, .int .i64 m.e] t)) w.heap.size 0 m := by
  constructor <;> simp [go_sem]

/-! ### Slices as they are read -/
def SeeMaps (w : World) (A : Option Addr) (ms : List Mp) : Prop := ms ≠ [] → ∃ b o, A = some ⟨b, o, none⟩ ∧ ∀ k m, ms[k]? = some m → MpAt w b (o + k * 6) m
def SeeInts (w : World) (A : Option Addr) (xs : List Int) : Prop := xs ≠ [] → ∃ b o, A = some ⟨b, o, none⟩ ∧ ∀ k x, xs[k]? = some x → w.cell? ⟨b, o + k, none⟩ = some (.int .i64 x)
theorem SeeMaps.below {w w1 : World} {A : Option Addr} {ms : List Mp} (h : SeeMaps w A ms) (hb : Below w.heap.size w w1) : SeeMaps w1 A ms := fun hn => by
  obtain ⟨b, o, e, g⟩ := h hn
  exact ⟨b, o, e, fun k m hk => (g k m hk).below hb⟩
theorem SeeInts.below {w w1 : World} {A : Option Addr} {xs : List Int} (h : SeeInts w A xs) (hb : Below w.heap.size w w1) : SeeInts w1 A xs := fun hn => by
  obtain ⟨b, o, e, g⟩ := h hn
  exact ⟨b, o, e, fun k m hk => bcell hb (g k m hk)⟩
theorem SeeMaps.bw {w : World} {A : Option Addr} {ms : List Mp} (h : SeeMaps w A ms) : ∀ x : BW w, SeeMaps x.1 A ms := fun x => h.below x.2
theorem SeeInts.bw {w : World} {A : Option Addr} {xs : List Int} (h : SeeInts w A xs) : ∀ x : BW w, SeeInts x.1 A xs := fun x => h.below x.2
theorem ne_of_lt {α : Type} {xs : List α} {k : Nat} (h : k < xs.length) : xs ≠ [] := fun e => by rw [e] at h; exact absurd h (Nat.not_lt_zero _)
/-- element k of a list -/
theorem el {α : Type} {xs : List α} {k : Nat} (h : k < xs.length) : ∃ x, xs[k]? = some x := ⟨xs[k], List.getElem?_eq_getElem h⟩
/-- the value of a slice that may be nil -/
def NilOk (A : Option Addr) (c : Nat) : Prop := A = none → c = 0
/-! ### Rows of the call's own -/
/-- the cells of a list of maps, place by place -/
structure RepMaps (xs : List Value) (ms : List Mp) : Prop where
  len : xs.length = ms.length * 6
  at_ : ∀ k m, ms[k]? = some m → xs[k * 6]? = some (.int .i64 m.p) ∧ xs[k * 6 + 1]? = some (.int .i64 m.a) ∧ xs[k * 6 + 2]? = some (.int .i64 m.b) ∧ xs[k * 6 + 3]? = some (.int .i64 m.c) ∧ xs[k * 6 + 4]? = some (.int .i64 m.d) ∧ xs[k * 6 + 5]? = some (.int .i64 m.e)
def OwnMaps (w : World) (base : Nat) (v : Value) (ms : List Mp) : Prop := ∃ xs, w.ownsRow base 61 6 v ms.length xs ∧ RepMaps xs ms
def OwnInts (w : World) (base : Nat) (v : Value) (xs : List Int) : Prop := w.ownsRow base 2 1 v xs.length (xs.map (Value.int .i64))
theorem OwnMaps.below {w w1 : World} {base : Nat} {v : Value} {ms : List Mp} (h : OwnMaps w base v ms) (hb : Below w.heap.size w w1) : OwnMaps w1 base v ms := by
  obtain ⟨xs, h1, h2⟩ := h
  refine ⟨xs, h1.kept (row := none) ⟨hb.os, hb.tape, hb.output, hb.size, fun i hi _ => hb.block i hi⟩ ?_, h2⟩
  cases v.ownBlock <;> simp
theorem OwnInts.below {w w1 : World} {base : Nat} {v : Value} {xs : List Int} (h : OwnInts w base v xs) (hb : Below w.heap.size w w1) : OwnInts w1 base v xs :=
  World.ownsRow.kept (row := none) h ⟨hb.os, hb.tape, hb.output, hb.size, fun i hi _ => hb.block i hi⟩ (by cases v.ownBlock <;> simp)
/-- what a row's place holds, and that it may be written -/
theorem OwnMaps.at_ {w : World} {base g n c : Nat} {ms : List Mp} (h : OwnMaps w base (.slice (some ⟨g, 0, none⟩) n c) ms) {k : Nat} {m : Mp} (hk : ms[k]? = some m) : MpAt w g (k * 6) m := by
  obtain ⟨xs, h1, h2⟩ := h
  have hl : k < ms.length := (List.getElem?_eq_some_iff.1 hk).1
  have hn : n = ms.length := by
    rcases h1.2 with ⟨h', _⟩ | ⟨g', cap', cur, h', _⟩
    · simp at h'
    · simp at h'; omega
  subst hn
  obtain ⟨a0, a1, a2, a3, a4, a5⟩ := h2.at_ k m hk
  exact ⟨(h1.cellAt _ (by omega)).trans a0, (h1.cellAt _ (by omega)).trans a1, (h1.cellAt _ (by omega)).trans a2, (h1.cellAt _ (by omega)).trans a3, (h1.cellAt _ (by omega)).trans a4, (h1.cellAt _ (by omega)).trans a5⟩
theorem OwnMaps.free {w : World} {base g n c : Nat} {ms : List Mp} (h : OwnMaps w base (.slice (some ⟨g, 0, none⟩) n c) ms) (j : Nat) : w.frozen? ⟨g, j, none⟩ = false := by
  obtain ⟨xs, h1, h2⟩ := h
  rcases h1.2 with ⟨h', _⟩ | ⟨g', cap', cur, h', hb, hg, _⟩
  · simp at h'
  · simp only [Value.slice.injEq, Option.some.injEq, Addr.mk.injEq, and_true] at h'
    obtain ⟨rfl, _⟩ := h'
    exact frozen_of_row w g j cur _ hg
def put6 (xs : List Value) (o : Nat) (m : Mp) : List Value := (((((xs.set o (.int .i64 m.p)).set (o + 1) (.int .i64 m.a)).set (o + 2) (.int .i64 m.b)).set (o + 3) (.int .i64 m.c)).set (o + 4) (.int .i64 m.d)).set (o + 5) (.int .i64 m.e)
theorem put6_length (xs : List Value) (o : Nat) (m : Mp) : (put6 xs o m).length = xs.length := by simp [put6]
theorem put6_far (xs : List Value) (o : Nat) (m : Mp) (q : Nat) (h : q < o ∨ o + 6 ≤ q) : (put6 xs o m)[q]? = xs[q]? := by
  unfold put6
  rw [List.getElem?_set_ne (by omega), List.getElem?_set_ne (by omega), List.getElem?_set_ne (by omega), List.getElem?_set_ne (by omega), List.getElem?_set_ne (by omega), List.getElem?_set_ne (by omega)]
theorem put6_at (xs : List Value) (o : Nat) (m : Mp) (h : o + 6 ≤ xs.length) : (put6 xs o m)[o]? = some (.int .i64 m.p) ∧ (put6 xs o m)[o + 1]? = some (.int .i64 m.a) ∧ (put6 xs o m)[o + 2]? = some (.int .i64 m.b) ∧ (put6 xs o m)[o + 3]? = some (.int .i64 m.c) ∧ (put6 xs o m)[o + 4]? = some (.int .i64 m.d) ∧ (put6 xs o m)[o + 5]? = some (.int .i64 m.e) := by
  unfold put6
  refine ⟨?_, ?_, ?_, ?_, ?_, ?_⟩
  · rw [List.getElem?_set_ne (by omega), List.getElem?_set_ne (by omega), List.getElem?_set_ne (by omega), List.getElem?_set_ne (by omega), List.getElem?_set_ne (by omega), List.getElem?_set_self (by omega)]
  · rw [List.getElem?_set_ne (by omega), List.getElem?_set_ne (by omega), List.getElem?_set_ne (by omega), List.getElem?_set_ne (by omega), List.getElem?_set_self (by simp; omega)]
  · rw [List.getElem?_set_ne (by omega), List.getElem?_set_ne (by omega), List.getElem?_set_ne (by omega), List.getElem?_set_self (by simp; omega)]
  · rw [List.getElem?_set_ne (by omega), List.getElem?_set_ne (by omega), List.getElem?_set_self (by simp; omega)]
  · rw [List.getElem?_set_ne (by omega), List.getElem?_set_self (by simp; omega)]
  · rw [List.getElem?_set_self (by simp; omega)]
theorem RepMaps.put {xs : List Value} {ms : List Mp} (h : RepMaps xs ms) {k : Nat} (hk : k < ms.length) (m : Mp) : RepMaps (put6 xs (k * 6) m) (ms.set k m) := by
  have hl := h.len
  refine ⟨by rw [put6_length, List.length_set, hl], fun j m' hj => ?_⟩
  by_cases e : j = k
  · subst e
    rw [List.getElem?_set_self hk] at hj
    obtain rfl := Option.some.inj hj
    exact put6_at xs (j * 6) m (by omega)
  · rw [List.getElem?_set_ne (Ne.symm e)] at hj
    have := h.at_ j m' hj
    rcases Nat.lt_or_gt_of_ne e with hlt | hlt
    · rw [put6_far _ _ _ _ (by omega), put6_far _ _ _ _ (by omega), put6_far _ _ _ _ (by omega), put6_far _ _ _ _ (by omega), put6_far _ _ _ _ (by omega), put6_far _ _ _ _ (by omega)]
      exact this
    · rw [put6_far _ _ _ _ (by omega), put6_far _ _ _ _ (by omega), put6_far _ _ _ _ (by omega), put6_far _ _ _ _ (by omega), put6_far _ _ _ _ (by omega), put6_far _ _ _ _ (by omega)]
      exact this
theorem own_slice_len {w : World} {base : Nat} {e : TypeId} {size g n c l : Nat} {xs : List Value} (h : w.ownsRow base e size (.slice (some ⟨g, 0, none⟩) n c) l xs) : n = l := by
  rcases h.2 with ⟨h', _⟩ | ⟨g', cap', cur, h', _⟩
  · simp at h'
  · simp at h'
    omega
theorem OwnMaps.put {w : World} {base g n c : Nat} {ms : List Mp} (h : OwnMaps w base (.slice (some ⟨g, 0, none⟩) n c) ms) {k : Nat} (hk : k < ms.length) (m : Mp) :
    OwnMaps ((((((w.setCell ⟨g, k * 6, none⟩ (.int .i64 m.p)).setCell ⟨g, k * 6 + 1, none⟩ (.int .i64 m.a)).setCell ⟨g, k * 6 + 2, none⟩ (.int .i64 m.b)).setCell ⟨g, k * 6 + 3, none⟩ (.int .i64 m.c)).setCell ⟨g, k * 6 + 4, none⟩ (.int .i64 m.d)).setCell ⟨g, k * 6 + 5, none⟩ (.int .i64 m.e)) base (.slice (some ⟨g, 0, none⟩) n c) (ms.set k m) := by
  obtain ⟨xs, h1, h2⟩ := h
  obtain rfl := own_slice_len h1
  refine ⟨put6 xs (k * 6) m, ?_, h2.put hk m⟩
  rw [List.length_set]
  exact (((((((h1.stored _ _).1.stored _ _).1.stored _ _).1.stored _ _).1.stored _ _).1.stored _ _).1)
theorem toList_made6 (n : Nat) : RepMaps (madeCells #[.int .i64 0, .int .i64 0, .int .i64 0, .int .i64 0, .int .i64 0, .int .i64 0] (n * 6)).toList (List.replicate n Mp.z) := by
  refine ⟨by simp [size_madeCells], fun k m hk => ?_⟩
  have hl : k < n := by simpa using (List.getElem?_eq_some_iff.1 hk).1
  rw [List.getElem?_replicate, if_pos hl] at hk
  obtain rfl := Option.some.inj hk
  have e : ∀ j, j < n * 6 → (madeCells #[.int .i64 0, .int .i64 0, .int .i64 0, .int .i64 0, .int .i64 0, .int .i64 0] (n * 6)).toList[j]? = some (.int .i64 0) := fun j hj => by
    have h6 : j % 6 < 6 := Nat.mod_lt _ (by omega)
    simp only [madeCells, Array.getElem?_toList, Array.getElem?_map, Array.getElem?_range, hj, if_true, Option.map_some, Option.some.injEq]
    show #[Value.int .i64 0, .int .i64 0, .int .i64 0, .int .i64 0, .int .i64 0, .int .i64 0][j % 6]! = _
    rcases (by omega : j % 6 = 0 ∨ j % 6 = 1 ∨ j % 6 = 2 ∨ j % 6 = 3 ∨ j % 6 = 4 ∨ j % 6 = 5) with h | h | h | h | h | h <;> rw [h] <;> rfl
  exact ⟨e _ (by omega), e _ (by omega), e _ (by omega), e _ (by omega), e _ (by omega), e _ (by omega)⟩
/-- a row that is filled from the front -/
theorem fill_set {α : Type} (ms : List α) (z : α) {k : Nat} {m : α} (hk : ms[k]? = some m) : (ms.take k ++ List.replicate (ms.length - k) z).set k m = ms.take (k + 1) ++ List.replicate (ms.length - (k + 1)) z := by
  have hl : k < ms.length := (List.getElem?_eq_some_iff.1 hk).1
  have ht : (ms.take k).length = k := by rw [List.length_take]; omega
  rw [List.set_append_right _ _ (by omega), ht, Nat.sub_self, List.take_add_one, hk]
  obtain ⟨d, hd⟩ : ∃ d, ms.length - k = d + 1 := ⟨ms.length - k - 1, by omega⟩
  rw [hd, List.replicate_succ, List.set_cons_zero, show ms.length - (k + 1) = d from by omega]
  simp
theorem fill_at {α : Type} (ms : List α) (z : α) {k : Nat} (hk : k < ms.length) : (ms.take k ++ List.replicate (ms.length - k) z)[k]? = some z := by
  have ht : (ms.take k).length = k := by rw [List.length_take]; omega
  rw [List.getElem?_append_right (by omega), ht, Nat.sub_self, List.getElem?_replicate, if_pos (by omega)]
theorem fill_len {α : Type} (ms : List α) (z : α) {k : Nat} (hk : k ≤ ms.length) : (ms.take k ++ List.replicate (ms.length - k) z).length = ms.length := by
  rw [List.length_append, List.length_take, List.length_replicate]; omega
theorem fill_end {α : Type} (ms : List α) (z : α) : ms.take ms.length ++ List.replicate (ms.length - ms.length) z = ms := by simp
theorem own_setBelow {w : World} {base : Nat} {e : TypeId} {size : Nat} {v : Value} {n : Nat} {xs : List Value} (h : w.ownsRow base e size v n xs) {a : Addr} (ha : a.block < base) (u : Value) : (w.setCell a u).ownsRow base e size v n xs := by
  refine ⟨h.1, ?_⟩
  rcases h.2 with hn | ⟨g, cap, cur, rfl, hb, hgg, rest⟩
  · exact .inl hn
  · refine .inr ⟨g, cap, cur, rfl, hb, ?_, rest⟩
    rw [heap_setCell_other w a g u (by omega)]
    exact hgg
theorem OwnMaps.setBelow {w : World} {base : Nat} {v : Value} {ms : List Mp} (h : OwnMaps w base v ms) {a : Addr} (ha : a.block < base) (u : Value) : OwnMaps (w.setCell a u) base v ms := by
  obtain ⟨xs, h1, h2⟩ := h
  exact ⟨xs, own_setBelow h1 ha u, h2⟩
theorem OwnInts.setBelow {w : World} {base : Nat} {v : Value} {xs : List Int} (h : OwnInts w base v xs) {a : Addr} (ha : a.block < base) (u : Value) : OwnInts (w.setCell a u) base v xs := own_setBelow h ha u
theorem own_mono {w : World} {base base' : Nat} {e : TypeId} {size : Nat} {v : Value} {n : Nat} {xs : List Value} (h : w.ownsRow base e size v n xs) (hb : base' ≤ base) : w.ownsRow base' e size v n xs := by
  refine ⟨h.1, ?_⟩
  rcases h.2 with hn | ⟨g, cap, cur, rfl, hbb, rest⟩
  · exact .inl hn
  · exact .inr ⟨g, cap, cur, rfl, Nat.le_trans hb hbb, rest⟩
theorem OwnMaps.mono {w : World} {base base' : Nat} {v : Value} {ms : List Mp} (h : OwnMaps w base v ms) (hb : base' ≤ base) : OwnMaps w base' v ms := by
  obtain ⟨xs, h1, h2⟩ := h
  exact ⟨xs, own_mono h1 hb, h2⟩
theorem OwnInts.mono {w : World} {base base' : Nat} {v : Value} {xs : List Int} (h : OwnInts w base v xs) (hb : base' ≤ base) : OwnInts w base' v xs := own_mono h hb
theorem OwnInts.at_ {w : World} {base g n c : Nat} {xs : List Int} (h : OwnInts w base (.slice (some ⟨g, 0, none⟩) n c) xs) {k : Nat} {x : Int} (hk : xs[k]? = some x) : w.cell? ⟨g, k, none⟩ = some (.int .i64 x) := by
  have hl : k < xs.length := (List.getElem?_eq_some_iff.1 hk).1
  unfold OwnInts at h
  obtain rfl := own_slice_len h
  exact (h.cellAt k (by omega)).trans (by rw [List.getElem?_map, hk]; rfl)
theorem own_free {w : World} {base : Nat} {e : TypeId} {size g n c l : Nat} {xs : List Value} (h : w.ownsRow base e size (.slice (some ⟨g, 0, none⟩) n c) l xs) (j : Nat) : w.frozen? ⟨g, j, none⟩ = false := by
  obtain rfl := own_slice_len h
  exact h.frozenAt j
theorem OwnInts.free {w : World} {base g n c : Nat} {xs : List Int} (h : OwnInts w base (.slice (some ⟨g, 0, none⟩) n c) xs) (j : Nat) : w.frozen? ⟨g, j, none⟩ = false := own_free h j
theorem OwnInts.put {w : World} {base g n c : Nat} {xs : List Int} (h : OwnInts w base (.slice (some ⟨g, 0, none⟩) n c) xs) (k : Nat) (x : Int) : OwnInts (w.setCell ⟨g, k, none⟩ (.int .i64 x)) base (.slice (some ⟨g, 0, none⟩) n c) (xs.set k x) := by
  unfold OwnInts at h ⊢
  obtain rfl := own_slice_len h
  rw [List.length_set, List.map_set]
  exact (h.stored k _).1
theorem OwnInts.made {w : World} {base : Nat} {v : Value} {n : Nat} (h : w.ownsRow base 2 1 v n (madeCells #[.int .i64 0] (n * 1)).toList) : OwnInts w base v (List.replicate n 0) := by
  unfold OwnInts
  rw [List.length_replicate, List.map_replicate]
  rw [Nat.mul_one, toList_madeCells_one] at h
  exact h
theorem own_nilok {w : World} {base : Nat} {e : TypeId} {size n c l : Nat} {A : Option Addr} {xs : List Value} (h : w.ownsRow base e size (.slice A n c) l xs) : NilOk A c := fun hA => by
  subst hA
  rcases h.2 with ⟨h', _⟩ | ⟨g', cap', cur, h', _⟩
  · simp at h'; exact h'.2
  · simp at h'
theorem OwnMaps.nilok {w : World} {base n c : Nat} {A : Option Addr} {ms : List Mp} (h : OwnMaps w base (.slice A n c) ms) : NilOk A c := by
  obtain ⟨xs, h1, _⟩ := h
  exact own_nilok h1
theorem OwnInts.nilok {w : World} {base n c : Nat} {A : Option Addr} {xs : List Int} (h : OwnInts w base (.slice A n c) xs) : NilOk A c := own_nilok h
/-- an owned row as it is read -/
theorem OwnMaps.see {w : World} {base : Nat} {v : Value} {ms : List Mp} (h : OwnMaps w base v ms) : ∃ A c, v = .slice A ms.length c ∧ SeeMaps w A ms := by
  have h0 := h
  obtain ⟨xs, h1, h2⟩ := h
  rcases h1.2 with ⟨rfl, hn⟩ | ⟨g, cap, cur, rfl, _⟩
  · exact ⟨none, 0, by rw [hn], fun hne => absurd (List.eq_nil_of_length_eq_zero hn) hne⟩
  · exact ⟨_, cap, rfl, fun _ => ⟨g, 0, rfl, fun k m hk => by rw [Nat.zero_add]; exact h0.at_ hk⟩⟩
theorem OwnInts.see {w : World} {base : Nat} {v : Value} {xs : List Int} (h : OwnInts w base v xs) : ∃ A c, v = .slice A xs.length c ∧ SeeInts w A xs := by
  have h0 := h
  unfold OwnInts at h
  rcases h.2 with ⟨rfl, hn⟩ | ⟨g, cap, cur, rfl, _⟩
  · exact ⟨none, 0, by rw [hn], fun hne => absurd (List.eq_nil_of_length_eq_zero hn) hne⟩
  · exact ⟨_, cap, rfl, fun _ => ⟨g, 0, rfl, fun k m hk => by rw [Nat.zero_add]; exact h0.at_ hk⟩⟩
theorem SeeInts.at_ {w : World} {A : Option Addr} {xs : List Int} (h : SeeInts w A xs) {k : Nat} (hk : k < xs.length) : ∃ b o x, A = some ⟨b, o, none⟩ ∧ xs[k]? = some x ∧ w.cell? ⟨b, o + k, none⟩ = some (.int .i64 x) := by
  obtain ⟨b, o, e, g⟩ := h (ne_of_lt hk)
  obtain ⟨x, hx⟩ := el hk
  exact ⟨b, o, x, e, hx, g k x hx⟩
theorem SeeMaps.at_ {w : World} {A : Option Addr} {xs : List Mp} (h : SeeMaps w A xs) {k : Nat} (hk : k < xs.length) : ∃ b o x, A = some ⟨b, o, none⟩ ∧ xs[k]? = some x ∧ MpAt w b (o + k * 6) x := by
  obtain ⟨b, o, e, g⟩ := h (ne_of_lt hk)
  obtain ⟨x, hx⟩ := el hk
  exact ⟨b, o, x, e, hx, g k x hx⟩
/-- lists that agree up to k -/
def Upto {α : Type} (xs ys : List α) (k : Nat) : Prop := ∀ j, j < k → xs[j]? = ys[j]?
theorem Upto.zero {α : Type} (xs ys : List α) : Upto xs ys 0 := fun _ h => absurd h (Nat.not_lt_zero _)
theorem Upto.snoc {α : Type} {xs ys : List α} {k : Nat} (h : Upto xs ys k) (hk : xs[k]? = ys[k]?) : Upto xs ys (k + 1) := fun j hj => by
  rcases Nat.lt_succ_iff_lt_or_eq.1 hj with hj | rfl
  · exact h j hj
  · exact hk
theorem Upto.all {α : Type} {xs ys : List α} (h : Upto xs ys xs.length) (hl : xs.length = ys.length) : xs = ys := List.ext_getElem? fun j => by
  by_cases hj : j < xs.length
  · exact h j hj
  · rw [List.getElem?_eq_none (by omega), List.getElem?_eq_none (by omega)]
theorem info_int : (Try.prog.info? 2).map (fun i => (i.zero, i.size, i.bytes)) = some (some (.int .i64 0), 1, 8) := by kernel_rfl
theorem info_map : (Try.prog.info? 61).map (fun i => (i.zero, i.size, i.bytes)) = some (some (.agg #[.int .i64 0, .int .i64 0, .int .i64 0, .int .i64 0, .int .i64 0, .int .i64 0]), 6, 48) := by kernel_rfl
/-! Drawn regions whose first n operations yield one value in every later world (reads, and calls that make memory and hand back plain values), and whose last operations stand in one forced order: one walk of the text's order serves. -/
section
variable {P : Program} {ops : Array Oper} {md : Region.Mode} {C : World → Prop}
/-- the head: whatever order is picked, f operations that come up are quiet, and then L holds -/
def headQ (P : Program) (md : Region.Mode) (ops : Array Oper) (C : World → Prop) (n : Nat) (L : Array Bool → Act → Prop) : Nat → Array Bool → Act → Prop
  | 0, listed, a => L listed a
  | f + 1, listed, a => Region.ready md ops listed ≠ [] ∧ ∀ i ∈ Region.ready md ops listed, i < n ∧ qOp P ops C i (headQ P md ops C n L f (listed.setIfInBounds i true)) a
theorem any_of_headQ {n g : Nat} {L : Array Bool → Act → Prop} {Q' : Exit → Act → World → Prop} (hL : ∀ listed a w, C w → L listed a → wpAny P md ops Q' g listed a w) :
    ∀ (f : Nat) (listed : Array Bool) (a : Act) (w : World), C w → headQ P md ops C n L f listed a → wpAny P md ops Q' (f + g) listed a w
  | 0, listed, a, w, hw, h => by rw [Nat.zero_add]; exact hL _ _ _ hw h
  | f + 1, listed, a, w, hw, h => by
    rw [show f + 1 + g = (f + g) + 1 by omega]
    exact ⟨fun h0 => absurd h0 h.1, fun i hi => wpOp_of_qOp hw (fun a' w' hw' h' => any_of_headQ hL f _ a' w' hw' h') (h.2 i hi).2⟩
theorem headQ_first {n i : Nat} {oi : Oper} {v : Value} {L : Array Bool → Act → Prop} (hi : ops[i]? = some oi) (hsel : ∀ (j : Nat) (o : Oper) cs b, ops[j]? = some o → o.op ≠ .select cs b)
    (hs : Region.sinkB md ops n = true) (hc : Region.chainB md ops n = true) (hn : n < ops.size) (hin : i < n)
    (hdone : ∀ listed a, L listed a → ∀ j ∈ Region.ready md ops listed, n ≤ j) :
    ∀ (f : Nat) (listed : Array Bool) (a : Act), HeadInv md ops n listed →
      (∀ j oj, ops[j]? = some oj → j ≠ i → listed.getD j true = false → (∀ e ∈ oj.after, Region.binds md e = true → e.on ≠ i) → oi.apart ops oj = true) →
      i ∈ Region.ready md ops listed → YieldsIn P ops C oi v a →
      headQ P md ops C n L f (listed.setIfInBounds i true) (a.put oi.dst v) → headQ P md ops C n L (f + 1) listed a := by
  intro f
  induction f with
  | zero =>
    intro listed a inv _ hr hy H
    have hun := (mem_ready.1 hr).1
    refine ⟨fun h => (by rw [h] at hr; cases hr), fun j hj => ?_⟩
    have hjn : j < n := Nat.lt_of_not_le fun h => tail_waits hs hc hn inv _ i rfl hin hun j h hj
    refine ⟨hjn, ?_⟩
    by_cases hji : j = i
    · subst hji; exact hy.qOp hi H
    · have := hdone _ _ H j (ready_mono hj hji)
      omega
  | succ f ih =>
    intro listed a inv hfree hr hy H
    have hun := (mem_ready.1 hr).1
    refine ⟨fun h => (by rw [h] at hr; cases hr), fun j hj => ?_⟩
    have hjn : j < n := Nat.lt_of_not_le fun h => tail_waits hs hc hn inv _ i rfl hin hun j h hj
    refine ⟨hjn, ?_⟩
    by_cases hji : j = i
    · subst hji; exact hy.qOp hi H
    · have h1 := (H.2 j (ready_mono hj hji)).2
      obtain ⟨hjun, oj, hoj, hall⟩ := mem_ready.1 hj
      have hnot : ∀ e ∈ oj.after, Region.binds md e = true → e.on ≠ i := fun e he hb heq => by
        have h1 := hall e he hb
        rw [heq, getD_both hun] at h1
        cases h1
      have h2 := qOp_put hoj (hfree j oj hoj hji hjun hnot) (fun cs b => hsel i oi cs b hi) (fun cs b => hsel j oj cs b hoj) hy h1
      have hfree' : ∀ k ok, ops[k]? = some ok → k ≠ i → (listed.setIfInBounds j true).getD k true = false →
          (∀ e ∈ ok.after, Region.binds md e = true → e.on ≠ i) → oi.apart ops ok = true := fun k ok hk hki hun hno => by
        refine hfree k ok hk hki ?_ hno
        by_cases hjk : j = k
        · subst hjk; exact hjun
        · rw [getD_set_ne true hjk] at hun; exact hun
      refine qOp_mono (fun a' h3 => ih (listed.setIfInBounds j true) a' (inv.set hj hjn) hfree' (ready_mono hr (Ne.symm hji)) h3.1 ?_) h2
      rw [Array.setIfInBounds_comm _ _ hji]
      exact h3.2
theorem headQ_lex {n g : Nat} {Lq : Act → Prop} (hsel : Region.noSelect ops = true) (hs : Region.sinkB md ops n = true) (hc : Region.chainB md ops n = true) (hn : n < ops.size) :
    ∀ (l : List Oper) (k : Nat) (listed : Array Bool) (a : Act), (∀ j, j < l.length → l[j]? = ops[k + j]?) → k + l.length = n → HeadInv md ops n listed →
    Region.lexHead md ops g l.length k listed = true → wpQuiet P ops C Lq l a →
    headQ P md ops C n (fun listed' a' => Region.seqB md ops g n listed' = true ∧ Lq a') l.length listed a
  | [], k, listed, a, _, hk, _, hB, h => by
    have : k = n := by simpa using hk
    subst this
    exact ⟨by simpa [Region.lexHead] using hB, h⟩
  | o :: l, k, listed, a, hl, hk, inv, hB, h => by
    have h0 : ops[k]? = some o := by simpa using (hl 0 (by simp)).symm
    simp only [List.length_cons, Region.lexHead, Bool.and_eq_true] at hB
    obtain ⟨⟨hr, hf⟩, hB'⟩ := hB
    have hkn : k < n := by simp only [List.length_cons] at hk; omega
    have hr' : k ∈ Region.ready md ops listed := by simpa using hr
    have hst : qOp P ops C k (wpQuiet P ops C Lq l) a := by unfold qOp; simp only [h0]; exact h
    obtain ⟨v, hy, hK⟩ := yieldsIn_of_qOp h0 hst
    exact headQ_first h0 (Region.noSelect_spec hsel) hs hc hn hkn (fun listed' a' hL => seqB_ready hL.1) l.length listed a inv (Region.free_spec h0 hf) hr' hy
      (headQ_lex hsel hs hc hn l (k + 1) _ _ (fun j hj => by have := hl (j + 1) (by simp; omega); simpa [Nat.add_assoc, Nat.add_comm 1 j] using this) (by simp only [List.length_cons] at hk; omega) (inv.set hr' hkn) hB' hK)
end
theorem wp_region_tail {P : Program} {id : Nat} {Q : Exit → Act → World → Prop} {a : Act} {w : World} {l : List Oper} (n : Nat) (hm : P.follows .mixedOrders = true) (hB : Region.lexTailB .any l.toArray n = true)
    (h : wpQuiet P l.toArray (fun w' => ∃ x : BW w, w' = x.1) (fun a' => ∀ x : BW w, wpList P l.toArray Q (l.drop n) a' x.1) (l.take n) a) : (Code.region id l.toArray true).wp P Q a w := by
  simp only [Region.lexTailB, Bool.and_eq_true, decide_eq_true_eq] at hB
  obtain ⟨⟨⟨⟨hsel, hn⟩, hs⟩, hc⟩, hlex⟩ := hB
  have hn' : n < l.length := by simpa using hn
  have htl : (l.take n).length = n := by simp; omega
  have hdl : (l.drop n).length = l.toArray.size - n := by simp
  have inv0 : HeadInv .any l.toArray n (Array.replicate l.toArray.size false) :=
    ⟨by simp, fun j oj _ hl => (by rw [getD_replicate_false] at hl; cases hl), fun t _ ht => getD_in (by simpa using ht) (getD_replicate_false _ _)⟩
  have H := headQ_lex (C := fun w' => ∃ x : BW w, w' = x.1) (md := .any) (g := l.toArray.size - n) hsel hs hc hn (l.take n) 0 _ a (fun j hj => by
    have hj' : j < n := by rw [htl] at hj; exact hj
    simp [hj']) (by simpa using htl) inv0 (by rw [htl]; exact hlex) h
  refine wp_region_any hm ?_
  have := any_of_headQ (Q' := Q) (g := l.toArray.size - n) (fun listed a' w' hw' hL => by
    obtain ⟨x, rfl⟩ := hw'
    have := wpAny_of_seq (md := .any) (Q' := Q) (l.drop n) n listed a' x.1 (fun j => by simp [List.getElem?_drop]) (by rw [hdl]; exact hL.1) (hL.2 x)
    rwa [hdl] at this) _ _ _ { w with drawn := w.drawn + 1 } ⟨⟨{ w with drawn := w.drawn + 1 }, ⟨rfl, rfl, rfl, Nat.le_refl _, fun _ _ => rfl⟩⟩, rfl⟩ H
  rw [htl, show n + (l.toArray.size - n) = l.toArray.size by omega] at this
  exact this
/-! The laws of append that these proofs use, in one form: what is owned, what is appended as it is read, nil let in. -/
theorem add_lit (b o j : Nat) : (⟨b, o, none⟩ : Addr).add j = ⟨b, o + j, none⟩ := by unfold Addr.add; split <;> simp_all
/-- the cells that a slice's elements lie in, as they are read; a nil slice has none -/
def SeeCells (w : World) (A : Option Addr) (c : Nat) (xs : List Value) : Prop := (A = none ∧ c = 0 ∧ xs = []) ∨ ∃ ad, A = some ad ∧ ∀ j u, xs[j]? = some u → w.cell? (ad.add j) = some u
section
variable {P : Program}
theorem run_append_see (w : World) (base : Nat) (t ty e : TypeId) (i : TypeInfo) (z : Value) (size bytes : Nat) (ht : P.underlying t = some (.slice e)) (hi : P.info? e = some i) (hz : i.zero = some z)
    (hsize : i.size = size) (hby : i.bytes = bytes) (hzs : z.cells.size = size) (hsz : 0 < size)
    (v : Value) (n : Nat) (xs : List Value) (hown : w.ownsRow base e size v n xs)
    (A : Option Addr) (m c : Nat) (news : List Value) (hl : news.length = m * size) (hsee : SeeCells w A c news) (h1 : ∀ u ∈ news, u.oneCell' = true)
    (h63 : n + m ≤ maxLen) (hbytes : (n + m) * bytes ≤ 140737488355328) (hbase : base ≤ w.heap.size) :
    ∃ v' w', (Builtin.append_ #[t, t] ty #[v, .slice A m c]).run P w = .ok v' w' ∧ w'.ownsRow base e size v' (n + m) (xs ++ news) ∧ w.grownBy w' v.ownBlock ∧
      (v'.ownBlock = v.ownBlock ∨ v'.ownBlock = some w.heap.size) := by
  rcases hsee with ⟨rfl, rfl, rfl⟩ | ⟨ad, rfl, hc⟩
  · have hm : m = 0 := by
      have : m * size = 0 := by rw [← hl]; rfl
      rcases Nat.mul_eq_zero.1 this with h | h
      · exact h
      · omega
    subst hm
    exact ⟨v, w, run_append_owned_none (P := P) w base t ty e i size ht hi v n xs hown, by simpa using hown, World.grownBy.refl _ _, .inl rfl⟩
  · obtain ⟨v', w', hr, h2, h3, h4⟩ := run_append_own_at (P := P) w base t ty e i z size bytes ht hi hz hsize hby hzs hsz v n xs hown ad m c news hl hc h1 h63 hbytes hbase
    exact ⟨v', w', hr, h2, h3, h4.2⟩
theorem wpList_append_see (w : World) {ops : Array Oper} {rest : List Oper} {o : Oper} {a : Act} {Q : Exit → Act → World → Prop} (hgd : o.guard = none) (s x : Operand) (t : TypeId)
    (ho : o.op = .call { callee := .builtin .append, args := #[s, x], argTypes := #[t, t] })
    (base : Nat) (e : TypeId) (i : TypeInfo) (z : Value) (size bytes : Nat) (ht : P.underlying t = some (.slice e)) (hi : P.info? e = some i) (hz : i.zero = some z)
    (hsize : i.size = size) (hby : i.bytes = bytes) (hzs : z.cells.size = size) (hsz : 0 < size)
    (v : Value) (n : Nat) (xs : List Value) (hs : a.eval s = v) (hown : w.ownsRow base e size v n xs)
    (A : Option Addr) (m c : Nat) (news : List Value) (hx : a.eval x = .slice A m c) (hl : news.length = m * size) (hsee : SeeCells w A c news) (h1 : ∀ u ∈ news, u.oneCell' = true)
    (h63 : n + m ≤ maxLen) (hbytes : (n + m) * bytes ≤ 140737488355328) (hbase : base ≤ w.heap.size)
    (hK : ∀ v' w', w'.ownsRow base e size v' (n + m) (xs ++ news) → w.grownBy w' v.ownBlock → (v'.ownBlock = v.ownBlock ∨ v'.ownBlock = some w.heap.size) → wpList P ops Q rest (a.put o.dst v') w') :
    wpList P ops Q (o :: rest) a w := by
  refine wpList_plain hgd fun K hK' => ?_
  obtain ⟨v', w', hr, r1, r2, r3⟩ := run_append_see (P := P) w base t o.type e i z size bytes ht hi hz hsize hby hzs hsz v n xs hown A m c news hl hsee h1 h63 hbytes hbase
  unfold Oper.wp
  simp only [execOp, ho, resolve, invoke, builtin, Sem.run_bind, Sem.run_pure, Result.andThen_ok, List.map_toArray, List.map_cons, List.map_nil, hs, hx, hr]
  exact hK' _ _ (hK v' w' r1 r2 r3)
/-- append(nil, make([]T, m)...), m greater than 0 -/
theorem run_append_nil_zeros (w : World) (base : Nat) (t ti ty e : TypeId) (i : TypeInfo) (z : Value) (size bytes : Nat) (ht : P.underlying t = some (.slice e)) {k : IntKind} (hti : P.underlying ti = some (.int k)) (hi : P.info? e = some i) (hz : i.zero = some z)
    (hsize : i.size = size) (hby : i.bytes = bytes) (hzs : z.cells.size = size) (hsz : 0 < size) (hb0 : 0 < bytes) (kx : IntKind) (m : Nat) (hm : 0 < m)
    (hbytes : m * bytes ≤ 140737488355328) (hbase : base ≤ w.heap.size) :
    ∃ cap w', (Builtin.append_ #[t, ti] ty #[.slice none 0 0, .int kx m]).run P w = .ok (.slice (some ⟨w.heap.size, 0, none⟩) m cap) w' ∧ m ≤ cap ∧ w'.ownsRow base e size (.slice (some ⟨w.heap.size, 0, none⟩) 0 cap) 0 [] ∧ w.grownBy w' none := by
  subst hsize
  subst hby
  have hle : m ≤ 140737488355328 := Nat.le_trans (Nat.le_mul_of_pos_right _ hb0) hbytes
  have hw : IntKind.i64.wrap (m : Int) = m := by rw [IntKind.wrap_i64]; omega
  have hneg : ¬ ((m : Int) < 0) := by omega
  have hbig : ¬ (281474976710656 < (m : Int) * (i.bytes : Int)) := by
    rw [← Int.natCast_mul]
    omega
  have hmz : ¬ (m * i.size = 0) := Nat.mul_ne_zero (by omega) (by omega)
  have h63' : ¬ (9223372036854775807 < (m : Int)) := by omega
  have hfit := growslice_fits (old := 0) (need := m) (by omega) hbytes
  have h48' : ¬ (281474976710656 < Builtin.nextslicecap m 0 * i.bytes) := by omega
  have hge := grownCap_ge w m 0 e
  have hcm : grownCap w m 0 e ≤ maxLen := grownCap_le_maxLen w m 0 e (by simp only [maxLen]; omega)
  have hm0 : ¬ m = 0 := by omega
  refine ⟨grownCap w m 0 e, w.drew.alloc (.cells (Builtin.zeroCells z.cells m ++ Builtin.zeroCells z.cells (grownCap w m 0 e - m)) e), ?_, hge, ?_, ⟨rfl, rfl, rfl, by simp, fun k hk _ => heap_alloc_old w.drew _ hk⟩⟩
  · simp [Builtin.append_, run_underlying ht, run_underlying hti, sizeOf, typeInfo, zeroValue, hi, hz, asInt, asIntOf, hw, hneg, hbig, h63', h48', Question.forced, newRow, grownCap, hmz, hm0, Builtin.firstCells]
  · refine ⟨by simp, .inr ⟨w.heap.size, _, _, rfl, hbase, heap_alloc_new w.drew _, Nat.zero_le _, hcm, ?_, by simp⟩⟩
    simp only [Array.size_append, size_zeroCells, hzs, ← Nat.add_mul]
    congr 1
    omega
theorem wpList_append_nil_zeros (w : World) {ops : Array Oper} {rest : List Oper} {o : Oper} {a : Act} {Q : Exit → Act → World → Prop} (hgd : o.guard = none) (s x : Operand) (t ti : TypeId)
    (ho : o.op = .call { callee := .builtin .append, args := #[s, x], argTypes := #[t, ti] })
    (base : Nat) (e : TypeId) (i : TypeInfo) (z : Value) (size bytes : Nat) (ht : P.underlying t = some (.slice e)) {k : IntKind} (hti : P.underlying ti = some (.int k)) (hi : P.info? e = some i) (hz : i.zero = some z)
    (hsize : i.size = size) (hby : i.bytes = bytes) (hzs : z.cells.size = size) (hsz : 0 < size) (hb0 : 0 < bytes) (kx : IntKind) (m : Nat) (hs : a.eval s = .slice none 0 0) (hx : a.eval x = .int kx m) (hm : 0 < m)
    (hbytes : m * bytes ≤ 140737488355328) (hbase : base ≤ w.heap.size)
    (hK : ∀ cap w', m ≤ cap → w'.ownsRow base e size (.slice (some ⟨w.heap.size, 0, none⟩) 0 cap) 0 [] → w.grownBy w' none → wpList P ops Q rest (a.put o.dst (.slice (some ⟨w.heap.size, 0, none⟩) m cap)) w') :
    wpList P ops Q (o :: rest) a w := by
  refine wpList_plain hgd fun K hK' => ?_
  obtain ⟨cap, w', hr, r1, r2, r3⟩ := run_append_nil_zeros (P := P) w base t ti o.type e i z size bytes ht hti hi hz hsize hby hzs hsz hb0 kx m hm hbytes hbase
  unfold Oper.wp
  simp only [execOp, ho, resolve, invoke, builtin, Sem.run_bind, Sem.run_pure, Result.andThen_ok, List.map_toArray, List.map_cons, List.map_nil, hs, hx, hr]
  exact hK' _ _ (hK cap w' r1 r2 r3)
end
/-! What stays of old memory; one element appended to a row of the call's own. -/
/-- the blocks of S stay as they are -/
structure Keep (S : Nat → Prop) (w w' : World) : Prop where
  os : w'.os = w.os
  tape : w'.tape = w.tape
  output : w'.output = w.output
  size : w.heap.size ≤ w'.heap.size
  block : ∀ k, k < w.heap.size → S k → w'.heap[k]? = w.heap[k]?
theorem Keep.refl (S : Nat → Prop) (w : World) : Keep S w w := ⟨rfl, rfl, rfl, Nat.le_refl _, fun _ _ _ => rfl⟩
theorem Keep.trans {S : Nat → Prop} {a b c : World} (h : Keep S a b) (k : Keep S b c) : Keep S a c :=
  ⟨k.os.trans h.os, k.tape.trans h.tape, k.output.trans h.output, Nat.le_trans h.size k.size, fun i hi hs => (k.block i (Nat.lt_of_lt_of_le hi h.size) hs).trans (h.block i hi hs)⟩
theorem Keep.mono {S S' : Nat → Prop} {w w' : World} (h : Keep S w w') (hs : ∀ k, k < w.heap.size → S' k → S k) : Keep S' w w' := ⟨h.os, h.tape, h.output, h.size, fun k hk hk' => h.block k hk (hs k hk hk')⟩
theorem kb {S : Nat → Prop} {w w' : World} (h : Below w.heap.size w w') : Keep S w w' := ⟨h.os, h.tape, h.output, h.size, fun k hk _ => h.block k hk⟩
theorem keep_grown {w w' : World} {row : Option Nat} (h : w.grownBy w' row) {S : Nat → Prop} (hs : ∀ k, row = some k → ¬ S k) : Keep S w w' := ⟨h.os, h.tape, h.output, h.size, fun k hk hk' => h.block k hk (fun e => hs k e.symm hk')⟩
theorem Keep.below {S : Nat → Prop} {w w' : World} (h : Keep S w w') {B : Nat} (hB : B ≤ w.heap.size) (hs : ∀ k, k < B → S k) : Below B w w' := ⟨h.os, h.tape, h.output, h.size, fun k hk => h.block k (Nat.lt_of_lt_of_le hk hB) (hs k hk)⟩
theorem Keep.cell {S : Nat → Prop} {w w' : World} (h : Keep S w w') {p : Addr} {v : Value} (hp : S p.block) (hv : w.cell? p = some v) : w'.cell? p = some v :=
  (World.cell?_of_block (h.block p.block (World.block_lt_of_cell? w p hv) hp)).trans hv
theorem kbelow (w : World) (o : Obj) : Below w.heap.size w (w.alloc o) := Below.alloc (Below.refl _ _) (Nat.le_refl _) o
/-- a slice's block is one of S -/
def InS (S : Nat → Prop) (A : Option Addr) : Prop := ∀ a, A = some a → S a.block
theorem InS.mono {S S' : Nat → Prop} {A : Option Addr} (h : InS S A) (hs : ∀ k, S k → S' k) : InS S' A := fun a ha => hs _ (h a ha)
theorem SeeInts.keep {S : Nat → Prop} {w w' : World} {A : Option Addr} {xs : List Int} (h : SeeInts w A xs) (hs : InS S A) (hk : Keep S w w') : SeeInts w' A xs := fun hn => by
  obtain ⟨b, o, rfl, g⟩ := h hn
  exact ⟨b, o, rfl, fun k x hx => hk.cell (p := ⟨b, _, none⟩) (hs ⟨b, o, none⟩ rfl) (g k x hx)⟩
theorem SeeMaps.keep {S : Nat → Prop} {w w' : World} {A : Option Addr} {ms : List Mp} (h : SeeMaps w A ms) (hs : InS S A) (hk : Keep S w w') : SeeMaps w' A ms := fun hn => by
  obtain ⟨b, o, rfl, g⟩ := h hn
  exact ⟨b, o, rfl, fun k x hx => by
    obtain ⟨h0, h1, h2, h3, h4, h5⟩ := g k x hx
    exact ⟨hk.cell (p := ⟨b, _, none⟩) (hs ⟨b, o, none⟩ rfl) h0, hk.cell (p := ⟨b, _, none⟩) (hs ⟨b, o, none⟩ rfl) h1, hk.cell (p := ⟨b, _, none⟩) (hs ⟨b, o, none⟩ rfl) h2, hk.cell (p := ⟨b, _, none⟩) (hs ⟨b, o, none⟩ rfl) h3, hk.cell (p := ⟨b, _, none⟩) (hs ⟨b, o, none⟩ rfl) h4, hk.cell (p := ⟨b, _, none⟩) (hs ⟨b, o, none⟩ rfl) h5⟩⟩
theorem own_keep {S : Nat → Prop} {w w' : World} {base : Nat} {e : TypeId} {size : Nat} {v : Value} {n : Nat} {xs : List Value} (h : w.ownsRow base e size v n xs) (hs : ∀ k, v.ownBlock = some k → S k) (hk : Keep S w w') : w'.ownsRow base e size v n xs := by
  refine ⟨h.1, ?_⟩
  rcases h.2 with hn | ⟨g, cap, cur, rfl, hb, hg, rest⟩
  · exact .inl hn
  · refine .inr ⟨g, cap, cur, rfl, hb, ?_, rest⟩
    rw [hk.block g (Array.getElem?_eq_some_iff.1 hg).1 (hs g rfl)]
    exact hg
theorem OwnInts.keep {S : Nat → Prop} {w w' : World} {base : Nat} {v : Value} {xs : List Int} (h : OwnInts w base v xs) (hs : ∀ k, v.ownBlock = some k → S k) (hk : Keep S w w') : OwnInts w' base v xs := own_keep h hs hk
theorem OwnInts.nil (w : World) (base : Nat) : OwnInts w base (.slice none 0 0) [] := World.ownsRow_nil _ _ _ _
theorem own_block {w : World} {base : Nat} {e : TypeId} {size : Nat} {A : Option Addr} {l c n : Nat} {xs : List Value} (h : w.ownsRow base e size (.slice A l c) n xs) : InS (fun k => base ≤ k ∧ k < w.heap.size) A := fun a ha => by
  subst ha
  exact h.lt a.block rfl
theorem OwnInts.one (w : World) (base : Nat) (hb : base ≤ w.heap.size) (x : Int) : OwnInts (w.alloc (.cells #[.int .i64 x] 2)) base (.slice (some ⟨w.heap.size, 0, none⟩) 1 1) [x] :=
  ⟨rfl, .inr ⟨w.heap.size, 1, #[.int .i64 x], rfl, hb, heap_alloc_new w _, Nat.le_refl _, by decide, rfl, rfl⟩⟩
theorem OwnInts.see' {w : World} {base : Nat} {A : Option Addr} {n c : Nat} {xs : List Int} (h : OwnInts w base (.slice A n c) xs) : SeeInts w A xs := by
  obtain ⟨A', c', e, hs⟩ := h.see
  simp only [Value.slice.injEq] at e
  obtain ⟨rfl, _, _⟩ := e
  exact hs
theorem OwnMaps.see' {w : World} {base : Nat} {A : Option Addr} {n c : Nat} {xs : List Mp} (h : OwnMaps w base (.slice A n c) xs) : SeeMaps w A xs := by
  obtain ⟨A', c', e, hs⟩ := h.see
  simp only [Value.slice.injEq] at e
  obtain ⟨rfl, _, _⟩ := e
  exact hs
theorem OwnInts.lt {w : World} {base : Nat} {v : Value} {xs : List Int} (h : OwnInts w base v xs) : ∀ k, v.ownBlock = some k → base ≤ k ∧ k < w.heap.size := World.ownsRow.lt h
theorem OwnMaps.lt {w : World} {base : Nat} {v : Value} {xs : List Mp} (h : OwnMaps w base v xs) : ∀ k, v.ownBlock = some k → base ≤ k ∧ k < w.heap.size := by
  obtain ⟨ys, h1, _⟩ := h
  exact h1.lt
theorem OwnMaps.keep {S : Nat → Prop} {w w' : World} {base : Nat} {v : Value} {xs : List Mp} (h : OwnMaps w base v xs) (hs : ∀ k, v.ownBlock = some k → S k) (hk : Keep S w w') : OwnMaps w' base v xs := by
  obtain ⟨ys, h1, h2⟩ := h
  exact ⟨ys, own_keep h1 hs hk, h2⟩
/-- out = append(out, y), out nil or the call's own -/
theorem wpList_push_int (w : World) {ops : Array Oper} {rest : List Oper} {o : Oper} {a : Act} {Q : Exit → Act → World → Prop} (hgd : o.guard = none) (s x : Operand)
    (ho : o.op = .call { callee := .builtin .append, args := #[s, x], argTypes := #[23, 23] })
    (base : Nat) (v : Value) (xs : List Int) (hs : a.eval s = v) (hown : OwnInts w base v xs) (ad : Addr) (y : Int) (hx : a.eval x = .slice (some ad) 1 1) (hy : w.cell? ad = some (.int .i64 y))
    (hn : xs.length ≤ 4294967296) (hbase : base ≤ w.heap.size)
    (hK : ∀ v' w', OwnInts w' base v' (xs ++ [y]) → w.grownBy w' v.ownBlock → (v'.ownBlock = v.ownBlock ∨ v'.ownBlock = some w.heap.size) → wpList Try.prog ops Q rest (a.put o.dst v') w') : wpList Try.prog ops Q (o :: rest) a w := by
  obtain ⟨i0, hi, hz0, hz1, hz2⟩ := info_parts info_int
  refine wpList_append_see w hgd s x 23 ho base 2 i0 (.int .i64 0) 1 8 Try.underlying23 hi hz0 hz1 hz2 rfl (by decide) v xs.length (xs.map (Value.int .i64)) hs hown (some ad) 1 1 [.int .i64 y] hx rfl
    (.inr ⟨ad, rfl, fun j u hj => ?_⟩) (fun u hu => by simp at hu; subst hu; rfl) (by unfold maxLen; omega) (by omega) hbase (fun v' w' h1 h2 h3 => hK v' w' ?_ h2 h3)
  · match j, hj with
    | 0, hj => simp at hj; subst hj; rw [show ad.add 0 = ad by cases ad; unfold Addr.add; split <;> simp_all]; exact hy
  · show w'.ownsRow base 2 1 v' (xs ++ [y]).length ((xs ++ [y]).map (Value.int .i64))
    rw [List.length_append, List.map_append]
    exact h1
/-! Variables of one cell in memory. -/
/-- a variable of one cell in memory -/
def VBox (w : World) (b : Nat) (v : Value) : Prop := ∃ t, w.heap[b]? = some (.cells #[v] t (0, 0))
theorem VBox.lt {w : World} {b : Nat} {v : Value} (h : VBox w b v) : b < w.heap.size := by
  obtain ⟨t, h⟩ := h
  exact (Array.getElem?_eq_some_iff.1 h).1
theorem VBox.cell {w : World} {b : Nat} {v : Value} (h : VBox w b v) : w.cell? ⟨b, 0, none⟩ = some v := by
  obtain ⟨t, h⟩ := h
  rw [cell_of_row w b _ _ t (0, 0) h]; rfl
theorem VBox.free {w : World} {b : Nat} {v : Value} (h : VBox w b v) : w.frozen? ⟨b, 0, none⟩ = false := by
  obtain ⟨t, h⟩ := h
  exact frozen_of_row w b 0 _ t h
theorem VBox.keepS {S : Nat → Prop} {w w' : World} {b : Nat} {v : Value} (h : VBox w b v) (hk : Keep S w w') (hs : S b) : VBox w' b v := by
  have hl := h.lt
  obtain ⟨t, h⟩ := h
  exact ⟨t, (hk.block b hl hs).trans h⟩
theorem VBox.below {w w' : World} {b : Nat} {v : Value} (h : VBox w b v) (hb : Below w.heap.size w w') : VBox w' b v := h.keepS (S := fun _ => True) (kb hb) trivial
theorem VBox.set {w : World} {b : Nat} {v : Value} (h : VBox w b v) (u : Value) : VBox (w.setCell ⟨b, 0, none⟩ u) b u := by
  obtain ⟨t, h⟩ := h
  exact ⟨t, heap_setCell_same w b 0 _ t u h⟩
theorem VBox.far {w : World} {b : Nat} {v : Value} (h : VBox w b v) {a : Addr} (ha : b ≠ a.block) (u : Value) : VBox (w.setCell a u) b v := by
  obtain ⟨t, h⟩ := h
  exact ⟨t, (heap_setCell_other w a b u ha).trans h⟩
theorem VBox.new {w : World} {b : Nat} (v : Value) (t : TypeId) (hb : b = w.heap.size) : VBox (w.alloc (.cells #[v] t)) b v := by
  subst hb
  exact ⟨t, heap_alloc_new w _⟩
theorem VBox.keep {w : World} {b : Nat} {v : Value} (h : VBox w b v) (o : Obj) : VBox (w.alloc o) b v := h.below (kbelow w o)
theorem VBox.grow {w w' : World} {b : Nat} {v : Value} {row : Option Nat} (h : VBox w b v) (hg : w.grownBy w' row) (hr : row ≠ some b) : VBox w' b v := by
  have hl := h.lt
  obtain ⟨t, h⟩ := h
  exact ⟨t, (hg.block b hl (Ne.symm hr)).trans h⟩
theorem Keep.set {S : Nat → Prop} {w w' : World} (h : Keep S w w') {a : Addr} (ha : ¬ S a.block) (u : Value) : Keep S w (w'.setCell a u) :=
  have hb : Below 0 w' (w'.setCell a u) := Below.setCell (Below.refl 0 w') (Nat.zero_le _) u
  ⟨hb.os.trans h.os, hb.tape.trans h.tape, hb.output.trans h.output, Nat.le_trans h.size hb.size, fun k hk hs => (heap_setCell_other w' a k u (fun e => ha (e ▸ hs))).trans (h.block k hk hs)⟩
/-! Regions that draw their order: the first n operations in whatever order (those that yield one value in every world that meets S are taken first; the others are branched over), the last ones in one forced order. -/
section
variable {P : Program} {ops : Array Oper} {md : Region.Mode} {S : World → Prop} {Q : Exit → Act → World → Prop}
def headH (P : Program) (md : Region.Mode) (ops : Array Oper) (Q : Exit → Act → World → Prop) (S : World → Prop) (n : Nat) (L : Array Bool → Act → World → Prop) : Nat → Array Bool → Act → World → Prop
  | 0, listed, a, w => L listed a w
  | f + 1, listed, a, w => Region.ready md ops listed ≠ [] ∧ ∀ i ∈ Region.ready md ops listed, i < n ∧ wpOp P ops Q i (fun a' w' => S w' ∧ headH P md ops Q S n L f (listed.setIfInBounds i true) a' w') a w
theorem any_of_headH {n g : Nat} {L : Array Bool → Act → World → Prop} (hL : ∀ listed a w, L listed a w → wpAny P md ops Q g listed a w) :
    ∀ (f : Nat) (listed : Array Bool) (a : Act) (w : World), headH P md ops Q S n L f listed a w → wpAny P md ops Q (f + g) listed a w
  | 0, listed, a, w, h => by rw [Nat.zero_add]; exact hL _ _ _ h
  | f + 1, listed, a, w, h => by
    rw [show f + 1 + g = (f + g) + 1 by omega]
    exact ⟨fun h0 => absurd h0 h.1, fun i hi => wpOp_mono (fun a' w' h' => any_of_headH hL f _ a' w' h'.2) (h.2 i hi).2⟩
/-- the side conditions of a take, as one Bool -/
def Region.headB (md : Region.Mode) (ops : Array Oper) (n : Nat) (listed : Array Bool) : Bool :=
  decide (listed.size = ops.size) && ((List.range ops.size).all fun j => !listed.getD j false || (match ops[j]? with | some oj => oj.after.all fun e => !Region.binds md e || listed.getD e.on false | none => true)) && ((List.range ops.size).all fun t => decide (t < n) || !listed.getD t true)
theorem headB_inv {n : Nat} {listed : Array Bool} (h : Region.headB md ops n listed = true) : HeadInv md ops n listed := by
  simp only [Region.headB, Bool.and_eq_true, decide_eq_true_eq, List.all_eq_true, List.mem_range] at h
  obtain ⟨⟨h1, h2⟩, h3⟩ := h
  refine ⟨h1, fun j oj hj hl e he hb => ?_, fun t ht htl => ?_⟩
  · have := h2 j (Array.getElem?_eq_some_iff.1 hj).1
    rw [hj, hl] at this
    simp only [Bool.not_true, Bool.false_or, Array.all_eq_true_iff_forall_mem, Bool.or_eq_true] at this
    rcases this e he with h | h
    · rw [hb] at h; cases h
    · exact h
  · have := h3 t htl
    simp only [Bool.or_eq_true, decide_eq_true_eq, Bool.not_eq_true'] at this
    rcases this with h | h
    · omega
    · exact h
theorem headH_first {n i : Nat} {oi : Oper} {v : Value} {L : Array Bool → Act → World → Prop} (hi : ops[i]? = some oi) (hsel : ∀ (j : Nat) (o : Oper) cs b, ops[j]? = some o → o.op ≠ .select cs b)
    (hs : Region.sinkB md ops n = true) (hc : Region.chainB md ops n = true) (hn : n < ops.size) (hin : i < n)
    (hQ : ∀ c a w, Q (.panic c) (a.put oi.dst v) w → Q (.panic c) a w)
    (hdone : ∀ listed a w, L listed a w → ∀ j ∈ Region.ready md ops listed, n ≤ j) :
    ∀ (f : Nat) (listed : Array Bool) (a : Act) (w : World), HeadInv md ops n listed →
      (∀ j oj, ops[j]? = some oj → j ≠ i → listed.getD j true = false → (∀ e ∈ oj.after, Region.binds md e = true → e.on ≠ i) → oi.apart ops oj = true) →
      i ∈ Region.ready md ops listed → YieldsIf P ops S oi v a → S w →
      headH P md ops Q S n L f (listed.setIfInBounds i true) (a.put oi.dst v) w → headH P md ops Q S n L (f + 1) listed a w := by
  intro f
  induction f with
  | zero =>
    intro listed a w inv _ hr hy hS H
    have hun := (mem_ready.1 hr).1
    refine ⟨fun h => (by rw [h] at hr; cases hr), fun j hj => ?_⟩
    have hjn : j < n := Nat.lt_of_not_le fun h => tail_waits hs hc hn inv _ i rfl hin hun j h hj
    refine ⟨hjn, ?_⟩
    by_cases hji : j = i
    · subst hji; exact hy.wpOp hi hS ⟨hS, H⟩
    · have := hdone _ _ _ H j (ready_mono hj hji)
      omega
  | succ f ih =>
    intro listed a w inv hfree hr hy hS H
    have hun := (mem_ready.1 hr).1
    refine ⟨fun h => (by rw [h] at hr; cases hr), fun j hj => ?_⟩
    have hjn : j < n := Nat.lt_of_not_le fun h => tail_waits hs hc hn inv _ i rfl hin hun j h hj
    refine ⟨hjn, ?_⟩
    by_cases hji : j = i
    · subst hji; exact hy.wpOp hi hS ⟨hS, H⟩
    · have h1 := (H.2 j (ready_mono hj hji)).2
      obtain ⟨hjun, oj, hoj, hall⟩ := mem_ready.1 hj
      have hnot : ∀ e ∈ oj.after, Region.binds md e = true → e.on ≠ i := fun e he hb heq => by
        have h1 := hall e he hb
        rw [heq, getD_both hun] at h1
        cases h1
      have h2 := wpOp_putIf hoj (hfree j oj hoj hji hjun hnot) (fun cs b => hsel i oi cs b hi) (fun cs b => hsel j oj cs b hoj) hQ hy h1
      have hfree' : ∀ k ok, ops[k]? = some ok → k ≠ i → (listed.setIfInBounds j true).getD k true = false →
          (∀ e ∈ ok.after, Region.binds md e = true → e.on ≠ i) → oi.apart ops ok = true := fun k ok hk hki hun hno => by
        refine hfree k ok hk hki ?_ hno
        by_cases hjk : j = k
        · subst hjk; exact hjun
        · rw [getD_set_ne true hjk] at hun; exact hun
      refine wpOp_mono (fun a' w' h3 => ⟨h3.2.1, ih (listed.setIfInBounds j true) a' w' (inv.set hj hjn) hfree' (ready_mono hr (Ne.symm hji)) h3.1 h3.2.1 ?_⟩) h2
      rw [Array.setIfInBounds_comm _ _ hji]
      exact h3.2.2
/-- what follows behind the first n: the rest in its one order -/
def tailL (P : Program) (md : Region.Mode) (ops : Array Oper) (Q : Exit → Act → World → Prop) (n : Nat) (l : List Oper) (listed : Array Bool) (a : Act) (w : World) : Prop := Region.seqB md ops (ops.size - n) n listed = true ∧ wpList P ops Q l a w
theorem tailL_done {n : Nat} {l : List Oper} (hn : n < ops.size) : ∀ listed a w, tailL P md ops Q n l listed a w → ∀ j ∈ Region.ready md ops listed, n ≤ j := fun listed a w h => by
  obtain ⟨d, hd⟩ : ∃ d, ops.size - n = d + 1 := ⟨ops.size - n - 1, by omega⟩
  have h1 := h.1
  rw [hd] at h1
  exact fun j hj => seqB_ready h1 j hj
/-- number i, which yields one value in every world that meets S, is taken first -/
theorem headH_take {n i : Nat} {oi : Oper} {v : Value} {f : Nat} {l : List Oper} {listed : Array Bool} {a : Act} {w : World} (hi : ops[i]? = some oi)
    (hB : (Region.noSelect ops && Region.sinkB md ops n && Region.chainB md ops n && decide (n < ops.size) && decide (i < n) && Region.headB md ops n listed && Region.free md ops listed i && (Region.ready md ops listed).contains i) = true)
    (hQ : ∀ c a w, Q (.panic c) (a.put oi.dst v) w → Q (.panic c) a w) (hy : YieldsIf P ops S oi v a) (hS : S w)
    (h : headH P md ops Q S n (tailL P md ops Q n l) f (listed.setIfInBounds i true) (a.put oi.dst v) w) : headH P md ops Q S n (tailL P md ops Q n l) (f + 1) listed a w := by
  simp only [Bool.and_eq_true, decide_eq_true_eq] at hB
  obtain ⟨⟨⟨⟨⟨⟨⟨b1, b2⟩, b3⟩, b4⟩, b5⟩, b6⟩, b7⟩, b8⟩ := hB
  exact headH_first hi (Region.noSelect_spec b1) b2 b3 b4 b5 hQ (tailL_done b4) f listed a w (headB_inv b6) (Region.free_spec hi b7) (by simpa using b8) hy hS h
/-- the same, its slot told -/
theorem headH_takeS {n i : Nat} {oi : Oper} {v : Value} {f : Nat} {l : List Oper} {listed : Array Bool} {a : Act} {w : World} (d : Tmp) (hi : ops[i]? = some oi) (hd : (ops[i]?).bind (·.dst) = some d)
    (hB : (Region.noSelect ops && Region.sinkB md ops n && Region.chainB md ops n && decide (n < ops.size) && decide (i < n) && Region.headB md ops n listed && Region.free md ops listed i && (Region.ready md ops listed).contains i) = true)
    (hQ : ∀ c a w, Q (.panic c) (a.put (some d) v) w → Q (.panic c) a w) (hy : YieldsIf P ops S oi v a) (hS : S w)
    (h : headH P md ops Q S n (tailL P md ops Q n l) f (listed.setIfInBounds i true) (a.put (some d) v) w) : headH P md ops Q S n (tailL P md ops Q n l) (f + 1) listed a w := by
  have e : oi.dst = some d := by rw [hi] at hd; exact hd
  rw [← e] at h hQ
  exact headH_take hi hB hQ hy hS h
/-- branching over those that may come up -/
theorem headH_all {n f : Nat} {L : Array Bool → Act → World → Prop} {listed : Array Bool} {a : Act} {w : World} {rs : List Nat} (hr : Region.ready md ops listed = rs) (hB : (!rs.isEmpty && rs.all fun i => decide (i < n)) = true)
    (h : ∀ i ∈ rs, wpOp P ops Q i (fun a' w' => S w' ∧ headH P md ops Q S n L f (listed.setIfInBounds i true) a' w') a w) : headH P md ops Q S n L (f + 1) listed a w := by
  subst hr
  simp only [Bool.and_eq_true, Bool.not_eq_true', List.isEmpty_eq_false_iff, List.all_eq_true, decide_eq_true_eq] at hB
  exact ⟨hB.1, fun i hi => ⟨hB.2 i hi, h i hi⟩⟩
theorem headH_cons {n f : Nat} {L : Array Bool → Act → World → Prop} {listed : Array Bool} {a : Act} {w : World} {i : Nat} {o : Oper} {rs : List Nat} (ho : ops[i]? = some o)
    (h : ∀ K' : Act → World → Prop, Hid (∀ a w, S w → (S w → headH P md ops Q S n L f (listed.setIfInBounds i true) a w) → K' a w) → if Region.wanted o (yielded ops a.tmps) = true then Oper.wp P o a w K' Q else K' (a.put o.dst undef) w)
    (hs : ∀ i ∈ rs, wpOp P ops Q i (fun a' w' => S w' ∧ headH P md ops Q S n L f (listed.setIfInBounds i true) a' w') a w) :
    ∀ j ∈ i :: rs, wpOp P ops Q j (fun a' w' => S w' ∧ headH P md ops Q S n L f (listed.setIfInBounds j true) a' w') a w := fun j hj => by
  rcases List.mem_cons.1 hj with rfl | hj
  · exact wpOp_step ho (fun K' hK => h K' (fun a w hS hW => hK a w ⟨hS, hW hS⟩))
  · exact hs j hj
theorem headH_nil {n f : Nat} {L : Array Bool → Act → World → Prop} {listed : Array Bool} {a : Act} {w : World} :
    ∀ j ∈ ([] : List Nat), wpOp P ops Q j (fun a' w' => S w' ∧ headH P md ops Q S n L f (listed.setIfInBounds j true) a' w') a w := fun _ h => by cases h
/-- the head is done -/
theorem headH_tail {n : Nat} {l : List Oper} {listed : Array Bool} {a : Act} {w : World} (hB : Region.seqB md ops (ops.size - n) n listed = true) (h : wpList P ops Q l a w) : headH P md ops Q S n (tailL P md ops Q n l) 0 listed a w := ⟨hB, h⟩
end
/-- the beginning -/
theorem wp_region_head {P : Program} {id : Nat} {Q : Exit → Act → World → Prop} {a : Act} {w : World} {l : List Oper} (n : Nat) (S : World → Prop) (hm : P.follows .mixedOrders = true) (hn : decide (n < l.length) = true)
    (h : headH P .any l.toArray Q S n (tailL P .any l.toArray Q n (l.drop n)) n (Array.replicate l.length false) a w.drew) : (Code.region id l.toArray true).wp P Q a w := by
  have hn' : n < l.length := by simpa using hn
  refine wp_region_any hm ?_
  have h2 := any_of_headH (g := l.toArray.size - n) (fun listed a' w' hL => by
    have := wpAny_of_seq (md := .any) (Q' := Q) (l.drop n) n listed a' w' (fun j => by simp [List.getElem?_drop]) (by simpa using hL.1) hL.2
    simpa using this) n _ a w.drew h
  have e : n + (l.toArray.size - n) = l.toArray.size := by simp; omega
  rw [e] at h2
  exact h2
theorem wp_region_headS {P : Program} {id : Nat} {Q : Exit → Act → World → Prop} {a : Act} {w : World} {l : List Oper} (n : Nat) (S : World → Prop) (hm : P.follows .mixedOrders = true) (hn : decide (n < l.length) = true) (hS : S w.drew)
    (h : S w.drew → headH P .any l.toArray Q S n (tailL P .any l.toArray Q n (l.drop n)) n (Array.replicate l.length false) a w.drew) : (Code.region id l.toArray true).wp P Q a w := wp_region_head n S hm hn (h hS)
end Go.Proofs.Ythadgdmooacccaa
