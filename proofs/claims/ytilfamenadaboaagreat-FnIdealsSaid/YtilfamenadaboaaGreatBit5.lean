/- Sets of places, as bits in five words: 'put', 'has', 'add', 'meet'. No condition. -/
import Derived.Test.YtilfamenadaboaaGreatMonAll
import Derived.Laws.BitsLemmas
import Derived.StillTailTactics
namespace Go.Proofs.YtilfamenadaboaaGreat
set_option linter.unusedSimpArgs false
set_option linter.unusedVariables false
set_option linter.unusedSectionVars false
open Go.RowKit
def Bits (x : Nat) (P : Nat → Prop) (j : Nat) : Prop := x < 2 ^ 64 ∧ ∀ t, t < 64 → (x.testBit t = true ↔ P (64 * j + t))
theorem Bits.or {x y : Nat} {P R : Nat → Prop} {j : Nat} (hx : Bits x P j) (hy : Bits y R j) : Bits (x ||| y) (fun q => P q ∨ R q) j :=
  ⟨Nat.or_lt_two_pow hx.1 hy.1, fun t ht => by rw [Nat.testBit_or, Bool.or_eq_true, hx.2 t ht, hy.2 t ht]⟩
theorem Bits.and {x y : Nat} {P R : Nat → Prop} {j : Nat} (hx : Bits x P j) (hy : Bits y R j) : Bits (x &&& y) (fun q => P q ∧ R q) j :=
  ⟨Nat.and_lt_two_pow x hy.1, fun t ht => by rw [Nat.testBit_and, Bool.and_eq_true, hx.2 t ht, hy.2 t ht]⟩
theorem Bits.zero (j : Nat) : Bits 0 (fun _ => False) j := ⟨by decide, fun t _ => by simp⟩
theorem Bits.congr {x : Nat} {P R : Nat → Prop} {j : Nat} (h : Bits x P j) (e : ∀ q, P q ↔ R q) : Bits x R j := ⟨h.1, fun t ht => (h.2 t ht).trans (e _)⟩
theorem Bits.put {x : Nat} {P : Nat → Prop} {q : Nat} (h : Bits x P (q / 64)) : Bits (x ||| 2 ^ (q % 64)) (fun r => P r ∨ r = q) (q / 64) :=
  ⟨Nat.or_lt_two_pow h.1 (Nat.pow_lt_pow_right (by decide) (Nat.mod_lt _ (by decide))), fun t ht => by
    rw [Nat.testBit_or, Bool.or_eq_true, h.2 t ht, Nat.testBit_two_pow, decide_eq_true_eq]
    have := Nat.div_add_mod q 64
    constructor
    · rintro (h | h)
      · exact .inl h
      · exact .inr (by omega)
    · rintro (h | h)
      · exact .inl h
      · exact .inr (by omega)⟩
theorem Bits.off {x : Nat} {P : Nat → Prop} {q j : Nat} (h : Bits x P j) (hj : j ≠ q / 64) : Bits x (fun r => P r ∨ r = q) j :=
  ⟨h.1, fun t ht => by
    rw [h.2 t ht]
    constructor
    · exact .inl
    · rintro (h | h)
      · exact h
      · exact absurd (by omega : j = q / 64) hj⟩
theorem Bits.test {x : Nat} {P : Nat → Prop} {q : Nat} (h : Bits x P (q / 64)) : x.testBit (q % 64) = true ↔ P q := by
  have := h.2 (q % 64) (Nat.mod_lt _ (by decide))
  rwa [Nat.div_add_mod] at this
/-- a set that lies in memory -/
def SetAt (w : World) (b o : Nat) (P : Nat → Prop) : Prop := ∀ j, j < 5 → ∃ x : Nat, w.cell? ⟨b, o + j, none⟩ = some (.int .u64 x) ∧ Bits x P j
theorem SetAt.below {w w1 : World} {b o : Nat} {P : Nat → Prop} (h : SetAt w b o P) (hb : Below w.heap.size w w1) : SetAt w1 b o P := fun j hj => by
  obtain ⟨x, h1, h2⟩ := h j hj
  exact ⟨x, bcell hb h1, h2⟩
/-- a row of sets in memory -/
structure SetsBox (w : World) (g n : Nat) (P : Nat → Nat → Prop) : Prop where
  ex : ∃ xs t, w.heap[g]? = some (.cells xs t (0, 0)) ∧ xs.size = n * 5
  at_ : ∀ i, i < n → SetAt w g (i * 5) (P i)
theorem SetsBox.lt {w : World} {g n : Nat} {P : Nat → Nat → Prop} (h : SetsBox w g n P) : g < w.heap.size := by
  obtain ⟨xs, t, h, _⟩ := h.ex
  exact (Array.getElem?_eq_some_iff.1 h).1
theorem SetsBox.below {w w1 : World} {g n : Nat} {P : Nat → Nat → Prop} (h : SetsBox w g n P) (hb : Below w.heap.size w w1) : SetsBox w1 g n P := by
  have hl := h.lt
  obtain ⟨xs, t, hx, hn⟩ := h.ex
  exact ⟨⟨xs, t, (hb.block g hl).trans hx, hn⟩, fun i hi => (h.at_ i hi).below hb⟩
theorem SetsBox.free {w : World} {g n : Nat} {P : Nat → Nat → Prop} (h : SetsBox w g n P) (j : Nat) : w.frozen? ⟨g, j, none⟩ = false := by
  obtain ⟨xs, t, h, _⟩ := h.ex
  exact frozen_of_row w g j _ t h
theorem SetsBox.set {w : World} {g n : Nat} {P : Nat → Nat → Prop} (h : SetsBox w g n P) {i j : Nat} (hi : i < n) (hj : j < 5) {x : Nat} {R : Nat → Prop} (hx : Bits x R j) (hR : ∀ k y, k < 5 → k ≠ j → Bits y (P i) k → Bits y R k) :
    SetsBox (w.setCell ⟨g, i * 5 + j, none⟩ (.int .u64 x)) g n (fun i' => if i' = i then R else P i') := by
  obtain ⟨xs, t, hb, hn⟩ := h.ex
  have h1 := heap_setCell_same w g (i * 5 + j) xs t (.int .u64 x) hb
  refine ⟨⟨_, t, h1, by rw [Array.size_setIfInBounds]; exact hn⟩, fun i' hi' k hk => ?_⟩
  rw [cell_of_row _ g _ _ t (0, 0) h1]
  obtain ⟨y, hy, by_⟩ := h.at_ i' hi' k hk
  rw [cell_of_row w g _ xs t (0, 0) hb] at hy
  have hsz : i * 5 + j < xs.size := by rw [hn]; omega
  by_cases e : i' * 5 + k = i * 5 + j
  · have e1 : i' = i := by omega
    have e2 : k = j := by omega
    subst e1 e2
    refine ⟨x, ?_, by simpa using hx⟩
    rw [Array.getElem?_setIfInBounds, if_pos rfl, if_pos hsz]
  · refine ⟨y, ?_, ?_⟩
    · rw [Array.getElem?_setIfInBounds, if_neg (fun h => e h.symm)]
      exact hy
    · by_cases e1 : i' = i
      · subst e1
        simpa using hR k y hk (by omega) by_
      · simpa [e1] using by_
theorem wraps_u64 (n : Int) (h₀ : 0 ≤ n) (h₁ : n < 2 ^ 64) : IntKind.u64.wrap n = n := by
  have : IntKind.u64.wrap n = n % 18446744073709551616 := rfl
  rw [this]
  omega
theorem uor (a b : Nat) (ha : a < 2 ^ 64) (hb : b < 2 ^ 64) : bits .or .u64 (a : Int) (b : Int) = ((a ||| b : Nat) : Int) := (bits_nat .u64 64 (by decide) wraps_u64 a b ha hb).2
theorem uand (a b : Nat) (ha : a < 2 ^ 64) (hb : b < 2 ^ 64) : bits .and .u64 (a : Int) (b : Int) = ((a &&& b : Nat) : Int) := (bits_nat .u64 64 (by decide) wraps_u64 a b ha hb).1
theorem upow (m : Nat) (hm : m < 64) : IntKind.u64.wrap (2 ^ m) = ((2 ^ m : Nat) : Int) := by
  have : ((2 ^ m : Nat) : Int) = 2 ^ m := by push_cast; rfl
  rw [← this]
  refine wraps_u64 _ (Int.natCast_nonneg _) ?_
  have h2 : 2 ^ m < 2 ^ 64 := Nat.pow_lt_pow_right (by decide) hm
  exact_mod_cast h2
theorem Keep.drew {S : Nat → Prop} {w w' : World} (h : Keep S w w') : Keep S w w'.drew := ⟨h.os, h.tape, h.output, h.size, h.block⟩
theorem SetsBox.drew {w : World} {g n : Nat} {P : Nat → Nat → Prop} (h : SetsBox w g n P) : SetsBox w.drew g n P := ⟨h.ex, h.at_⟩
theorem SetsBox.keep {S : Nat → Prop} {w w1 : World} {g n : Nat} {P : Nat → Nat → Prop} (h : SetsBox w g n P) (hs : S g) (hk : Keep S w w1) : SetsBox w1 g n P := by
  have hl := h.lt
  obtain ⟨xs, t, hx, hn⟩ := h.ex
  exact ⟨⟨xs, t, (hk.block g hl hs).trans hx, hn⟩, fun i hi j hj => by
    obtain ⟨x, h1, h2⟩ := h.at_ i hi j hj
    exact ⟨x, hk.cell (p := ⟨g, i * 5 + j, none⟩) hs h1, h2⟩⟩
theorem SetsBox.congr {w : World} {g n : Nat} {P R : Nat → Nat → Prop} (h : SetsBox w g n P) (e : ∀ i, i < n → ∀ q, P i q ↔ R i q) : SetsBox w g n R := ⟨h.ex, fun i hi j hj => by
  obtain ⟨x, h1, h2⟩ := h.at_ i hi j hj
  exact ⟨x, h1, h2.congr (e i hi)⟩⟩
set_option maxHeartbeats 1000000 in
set_option maxRecDepth 100000 in
theorem put_c (g n i q : Nat) (P : Nat → Nat → Prop) (w : World) (h : SetsBox w g n P) (hi : i < n) (hq : q < 320) :
    Calls Tryz.prog 94 #[.pointer (some ⟨g, i * 5, none⟩), .int .i64 (q : Int)] w fun e w' => e = .returned (.tuple #[]) ∧ Keep (fun k => k ≠ g) w w' ∧ SetsBox w' g n (fun i' => if i' = i then fun r => P i r ∨ r = q else P i') := by
  obtain ⟨x, cx, bx⟩ := h.at_ i hi (q / 64) (by omega)
  have fr := h.free
  have q0 : (0 : Int) ≤ q := by omega
  have d0 : IntKind.i64.wrap ((q : Int) / 64) = (q : Int) / 64 := by rw [IntKind.wrap_i64]; omega
  have d1 : IntKind.i64.wrap ((q : Int) % 64) = (q : Int) % 64 := by rw [IntKind.wrap_i64]; omega
  have e1 : (q : Int).tmod 64 = (q : Int) % 64 := Int.tmod_eq_emod_of_nonneg q0
  have d2 : (q : Int) / 64 < 5 := by omega
  have d3 : (0 : Int) ≤ (q : Int) / 64 := by omega
  have d4 : (q : Int) % 64 < 64 := by omega
  have d5 : (0 : Int) ≤ (q : Int) % 64 := by omega
  have d6 : ((q : Int) / 64).toNat = q / 64 := by omega
  have d7 : ((q : Int) % 64).toNat = q % 64 := by omega
  have cx' : w.cell? ⟨g, i * 5 + ((q : Int) / 64).toNat, none⟩ = some (.int .u64 (x : Int)) := by rw [d6]; exact cx
  have hset := h.set hi (j := q / 64) (by omega) bx.put (fun k y hk hne hy => hy.off hne)
  have hv : bits BinOp.or IntKind.u64 (x : Int) (IntKind.u64.wrap (2 ^ (q % 64))) = ((x ||| 2 ^ (q % 64) : Nat) : Int) := by
    rw [upow _ (Nat.mod_lt _ (by decide))]
    exact uor _ _ bx.1 (Nat.pow_lt_pow_right (by decide) (Nat.mod_lt _ (by decide)))
  rw [← hv] at hset
  have HS := Lib.hid hset
  clear hset hv bx h hq
  go_enter Tryz.func94, Tryz.ntmps94
  go_wp2
  go_still_tail 12, (by kernel_rfl)
  change wpList _ _ _ _ _ w.drew
  go_wp2
  go_returns
  exact ⟨rfl, (((Keep.refl _ w).setCell (by simp) _).drew), HS.out.drew⟩
open Classical in
set_option maxHeartbeats 1000000 in
set_option maxRecDepth 100000 in
theorem has_c (g o q : Nat) (P : Nat → Prop) (w : World) (h : SetAt w g o P) (hq : q < 320) :
    Calls Tryz.prog 93 #[.pointer (some ⟨g, o, none⟩), .int .i64 (q : Int)] w fun e w' => e = .returned (.bool (decide (P q))) ∧ Below w.heap.size w w' := by
  obtain ⟨x, cx, bx⟩ := h (q / 64) (by omega)
  have q0 : (0 : Int) ≤ q := by omega
  have d0 : IntKind.i64.wrap ((q : Int) / 64) = (q : Int) / 64 := by rw [IntKind.wrap_i64]; omega
  have d1 : IntKind.i64.wrap ((q : Int) % 64) = (q : Int) % 64 := by rw [IntKind.wrap_i64]; omega
  have e1 : (q : Int).tmod 64 = (q : Int) % 64 := Int.tmod_eq_emod_of_nonneg q0
  have d2 : (q : Int) / 64 < 5 := by omega
  have d3 : (0 : Int) ≤ (q : Int) / 64 := by omega
  have d4 : (q : Int) % 64 < 64 := by omega
  have d5 : (0 : Int) ≤ (q : Int) % 64 := by omega
  have d6 : ((q : Int) / 64).toNat = q / 64 := by omega
  have d7 : ((q : Int) % 64).toNat = q % 64 := by omega
  have cx' : w.cell? ⟨g, o + ((q : Int) / 64).toNat, none⟩ = some (.int .u64 (x : Int)) := by rw [d6]; exact cx
  have ht := bx.test
  have hx := bx.1
  have hv : (bits BinOp.and IntKind.u64 ((x : Int) / 2 ^ (q % 64)) 1 == 1) = decide (P q) := by
    have e1 : ((x : Int) / 2 ^ (q % 64)) = ((x / 2 ^ (q % 64) : Nat) : Int) := by push_cast; rfl
    have e2 : bits .and .u64 ((x / 2 ^ (q % 64) : Nat) : Int) 1 = ((x / 2 ^ (q % 64) &&& 1 : Nat) : Int) := uand _ 1 (Nat.lt_of_le_of_lt (Nat.div_le_self _ _) hx) (by decide)
    rw [e1, e2, Nat.and_one_is_mod]
    rw [Nat.testBit_eq_decide_div_mod_eq, decide_eq_true_eq] at ht
    by_cases hp : P q
    · rw [decide_eq_true hp]; simp [ht.2 hp]
    · have : ¬ x / 2 ^ (q % 64) % 2 = 1 := fun e => hp (ht.1 e)
      have h0 : x / 2 ^ (q % 64) % 2 = 0 := by omega
      rw [decide_eq_false hp]
      simp [h0]
  have HV := Lib.hid hv
  clear ht bx h hq hx hv
  go_enter Tryz.func93, Tryz.ntmps93
  go_wp2
  go_returns
  exact ⟨ret_bool HV.out, Below.refl _ _⟩
/-- the first j words of a set, with those of another one beside -/
def joinTo (P R : Nat → Prop) (j r : Nat) : Prop := if r / 64 < j then P r ∨ R r else P r
def meetTo (P R : Nat → Prop) (j r : Nat) : Prop := if r / 64 < j then P r ∧ R r else P r
theorem joinTo_at {x y : Nat} {P R : Nat → Prop} {j : Nat} (hx : Bits x (joinTo P R j) j) (hy : Bits y R j) : Bits (x ||| y) (joinTo P R (j + 1)) j := by
  have h := hx.or hy
  exact ⟨h.1, fun t ht => (h.2 t ht).trans (by show (joinTo P R j (64 * j + t) ∨ R (64 * j + t)) ↔ joinTo P R (j + 1) (64 * j + t); unfold joinTo; rw [if_neg (by omega), if_pos (by omega)])⟩
theorem meetTo_at {x y : Nat} {P R : Nat → Prop} {j : Nat} (hx : Bits x (meetTo P R j) j) (hy : Bits y R j) : Bits (x &&& y) (meetTo P R (j + 1)) j := by
  have h := hx.and hy
  exact ⟨h.1, fun t ht => (h.2 t ht).trans (by show (meetTo P R j (64 * j + t) ∧ R (64 * j + t)) ↔ meetTo P R (j + 1) (64 * j + t); unfold meetTo; rw [if_neg (by omega), if_pos (by omega)])⟩
theorem joinTo_off {y : Nat} {P R : Nat → Prop} {j k : Nat} (hy : Bits y (joinTo P R j) k) (hk : k ≠ j) : Bits y (joinTo P R (j + 1)) k :=
  ⟨hy.1, fun t ht => (hy.2 t ht).trans (by
    unfold joinTo
    by_cases e : k < j
    · rw [if_pos (by omega), if_pos (by omega)]
    · rw [if_neg (by omega), if_neg (by omega)])⟩
theorem meetTo_off {y : Nat} {P R : Nat → Prop} {j k : Nat} (hy : Bits y (meetTo P R j) k) (hk : k ≠ j) : Bits y (meetTo P R (j + 1)) k :=
  ⟨hy.1, fun t ht => (hy.2 t ht).trans (by
    unfold meetTo
    by_cases e : k < j
    · rw [if_pos (by omega), if_pos (by omega)]
    · rw [if_neg (by omega), if_neg (by omega)])⟩
/-- five words, as a value -/
structure W5 where
  (a b c d e : Nat)
def W5.v (y : W5) : Value := .agg #[.int .u64 y.a, .int .u64 y.b, .int .u64 y.c, .int .u64 y.d, .int .u64 y.e]
def W5.to (y : W5) : Nat → Nat
  | 0 => y.a
  | 1 => y.b
  | 2 => y.c
  | 3 => y.d
  | _ => y.e
def W5.Is (y : W5) (R : Nat → Prop) : Prop := ∀ j, j < 5 → Bits (y.to j) R j
theorem W5.at_ (w : World) (y : W5) (t : TypeId) {j : Nat} (hj : j < 5) : (w.alloc (.cells #[.int .u64 y.a, .int .u64 y.b, .int .u64 y.c, .int .u64 y.d, .int .u64 y.e] t)).cell? ⟨w.heap.size, j, none⟩ = some (.int .u64 (y.to j)) := by
  rcases (by omega : j = 0 ∨ j = 1 ∨ j = 2 ∨ j = 3 ∨ j = 4) with rfl | rfl | rfl | rfl | rfl <;> (rw [cell_of_row _ _ _ _ t (0, 0) (heap_alloc_new w _)]; rfl)
set_option maxHeartbeats 2000000 in
set_option maxRecDepth 100000 in
theorem add_c (g n i : Nat) (P : Nat → Nat → Prop) (R : Nat → Prop) (y : W5) (w : World) (h : SetsBox w g n P) (hi : i < n) (hy : y.Is R) :
    Calls Tryz.prog 95 #[.pointer (some ⟨g, i * 5, none⟩), .agg #[.int .u64 y.a, .int .u64 y.b, .int .u64 y.c, .int .u64 y.d, .int .u64 y.e]] w fun e w' => e = .returned (.tuple #[]) ∧ Keep (fun k => k ≠ g) w w' ∧ SetsBox w' g n (fun i' => if i' = i then joinTo (P i) R 5 else P i') := by
  have kk := kbelow w (.cells #[.int .u64 y.a, .int .u64 y.b, .int .u64 y.c, .int .u64 y.d, .int .u64 y.e] 69)
  have hat := fun j hj => W5.at_ w y 69 (j := j) hj
  have h0 : SetsBox (w.alloc (.cells #[.int .u64 y.a, .int .u64 y.b, .int .u64 y.c, .int .u64 y.d, .int .u64 y.e] 69)) g n (fun i' => if i' = i then joinTo (P i) R 0 else P i') := (h.below kk).congr fun i' _ q => by
    by_cases e : i' = i
    · subst e; rw [if_pos rfl]; unfold joinTo; rw [if_neg (by omega)]
    · rw [if_neg e]
  have hg := h.lt
  have HY := Lib.hid hy
  have HAT := Lib.hid hat
  have k0 : Keep (fun k => k ≠ g) w (w.alloc (.cells #[.int .u64 y.a, .int .u64 y.b, .int .u64 y.c, .int .u64 y.d, .int .u64 y.e] 69)) := kb kk
  clear h hy hat kk
  go_enter Tryz.func95, Tryz.ntmps95
  go_wp2
  generalize hW1 : w.alloc (.cells #[.int .u64 y.a, .int .u64 y.b, .int .u64 y.c, .int .u64 y.d, .int .u64 y.e] 69) = W1 at *
  clear hW1
  go_loopw [5] (fun jv wr => ∃ j : Nat, j ≤ 5 ∧ jv = .int .i64 j ∧ SetsBox wr g n (fun i' => if i' = i then joinTo (P i) R j else P i') ∧ Keep (fun k => k ≠ g) W1 wr) (fun jv _ => 5 - (intOf jv).toNat)
  case atStart => exact ⟨0, by omega, rfl, h0, Keep.refl _ _⟩
  case round =>
    clear h0
    obtain ⟨j, hj, rfl, hs, hk⟩ := hrel
    by_cases hlt : j < 5
    · obtain ⟨x, cx, bx⟩ := hs.at_ i hi j hlt
      simp only [if_true] at bx
      have cy := hk.cell (p := ⟨w.heap.size, j, none⟩) (by show w.heap.size ≠ g; omega) (HAT.out j hlt)
      have fr := hs.free
      have l0 : (0 : Int) ≤ j := by omega
      have l1 : (j : Int) < 5 := by omega
      have by_ := HY.out j hlt
      have hset := hs.set hi hlt (joinTo_at bx by_) (fun k z hk' hne hz => joinTo_off (by simpa using hz) hne)
      have hv : bits BinOp.or IntKind.u64 (x : Int) (y.to j : Int) = ((x ||| y.to j : Nat) : Int) := uor _ _ bx.1 by_.1
      rw [← hv] at hset
      have HS := Lib.hid (hset.congr (R := fun i' => if i' = i then joinTo (P i) R (j + 1) else P i') fun i' _ q => by
        by_cases e : i' = i
        · rw [if_pos e, if_pos e]
        · rw [if_neg e, if_neg e, if_neg e])
      clear hset hv bx by_ hs
      go_wp2
      go_still_tail 11, (by kernel_rfl)
      change wpList _ _ _ _ _ wr.drew
      go_wp2
      go_roundw
      case rel => exact ⟨j + 1, by omega, by go_num, HS.out.drew, (hk.setCell (by simp) _).drew⟩
      case measure => simp [intOf]; omega
    · obtain rfl : j = 5 := by omega
      go_wp2
      go_returns
      exact ⟨rfl, k0.trans hk, hs⟩
set_option maxHeartbeats 2000000 in
set_option maxRecDepth 100000 in
theorem meet_c (g n i : Nat) (P : Nat → Nat → Prop) (R : Nat → Prop) (y : W5) (w : World) (h : SetsBox w g n P) (hi : i < n) (hy : y.Is R) :
    Calls Tryz.prog 63 #[.pointer (some ⟨g, i * 5, none⟩), .agg #[.int .u64 y.a, .int .u64 y.b, .int .u64 y.c, .int .u64 y.d, .int .u64 y.e]] w fun e w' => e = .returned (.tuple #[]) ∧ Keep (fun k => k ≠ g) w w' ∧ SetsBox w' g n (fun i' => if i' = i then meetTo (P i) R 5 else P i') := by
  have kk := kbelow w (.cells #[.int .u64 y.a, .int .u64 y.b, .int .u64 y.c, .int .u64 y.d, .int .u64 y.e] 69)
  have hat := fun j hj => W5.at_ w y 69 (j := j) hj
  have h0 : SetsBox (w.alloc (.cells #[.int .u64 y.a, .int .u64 y.b, .int .u64 y.c, .int .u64 y.d, .int .u64 y.e] 69)) g n (fun i' => if i' = i then meetTo (P i) R 0 else P i') := (h.below kk).congr fun i' _ q => by
    by_cases e : i' = i
    · subst e; rw [if_pos rfl]; unfold meetTo; rw [if_neg (by omega)]
    · rw [if_neg e]
  have hg := h.lt
  have HY := Lib.hid hy
  have HAT := Lib.hid hat
  have k0 : Keep (fun k => k ≠ g) w (w.alloc (.cells #[.int .u64 y.a, .int .u64 y.b, .int .u64 y.c, .int .u64 y.d, .int .u64 y.e] 69)) := kb kk
  clear h hy hat kk
  go_enter Tryz.func63, Tryz.ntmps63
  go_wp2
  generalize hW1 : w.alloc (.cells #[.int .u64 y.a, .int .u64 y.b, .int .u64 y.c, .int .u64 y.d, .int .u64 y.e] 69) = W1 at *
  clear hW1
  go_loopw [5] (fun jv wr => ∃ j : Nat, j ≤ 5 ∧ jv = .int .i64 j ∧ SetsBox wr g n (fun i' => if i' = i then meetTo (P i) R j else P i') ∧ Keep (fun k => k ≠ g) W1 wr) (fun jv _ => 5 - (intOf jv).toNat)
  case atStart => exact ⟨0, by omega, rfl, h0, Keep.refl _ _⟩
  case round =>
    clear h0
    obtain ⟨j, hj, rfl, hs, hk⟩ := hrel
    by_cases hlt : j < 5
    · obtain ⟨x, cx, bx⟩ := hs.at_ i hi j hlt
      simp only [if_true] at bx
      have cy := hk.cell (p := ⟨w.heap.size, j, none⟩) (by show w.heap.size ≠ g; omega) (HAT.out j hlt)
      have fr := hs.free
      have l0 : (0 : Int) ≤ j := by omega
      have l1 : (j : Int) < 5 := by omega
      have by_ := HY.out j hlt
      have hset := hs.set hi hlt (meetTo_at bx by_) (fun k z hk' hne hz => meetTo_off (by simpa using hz) hne)
      have hv : bits BinOp.and IntKind.u64 (x : Int) (y.to j : Int) = ((x &&& y.to j : Nat) : Int) := uand _ _ bx.1 by_.1
      rw [← hv] at hset
      have HS := Lib.hid (hset.congr (R := fun i' => if i' = i then meetTo (P i) R (j + 1) else P i') fun i' _ q => by
        by_cases e : i' = i
        · rw [if_pos e, if_pos e]
        · rw [if_neg e, if_neg e, if_neg e])
      clear hset hv bx by_ hs
      go_wp2
      go_still_tail 11, (by kernel_rfl)
      change wpList _ _ _ _ _ wr.drew
      go_wp2
      go_roundw
      case rel => exact ⟨j + 1, by omega, by go_num, HS.out.drew, (hk.setCell (by simp) _).drew⟩
      case measure => simp [intOf]; omega
    · obtain rfl : j = 5 := by omega
      go_wp2
      go_returns
      exact ⟨rfl, k0.trans hk, hs⟩
end Go.Proofs.YtilfamenadaboaaGreat
