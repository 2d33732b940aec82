/- The ideals of all elements, as sets of places; the elements of a set. No condition. -/
import Derived.Test.YtilfamenadaboaaGreatBit5
import Derived.Test.YtilfamenadaboaaGreatOf
import Derived.Test.YtilfamenadaboaaGreatRegular
import Derived.Test.YtilfamenadaboaaGreatMk
namespace Go.Proofs.YtilfamenadaboaaGreat
set_option linter.unusedSimpArgs false
set_option linter.unusedVariables false
set_option linter.unusedSectionVars false
open Go.RowKit
set_option maxHeartbeats 1000000 in
theorem only_cB (M : Nat) (l : List Mp) (n : Int) (g : Nat) (pv : Value) (P : Mp → Bool) (eg : Enters Tryz.prog g) (w : World) (h : MonAt w M l n) (hl : l.length ≤ 300) (hp : PredM g #[pv] #[] l P w) :
    Calls Tryz.prog 66 #[.pointer (some ⟨M, 0, none⟩), .func (.func g) #[pv] #[]] w fun e w' => ∃ v, e = .returned v ∧ OwnMaps w' w.heap.size v (l.filter P) ∧ Below w.heap.size w w' := by
  unfold Enters at eg
  obtain ⟨A, c, c0, see⟩ := h.cellsOf
  have HP := Lib.hid hp
  clear h hp
  have own0 : OwnMaps w w.heap.size (.slice none 0 0) ((l.take 0).filter P) := ⟨[], World.ownsRow_nil _ _ _ _, ⟨rfl, fun k m hk => by simp at hk⟩⟩
  go_enter Tryz.func66, Tryz.ntmps66
  go_wp2
  go_loopw [13, 5] (fun i v wr => ∃ k : Nat, k ≤ l.length ∧ i = .int .i64 k ∧ OwnMaps wr w.heap.size v ((l.take k).filter P) ∧ Below w.heap.size w wr) (fun i _ _ => l.length - (intOf i).toNat)
  case atStart => exact ⟨0, Nat.zero_le _, rfl, own0, Below.refl _ _⟩
  case round =>
    clear own0
    obtain ⟨k, hk, rfl, own, hb⟩ := hrel
    by_cases hlt : k < l.length
    · obtain ⟨b, o, f, rfl, hf, gf⟩ := (see.below hb).at_ hlt
      have l0 : (0 : Int) ≤ k := by omega
      have l1 : (k : Int) < l.length := by omega
      obtain ⟨f0, f1, f2, f3, f4, f5⟩ := gf
      have kk := kbelow wr (.cells #[.int .i64 f.p, .int .i64 f.a, .int .i64 f.b, .int .i64 f.c, .int .i64 f.d, .int .i64 f.e] 27)
      have bt := MpBox.new (w := wr) f 27 rfl
      have hbk := btrans hb kk
      have hcall := HP.out _ k f hbk hf
      have own1 := own.below kk
      have hlen : ((l.take k).filter P).length ≤ 300 := by
        have := List.length_filter_le P (l.take k)
        rw [List.length_take] at this
        omega
      have hsn : ∀ x, (l.take (k + 1)).filter P = (l.take k).filter P ++ (if P f = true then [f] else x) ∨ P f = false := fun x => by
        cases e : P f
        · exact .inr rfl
        · refine .inl ?_
          rw [List.take_add_one, hf, List.filter_append]
          simp [e]
      have hsn2 : P f = false → (l.take (k + 1)).filter P = (l.take k).filter P := fun e => by
        rw [List.take_add_one, hf, List.filter_append]
        simp [e]
      have hsn1 : P f = true → (l.take (k + 1)).filter P = (l.take k).filter P ++ [f] := fun e => by
        rw [List.take_add_one, hf, List.filter_append]
        simp [e]
      have H1 := Lib.hid hsn1
      have H2 := Lib.hid hsn2
      clear hsn hsn1 hsn2 hf own see
      obtain ⟨xs, hxs⟩ : ∃ xs, xs = (l.take k).filter P := ⟨_, rfl⟩
      rw [← hxs] at own1 hlen H1 H2
      clear hxs
      obtain ⟨Ao, co, rfl, _⟩ := own1.see
      cases e : P f
      · rw [e] at hcall
        have HE := Lib.hid e
        clear e
        go_wp2_with (go_at_fn g; refine hcall.mono ?_; rintro e w' ⟨rfl, hb'⟩)
        go_roundw
        case rel => exact ⟨k + 1, by omega, by go_num, by rw [H2.out HE.out]; exact own1.below hb', btrans hbk hb'⟩
        case measure => simp [intOf]; omega
      · rw [e] at hcall
        have HE := Lib.hid e
        clear e
        go_wp2_with (first | (go_at_fn g; refine hcall.mono ?_; rintro e w2 ⟨rfl, hb2⟩; have bt2 := bt.below hb2; have own2 := own1.below hb2; have hb3 := btrans hbk hb2; obtain ⟨t0, t1, t2, t3, t4, t5⟩ := bt2.at.cells0) | (at_builtin; refine wpList_push_map _ rfl (.tmp 21) (.tmp 23) rfl w.heap.size _ xs rfl (own2.below (kbelow _ _)) _ f rfl (MpBox.new f 27 rfl) (by omega) (btrans hb3 (kbelow _ _)).size ?_; intro v3 w3 hown3 hg3 hv3))
        have hb4 : Below w.heap.size w w3 := Below.grown (btrans hb3 (kbelow _ _)) hg3 (btrans hb3 (kbelow _ _)).size (fun q hq => (own2.lt q hq).1)
        go_wp2
        go_roundw
        case rel => exact ⟨k + 1, by omega, by go_num, by rw [H1.out HE.out]; exact hown3, hb4⟩
        case measure => simp [intOf]; omega
    · obtain rfl : k = l.length := by omega
      rw [List.take_length] at own
      obtain ⟨Ao, co, rfl, _⟩ := own.see
      go_wp2
      go_returns
      exact ⟨_, rfl, own, hb⟩
/-- five words as they lie -/
theorem SetAt.w5 {w : World} {b o : Nat} {P : Nat → Prop} (h : SetAt w b o P) : ∃ y : W5, y.Is P ∧ w.cell? ⟨b, o, none⟩ = some (.int .u64 y.a) ∧ w.cell? ⟨b, o + 1, none⟩ = some (.int .u64 y.b) ∧ w.cell? ⟨b, o + 2, none⟩ = some (.int .u64 y.c) ∧ w.cell? ⟨b, o + 3, none⟩ = some (.int .u64 y.d) ∧ w.cell? ⟨b, o + 4, none⟩ = some (.int .u64 y.e) := by
  obtain ⟨x0, c0, b0⟩ := h 0 (by decide)
  obtain ⟨x1, c1, b1⟩ := h 1 (by decide)
  obtain ⟨x2, c2, b2⟩ := h 2 (by decide)
  obtain ⟨x3, c3, b3⟩ := h 3 (by decide)
  obtain ⟨x4, c4, b4⟩ := h 4 (by decide)
  refine ⟨⟨x0, x1, x2, x3, x4⟩, fun j hj => ?_, c0, c1, c2, c3, c4⟩
  rcases (by omega : j = 0 ∨ j = 1 ∨ j = 2 ∨ j = 3 ∨ j = 4) with rfl | rfl | rfl | rfl | rfl
  · exact b0
  · exact b1
  · exact b2
  · exact b3
  · exact b4
theorem W5.set (w : World) (y : W5) (t : TypeId) {P : Nat → Prop} (h : y.Is P) : SetAt (w.alloc (.cells #[.int .u64 y.a, .int .u64 y.b, .int .u64 y.c, .int .u64 y.d, .int .u64 y.e] t)) w.heap.size 0 P := fun j hj => ⟨y.to j, by rw [Nat.zero_add]; exact W5.at_ w y t hj, h j hj⟩
open Classical in
/-- whether an element's place is in a set -/
noncomputable def inSetB (l : List Mp) (R : Nat → Prop) (f : Mp) : Bool := decide (R (plc l f).toNat)
open Classical in
theorem inSetB_at {l : List Mp} (h : AscM l) {R : Nat → Prop} {k : Nat} {f : Mp} (hk : l[k]? = some f) : inSetB l R f = decide (R k) := by
  unfold inSetB
  rw [plc_at h hk]
  rfl
set_option maxHeartbeats 2000000 in
set_option maxRecDepth 100000 in
theorem members_c {l : List Mp} {n : Int} {M : Nat} (y : W5) (R : Nat → Prop) (w : World) (hc : Clo l n) (mon : MonAt w M l n) (hy : y.Is R) :
    Calls Tryz.prog 56 #[.pointer (some ⟨M, 0, none⟩), .agg #[.int .u64 y.a, .int .u64 y.b, .int .u64 y.c, .int .u64 y.d, .int .u64 y.e]] w fun e w' => ∃ v, e = .returned v ∧ OwnMaps w' w.heap.size v (l.filter (inSetB l R)) ∧ Below w.heap.size w w' := by
  have kk := kbelow w (.cells #[.int .u64 y.a, .int .u64 y.b, .int .u64 y.c, .int .u64 y.d, .int .u64 y.e] 69)
  have hset := W5.set w y 69 hy
  have hp : PredM 93 #[.pointer (some ⟨w.heap.size, 0, none⟩)] #[] l (inSetB l R) (w.alloc (.cells #[.int .u64 y.a, .int .u64 y.b, .int .u64 y.c, .int .u64 y.d, .int .u64 y.e] 69)) := fun W i f hW hi => by
    have hl := (List.getElem?_eq_some_iff.1 hi).1
    have hlen := hc.len
    have := has_c w.heap.size 0 i R W (hset.below hW) (by omega)
    rw [inSetB_at hc.asc hi]
    exact this
  have honly := only_cB M l n 93 _ (inSetB l R) (enters_of Tryz.func93 (by kernel_rfl) rfl) _ (mon.below kk) hc.len hp
  have HA := Lib.hid honly
  clear honly hp hset hy mon hc
  go_enter Tryz.func56, Tryz.ntmps56
  go_wp2_with fail
  refine HA.out.mono ?_
  rintro e w2 ⟨v, rfl, hown, hb2⟩
  obtain ⟨Av, cv, rfl, _⟩ := hown.see
  go_wp2
  go_returns
  exact ⟨_, rfl, hown.mono kk.size, btrans kk hb2⟩
/-! ### The tables of products, filled up -/
def rightTo (N : Nat) (mp : Nat → Nat → Nat) (i k : Nat) (i' q : Nat) : Prop := ∃ k', k' < N ∧ (i' < i ∨ (i' = i ∧ k' < k)) ∧ q = mp i' k'
def leftTo (N : Nat) (mp : Nat → Nat → Nat) (i k : Nat) (k' q : Nat) : Prop := ∃ i', i' < N ∧ (i' < i ∨ (i' = i ∧ k' < k)) ∧ q = mp i' k'
def bothTo (N : Nat) (R L : Nat → Nat → Prop) (i k : Nat) (i' q : Nat) : Prop := ∃ k', k' < N ∧ (i' < i ∨ (i' = i ∧ k' < k)) ∧ R i' k' ∧ L k' q
section
variable {N : Nat} {mp : Nat → Nat → Nat} {R L : Nat → Nat → Prop}
theorem rightTo_zero (i' q : Nat) : rightTo N mp 0 0 i' q ↔ False := ⟨fun ⟨k', h1, h2, h3⟩ => by omega, False.elim⟩
theorem leftTo_zero (i' q : Nat) : leftTo N mp 0 0 i' q ↔ False := ⟨fun ⟨k', h1, h2, h3⟩ => by omega, False.elim⟩
theorem bothTo_zero (i' q : Nat) : bothTo N R L 0 0 i' q ↔ False := ⟨fun ⟨k', h1, h2, h3⟩ => by omega, False.elim⟩
theorem rightTo_step {i k : Nat} (hk : k < N) (i' q : Nat) : (if i' = i then fun r => rightTo N mp i k i r ∨ r = mp i k else rightTo N mp i k i') q ↔ rightTo N mp i (k + 1) i' q := by
  by_cases e : i' = i
  · subst e
    rw [if_pos rfl]
    constructor
    · rintro (⟨k', h1, h2, h3⟩ | h)
      · exact ⟨k', h1, by omega, h3⟩
      · exact ⟨k, hk, by omega, h⟩
    · rintro ⟨k', h1, h2, h3⟩
      by_cases e : k' = k
      · subst e; exact .inr h3
      · exact .inl ⟨k', h1, by omega, h3⟩
  · rw [if_neg e]
    constructor
    · rintro ⟨k', h1, h2, h3⟩; exact ⟨k', h1, by omega, h3⟩
    · rintro ⟨k', h1, h2, h3⟩; exact ⟨k', h1, by omega, h3⟩
theorem leftTo_step {i k : Nat} (hi : i < N) (k' q : Nat) : (if k' = k then fun r => leftTo N mp i k k r ∨ r = mp i k else leftTo N mp i k k') q ↔ leftTo N mp i (k + 1) k' q := by
  by_cases e : k' = k
  · subst e
    rw [if_pos rfl]
    constructor
    · rintro (⟨i', h1, h2, h3⟩ | h)
      · exact ⟨i', h1, by omega, h3⟩
      · exact ⟨i, hi, by omega, h⟩
    · rintro ⟨i', h1, h2, h3⟩
      by_cases e : i' = i
      · subst e; exact .inr h3
      · exact .inl ⟨i', h1, by omega, h3⟩
  · rw [if_neg e]
    constructor
    · rintro ⟨i', h1, h2, h3⟩; exact ⟨i', h1, by omega, h3⟩
    · rintro ⟨i', h1, h2, h3⟩; exact ⟨i', h1, by omega, h3⟩
theorem rightTo_row (i i' q : Nat) : rightTo N mp i N i' q ↔ rightTo N mp (i + 1) 0 i' q := by
  constructor <;> (rintro ⟨k', h1, h2, h3⟩; exact ⟨k', h1, by omega, h3⟩)
theorem leftTo_row {k' : Nat} (hk : k' < N) (i q : Nat) : leftTo N mp i N k' q ↔ leftTo N mp (i + 1) 0 k' q := by
  constructor <;> (rintro ⟨i', h1, h2, h3⟩; exact ⟨i', h1, by omega, h3⟩)
theorem bothTo_row (i i' q : Nat) : bothTo N R L i N i' q ↔ bothTo N R L (i + 1) 0 i' q := by
  constructor <;> (rintro ⟨k', h1, h2, h3⟩; exact ⟨k', h1, by omega, h3⟩)
theorem bothTo_yes {i k : Nat} (hk : k < N) (hR : R i k) (hL : ∀ q, L k q → q < 320) (i' q : Nat) : (if i' = i then joinTo (bothTo N R L i k i) (L k) 5 else bothTo N R L i k i') q ↔ bothTo N R L i (k + 1) i' q := by
  by_cases e : i' = i
  · subst e
    rw [if_pos rfl]
    unfold joinTo
    constructor
    · split
      · rintro (⟨k', h1, h2, h3⟩ | h)
        · exact ⟨k', h1, by omega, h3⟩
        · exact ⟨k, hk, by omega, hR, h⟩
      · rintro ⟨k', h1, h2, h3⟩
        exact ⟨k', h1, by omega, h3⟩
    · rintro ⟨k', h1, h2, h3, h4⟩
      by_cases e : k' = k
      · subst e
        rw [if_pos (by have := hL q h4; omega)]
        exact .inr h4
      · have : bothTo N R L i' k i' q := ⟨k', h1, by omega, h3, h4⟩
        split
        · exact .inl this
        · exact this
  · rw [if_neg e]
    constructor
    · rintro ⟨k', h1, h2, h3⟩; exact ⟨k', h1, by omega, h3⟩
    · rintro ⟨k', h1, h2, h3⟩; exact ⟨k', h1, by omega, h3⟩
theorem bothTo_no {i k : Nat} (hR : ¬ R i k) (i' q : Nat) : bothTo N R L i k i' q ↔ bothTo N R L i (k + 1) i' q := by
  constructor
  · rintro ⟨k', h1, h2, h3⟩; exact ⟨k', h1, by omega, h3⟩
  · rintro ⟨k', h1, h2, h3, h4⟩
    refine ⟨k', h1, ?_, h3, h4⟩
    rcases h2 with h2 | ⟨h2, h5⟩
    · omega
    · subst h2
      have : k' ≠ k := fun e => hR (e ▸ h3)
      omega
end
/-- the ideals as they lie -/
structure IdMem (w : World) (D gl gr gb N : Nat) (Pl Pr Pb : Nat → Nat → Prop) : Prop where
  d0 : w.cell? ⟨D, 0, none⟩ = some (.slice (some ⟨gl, 0, none⟩) N N)
  d1 : w.cell? ⟨D, 1, none⟩ = some (.slice (some ⟨gr, 0, none⟩) N N)
  d2 : w.cell? ⟨D, 2, none⟩ = some (.slice (some ⟨gb, 0, none⟩) N N)
  sl : SetsBox w gl N Pl
  sr : SetsBox w gr N Pr
  sb : SetsBox w gb N Pb
/-- its blocks are different ones -/
structure IdNe (D gl gr gb : Nat) : Prop where
  lr : gl ≠ gr
  lb : gl ≠ gb
  rb : gr ≠ gb
  dl : D ≠ gl
  dr : D ≠ gr
  db : D ≠ gb
section
variable {w w1 : World} {D gl gr gb N : Nat} {Pl Pr Pb Q : Nat → Nat → Prop}
theorem IdMem.below (h : IdMem w D gl gr gb N Pl Pr Pb) (hb : Below w.heap.size w w1) : IdMem w1 D gl gr gb N Pl Pr Pb :=
  ⟨bcell hb h.d0, bcell hb h.d1, bcell hb h.d2, h.sl.below hb, h.sr.below hb, h.sb.below hb⟩
theorem IdMem.putR (h : IdMem w D gl gr gb N Pl Pr Pb) (ne : IdNe D gl gr gb) (hk : Keep (fun k => k ≠ gr) w w1) (hs : SetsBox w1 gr N Q) : IdMem w1 D gl gr gb N Pl Q Pb :=
  ⟨hk.cell ne.dr h.d0, hk.cell ne.dr h.d1, hk.cell ne.dr h.d2, h.sl.keep ne.lr hk, hs, h.sb.keep ne.rb.symm hk⟩
theorem IdMem.putL (h : IdMem w D gl gr gb N Pl Pr Pb) (ne : IdNe D gl gr gb) (hk : Keep (fun k => k ≠ gl) w w1) (hs : SetsBox w1 gl N Q) : IdMem w1 D gl gr gb N Q Pr Pb :=
  ⟨hk.cell ne.dl h.d0, hk.cell ne.dl h.d1, hk.cell ne.dl h.d2, hs, h.sr.keep ne.lr.symm hk, h.sb.keep ne.lb.symm hk⟩
theorem IdMem.putB (h : IdMem w D gl gr gb N Pl Pr Pb) (ne : IdNe D gl gr gb) (hk : Keep (fun k => k ≠ gb) w w1) (hs : SetsBox w1 gb N Q) : IdMem w1 D gl gr gb N Pl Pr Q :=
  ⟨hk.cell ne.db h.d0, hk.cell ne.db h.d1, hk.cell ne.db h.d2, h.sl.keep ne.lb hk, h.sr.keep ne.rb hk, hs⟩
theorem IdMem.congr {Pl' Pr' Pb' : Nat → Nat → Prop} (h : IdMem w D gl gr gb N Pl Pr Pb) (el : ∀ i, i < N → ∀ q, Pl i q ↔ Pl' i q) (er : ∀ i, i < N → ∀ q, Pr i q ↔ Pr' i q) (eb : ∀ i, i < N → ∀ q, Pb i q ↔ Pb' i q) : IdMem w D gl gr gb N Pl' Pr' Pb' :=
  ⟨h.d0, h.d1, h.d2, h.sl.congr el, h.sr.congr er, h.sb.congr eb⟩
end
/-- a row of empty sets -/
theorem SetsBox.new {w : World} {base g N c : Nat} {e : TypeId} (h : w.ownsRow base e 5 (.slice (some ⟨g, 0, none⟩) N c) N (madeCells #[.int .u64 0, .int .u64 0, .int .u64 0, .int .u64 0, .int .u64 0] (N * 5)).toList) (hc : c = N) : SetsBox w g N (fun _ _ => False) := by
  subst hc
  rcases h.2 with ⟨h', _⟩ | ⟨g', cap', cur, h', hb, hg, h4, h5, h6, h7⟩
  · simp at h'
  · simp only [Value.slice.injEq, Option.some.injEq, Addr.mk.injEq, and_true] at h'
    obtain ⟨rfl, _, rfl⟩ := h'
    refine ⟨⟨cur, e, hg, by omega⟩, fun i hi j hj => ⟨0, ?_, Bits.zero j⟩⟩
    have hlt : i * 5 + j < c * 5 := by omega
    have h0 := h.cellAt (i * 5 + j) (by simpa using hlt)
    rw [h0]
    simp only [madeCells, Array.getElem?_toList, Array.getElem?_map, Array.getElem?_range, hlt, if_true, Option.map_some, Option.some.injEq]
    have h5' : (i * 5 + j) % 5 = j := by omega
    show #[Value.int .u64 0, .int .u64 0, .int .u64 0, .int .u64 0, .int .u64 0][(i * 5 + j) % 5]! = _
    rw [h5']
    rcases (by omega : j = 0 ∨ j = 1 ∨ j = 2 ∨ j = 3 ∨ j = 4) with rfl | rfl | rfl | rfl | rfl <;> rfl
end Go.Proofs.YtilfamenadaboaaGreat
