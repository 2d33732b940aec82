/- 'lead' leads each point of a list by a map. No condition. -/
import Derived.Test.YtbodaefdaagelaaSearch
import Derived.Test.YtbodaefdaagelaaPure
import Derived.Test.YtbodaefdaagelaaMul
namespace Go.Proofs.Ytbodaefdaagelaa
set_option linter.unusedSimpArgs false
set_option linter.unusedVariables false
set_option linter.unusedSectionVars false
open Go.RowKit
theorem MpAt.grow {w w' : World} {b o : Nat} {m : Mp} {row : Option Nat} (h : MpAt w b o m) (hg : w.grownBy w' row) (hr : row ≠ some b) : MpAt w' b o m :=
  ⟨hg.cell h.h0 (Ne.symm hr), hg.cell h.h1 (Ne.symm hr), hg.cell h.h2 (Ne.symm hr), hg.cell h.h3 (Ne.symm hr), hg.cell h.h4 (Ne.symm hr), hg.cell h.h5 (Ne.symm hr)⟩
theorem take_map {α β : Type} (g : α → β) {xs : List α} {k : Nat} {x : α} (h : xs[k]? = some x) : (xs.take (k + 1)).map g = (xs.take k).map g ++ [g x] := by
  rw [List.take_add_one, h]; simp
set_option maxHeartbeats 1000000 in
theorem lead_c (f : Mp) (n : Int) (A : Option Addr) (c : Nat) (ps : List Int) (w : World) (hf : MpN f n) (h : SeeInts w A ps) (hp : ∀ p ∈ ps, 0 ≤ p ∧ p < n) (hln : ps.length ≤ 2097152) :
    Calls Try.prog 78 #[.agg #[.int .i64 f.p, .int .i64 f.a, .int .i64 f.b, .int .i64 f.c, .int .i64 f.d, .int .i64 f.e], .slice A ps.length c] w fun e w' => ∃ v, e = .returned v ∧ OwnInts w' w.heap.size v (ps.map f.at) ∧ Below w.heap.size w w' := by
  have n5 : n ≤ 5 := by have := hf.1.2.1; have := hf.2; omega
  have HP := Lib.hid hp
  clear hp
  go_enter Try.func78, Try.ntmps78
  go_wp2
  go_loopw [10, 5] (fun i out wr => ∃ k : Nat, k ≤ ps.length ∧ i = .int .i64 k ∧ OwnInts wr (w.heap.size + 1) out ((ps.take k).map f.at) ∧ MpAt wr w.heap.size 0 f ∧ Below w.heap.size w wr) (fun i _ _ => ps.length - (intOf i).toNat)
  case atStart => exact ⟨0, Nat.zero_le _, rfl, OwnInts.nil _ _, MpAt.boxed w f _, by go_grown⟩
  case round =>
    obtain ⟨k, hk, rfl, hown, hm, hb⟩ := hrel
    have hsz1 : w.heap.size < wr.heap.size := World.block_lt_of_cell? wr ⟨w.heap.size, 0, none⟩ hm.h0
    by_cases hlt : k < ps.length
    · obtain ⟨b, o, p, rfl, hx, q⟩ := (h.below hb).at_ hlt
      obtain ⟨p0, p1⟩ := HP.out p (List.mem_of_getElem? hx)
      have g := hm.to' (i := p.toNat) (by omega)
      have e : f.to p.toNat = f.at p := rfl
      rw [e] at g
      have p5 : p < 5 := by omega
      have hl : (0 : Int) ≤ k := by omega
      have hl' : (k : Int) < ps.length := by omega
      have HX := Lib.hid hx
      have hne := hown.lt w.heap.size
      have HNE := Lib.hid hne
      clear hx e h hne
      go_wp2_with (at_builtin; refine wpList_push_int _ rfl (.tmp 14) (.tmp 19) rfl (w.heap.size + 1) _ _ rfl (hown.below (by go_grown)) ⟨wr.heap.size, 0, none⟩ (f.at p) rfl (by simp [go_sem]) (by simp; omega) (by simp; omega) ?_; intro v' w3 hown' hgrow hv')
      go_roundw
      case rel => exact ⟨k + 1, by omega, by go_num, by rw [take_map f.at HX.out]; exact hown', (hm.below (kbelow wr _)).grow hgrow (fun e => by have := HNE.out e; omega), Below.grown (w := wr.alloc (.cells #[.int .i64 (f.at p)] 2)) (by go_grown) hgrow (by simp; omega) (fun j hj => by have := (hown.lt j hj).1; omega)⟩
      case measure => simp [intOf]; omega
    · obtain rfl : k = ps.length := by omega
      go_wp2
      go_returns
      refine ⟨_, rfl, ?_, hb⟩
      rw [List.take_length] at hown
      exact hown.mono (by omega)
/-- lists of points of n -/
def PtsL (l : Nat) (n : Int) (p : List Int) : Prop := p.length = l ∧ ∀ x ∈ p, 0 ≤ x ∧ x < n
theorem lead_by (l : Nat) (n : Int) (ms : List Mp) (U : List (List Int)) (hm : ∀ m ∈ ms, MpN m n) (hU : ∀ p ∈ U, PtsL l n p) (hl : l ≤ 1000) : ByOk 78 #[] (fun f p => p.map f.at) ms U := fun W f A c p hf hp h =>
  lead_c f n A c p W (hm f hf) h (hU p hp).2 (by have := (hU p hp).1; omega)
theorem leadEnters : Enters Try.prog 78 := enters_of Try.func78 (by kernel_rfl) rfl
/-- all lists of l points of n -/
def ptsAll (n : Nat) : Nat → List (List Int)
  | 0 => [[]]
  | l + 1 => (List.range n).flatMap fun (i : Nat) => (ptsAll n l).map fun p => (i : Int) :: p
theorem ptsAll_mem {n : Nat} : ∀ {l : Nat} {p : List Int}, p ∈ ptsAll n l ↔ PtsL l n p
  | 0, p => by
    constructor
    · intro h; rw [List.mem_singleton.1 h]; exact ⟨rfl, by simp⟩
    · rintro ⟨h, _⟩; rw [List.eq_nil_of_length_eq_zero h]; exact List.mem_singleton.2 rfl
  | l + 1, p => by
    show p ∈ (List.range n).flatMap _ ↔ _
    rw [List.mem_flatMap]
    constructor
    · rintro ⟨i, hi, h⟩
      obtain ⟨q, hq, rfl⟩ := List.mem_map.1 h
      obtain ⟨h1, h2⟩ := ptsAll_mem.1 hq
      refine ⟨by simp [h1], fun x hx => ?_⟩
      rcases List.mem_cons.1 hx with rfl | hx
      · have := List.mem_range.1 hi; omega
      · exact h2 x hx
    · rintro ⟨h1, h2⟩
      cases p with
      | nil => simp at h1
      | cons x q =>
        have hx := h2 x (by simp)
        refine ⟨x.toNat, List.mem_range.2 (by omega), List.mem_map.2 ⟨q, ptsAll_mem.2 ⟨by simpa using h1, fun y hy => h2 y (by simp [hy])⟩, ?_⟩⟩
        rw [Int.toNat_of_nonneg hx.1]
theorem ptsAll_len (n : Nat) : ∀ l, (ptsAll n l).length = n ^ l
  | 0 => rfl
  | l + 1 => by
    show ((List.range n).flatMap fun (i : Nat) => (ptsAll n l).map fun p => (i : Int) :: p).length = _
    rw [List.length_flatMap]
    simp only [List.length_map, ptsAll_len n l]
    rw [List.map_const', List.sum_replicate_nat, List.length_range, Nat.pow_succ, Nat.mul_comm]
/-- a search over lists of l points, l at most 2 -/
theorem lead_univ {ms : List Mp} {n : Int} (h : RightL ms n) {l : Nat} (hl : l ≤ 2) {start : List Int} (hs : PtsL l n start) : Univ (stp (fun f p => p.map f.at) ms) ms.length start (ptsAll n.toNat l) := by
  have hb := h.bounds
  have hn : (n.toNat : Int) = n := by omega
  refine ⟨ptsAll_mem.2 (by rw [hn]; exact hs), fun j hj p hp => ptsAll_mem.2 ?_, ?_⟩
  · obtain ⟨h1, h2⟩ := ptsAll_mem.1 hp
    rw [hn] at h2
    have hm : MpN (ms.getD j Mp.z) n := by
      rw [List.getD_eq_getElem?_getD, List.getElem?_eq_getElem hj]
      exact h.all _ (List.getElem_mem hj)
    refine ⟨by show (List.map _ _).length = l; rw [List.length_map]; exact h1, fun x hx => ?_⟩
    obtain ⟨y, hy, rfl⟩ := List.mem_map.1 hx
    have := h2 y hy
    have := hm.at this.1 this.2
    omega
  · rw [ptsAll_len]
    have h5 : n.toNat ≤ 5 := by omega
    calc n.toNat ^ l ≤ 5 ^ l := Nat.pow_le_pow_left h5 l
      _ ≤ 5 ^ 2 := Nat.pow_le_pow_right (by omega) hl
      _ ≤ 1000 := by decide
end Go.Proofs.Ytbodaefdaagelaa
