/- 'identity', 'times' and 'mapOf': the identity, products, maps of words. No condition. -/
import Derived.Test.YthadgdmooacccaaIsMap
import Derived.Test.YthadgdmooacccaaBase
namespace Go.Proofs.Ythadgdmooacccaa
set_option linter.unusedSimpArgs false
set_option linter.unusedVariables false
set_option linter.unusedSectionVars false
open Go.RowKit
/-- a variable in memory that holds a map -/
def MpBox (w : World) (b : Nat) (m : Mp) : Prop := ∃ t, w.heap[b]? = some (.cells #[.int .i64 m.p, .int .i64 m.a, .int .i64 m.b, .int .i64 m.c, .int .i64 m.d, .int .i64 m.e] t (0, 0))
theorem MpBox.lt {w : World} {b : Nat} {m : Mp} (h : MpBox w b m) : b < w.heap.size := by
  obtain ⟨t, h⟩ := h
  exact (Array.getElem?_eq_some_iff.1 h).1
theorem MpBox.below {w w1 : World} {b : Nat} {m : Mp} (h : MpBox w b m) (hb : Below w.heap.size w w1) : MpBox w1 b m := by
  have hl := h.lt
  obtain ⟨t, h⟩ := h
  exact ⟨t, (hb.block b hl).trans h⟩
theorem MpBox.at {w : World} {b : Nat} {m : Mp} (h : MpBox w b m) : MpAt w b 0 m := by
  obtain ⟨t, h⟩ := h
  constructor <;> (rw [cell_of_row w b _ _ t (0, 0) h]; rfl)
theorem MpBox.free {w : World} {b : Nat} {m : Mp} (h : MpBox w b m) : ∀ j, w.frozen? ⟨b, j, none⟩ = false := fun j => by
  obtain ⟨t, h⟩ := h
  exact frozen_of_row w b j _ t h
theorem MpBox.far {w : World} {b : Nat} {m : Mp} (h : MpBox w b m) {a : Addr} (ha : b ≠ a.block) (u : Value) : MpBox (w.setCell a u) b m := by
  obtain ⟨t, h⟩ := h
  exact ⟨t, (heap_setCell_other w a b u ha).trans h⟩
theorem MpBox.new {w : World} {b : Nat} (m : Mp) (t : TypeId) (hb : b = w.heap.size) : MpBox (w.alloc (.cells #[.int .i64 m.p, .int .i64 m.a, .int .i64 m.b, .int .i64 m.c, .int .i64 m.d, .int .i64 m.e] t)) b m := by
  subst hb
  exact ⟨t, heap_alloc_new w _⟩
theorem MpBox.keep {w : World} {b : Nat} {m : Mp} (h : MpBox w b m) (o : Obj) : MpBox (w.alloc o) b m := h.below (Below.alloc (Below.refl _ _) (Nat.le_refl _) o)
theorem MpBox.set {w : World} {b : Nat} {m : Mp} (h : MpBox w b m) {i : Nat} (hi : i < 5) (v : Int) : MpBox (w.setCell ⟨b, 1 + i, none⟩ (.int .i64 v)) b (m.set i v) := by
  obtain ⟨t, h⟩ := h
  refine ⟨t, ?_⟩
  rw [heap_setCell_same w b (1 + i) _ t _ h]
  rcases (by omega : i = 0 ∨ i = 1 ∨ i = 2 ∨ i = 3 ∨ i = 4) with rfl | rfl | rfl | rfl | rfl <;> rfl
theorem MpBox.store {w : World} {b : Nat} {m : Mp} (h : MpBox w b m) (n : Mp) : MpBox ((((((w.setCell ⟨b, 0, none⟩ (.int .i64 n.p)).setCell ⟨b, 1, none⟩ (.int .i64 n.a)).setCell ⟨b, 2, none⟩ (.int .i64 n.b)).setCell ⟨b, 3, none⟩ (.int .i64 n.c)).setCell ⟨b, 4, none⟩ (.int .i64 n.d)).setCell ⟨b, 5, none⟩ (.int .i64 n.e)) b n := by
  obtain ⟨t, h⟩ := h
  have h0 := heap_setCell_same w b 0 _ t (.int .i64 n.p) h
  have h1 := heap_setCell_same _ b 1 _ t (.int .i64 n.a) h0
  have h2 := heap_setCell_same _ b 2 _ t (.int .i64 n.b) h1
  have h3 := heap_setCell_same _ b 3 _ t (.int .i64 n.c) h2
  have h4 := heap_setCell_same _ b 4 _ t (.int .i64 n.d) h3
  have h5 := heap_setCell_same _ b 5 _ t (.int .i64 n.e) h4
  exact ⟨t, h5⟩
theorem MpBox.bw {w : World} {b : Nat} {m : Mp} (h : MpBox w b m) : ∀ x : BW w, MpBox x.1 b m := fun x => h.below x.2
theorem MpBox.drew {w : World} {b : Nat} {m : Mp} (h : MpBox w b m) : MpBox w.drew b m := h
set_option maxHeartbeats 1000000 in
theorem identity_c (n : Int) (w : World) (h1 : 1 ≤ n) (h2 : n ≤ 5) : Calls Try.prog 100 #[.int .i64 n] w fun e w' => e = .returned (.agg #[.int .i64 (idM n).p, .int .i64 (idM n).a, .int .i64 (idM n).b, .int .i64 (idM n).c, .int .i64 (idM n).d, .int .i64 (idM n).e]) ∧ Below w.heap.size w w' := by
  go_enter Try.func100, Try.ntmps100
  go_wp2
  go_loopw [8] (fun i wr => ∃ k : Nat, (k : Int) ≤ n ∧ i = .int .i64 k ∧ MpBox wr w.heap.size Mp.z ∧ MpBox wr (w.heap.size + 1) (idTo n k) ∧ Below w.heap.size w wr) (fun i _ => n.toNat - (intOf i).toNat)
  case atStart => exact ⟨0, by omega, rfl, (MpBox.new Mp.z 61 rfl).keep _, MpBox.new (idTo n 0) 61 (by go_size), by go_grown⟩
  case round =>
    obtain ⟨k, hk, rfl, hz, hm, hb⟩ := hrel
    have hsz := hb.size
    by_cases hlt : (k : Int) < n
    · have hk5 : k < 5 := by omega
      have q := hm.at.to' hk5
      have f := hm.free
      have l0 : (0 : Int) ≤ k := by omega
      have l5 : (k : Int) < 5 := by omega
      go_wp2
      go_roundw
      case rel => exact ⟨k + 1, by omega, by go_num, hz.far (by simp <;> omega) _, by rw [← idTo_succ n hk5]; exact hm.set hk5 _, by go_grown⟩
      case measure => simp [intOf]; omega
    · obtain rfl : n = (k : Int) := by omega
      obtain ⟨q0, q1, q2, q3, q4, q5⟩ := hm.at.cells0
      obtain ⟨z0, z1, z2, z3, z4, z5⟩ := hz.at.cells0
      have f := hz.free
      go_wp2
      refine bodyPost_ret (v := .agg #[.int .i64 (idM k).p, .int .i64 (idM k).a, .int .i64 (idM k).b, .int .i64 (idM k).c, .int .i64 (idM k).d, .int .i64 (idM k).e]) (by simp [results, Try.results100, go_sem, z0, z1, z2, z3, z4, z5, idM]) rfl ⟨rfl, by go_grown⟩
set_option maxHeartbeats 2000000 in
theorem times_c (f g : Mp) (n : Int) (w : World) (hf : MpN f n) (hg : MpN g n) : Calls Try.prog 101 #[.agg #[.int .i64 f.p, .int .i64 f.a, .int .i64 f.b, .int .i64 f.c, .int .i64 f.d, .int .i64 f.e], .agg #[.int .i64 g.p, .int .i64 g.a, .int .i64 g.b, .int .i64 g.c, .int .i64 g.d, .int .i64 g.e]] w fun e w' => e = .returned (.agg #[.int .i64 (mulM f g).p, .int .i64 (mulM f g).a, .int .i64 (mulM f g).b, .int .i64 (mulM f g).c, .int .i64 (mulM f g).d, .int .i64 (mulM f g).e]) ∧ Below w.heap.size w w' := by
  have h1 := hf.1.1
  have h2 := hf.1.2.1
  go_enter Try.func101, Try.ntmps101
  go_wp2
  go_loopw [8] (fun i wr => ∃ k : Nat, (k : Int) ≤ f.p ∧ i = .int .i64 k ∧ MpBox wr w.heap.size (mulTo f g k) ∧ MpBox wr (w.heap.size + 1) g ∧ MpBox wr (w.heap.size + 1 + 1) Mp.z ∧ Below w.heap.size w wr) (fun i _ => f.p.toNat - (intOf i).toNat)
  case atStart => exact ⟨0, by omega, rfl, by rw [mulTo_zero]; exact ((MpBox.new f 61 rfl).keep _).keep _, (MpBox.new g 61 (by go_size)).keep _, MpBox.new Mp.z 61 (by go_size), by go_grown⟩
  case round =>
    obtain ⟨k, hk, rfl, hm, hgb, hz, hb⟩ := hrel
    have hsz := hb.size
    by_cases hlt : (k : Int) < f.p
    · have hk5 : k < 5 := by omega
      have q := hm.at.to' hk5
      rw [mulTo_to f g hk5] at q
      have hr := (hf.1.2.2 k hk5).1 hlt
      have r0 := hr.1
      have r1 : f.to k < 5 := by omega
      have p := hgb.at.to' (i := (f.to k).toNat) (by omega)
      have e : g.to (f.to k).toNat = g.at (f.to k) := rfl
      rw [e] at p
      clear e
      have fr := hm.free
      have l0 : (0 : Int) ≤ k := by omega
      have l5 : (k : Int) < 5 := by omega
      go_wp2
      go_roundw
      case rel => exact ⟨k + 1, by omega, by go_num, by rw [← mulTo_succ f g hk5]; exact hm.set hk5 _, hgb.far (by simp <;> omega) _, hz.far (by simp <;> omega) _, by go_grown⟩
      case measure => simp [intOf]; omega
    · have hkp : f.p.toNat = k := by omega
      obtain ⟨q0, q1, q2, q3, q4, q5⟩ := hm.at.cells0
      obtain ⟨z0, z1, z2, z3, z4, z5⟩ := hz.at.cells0
      have fr := hz.free
      have HK := Lib.hid hkp
      clear hkp
      go_wp2
      refine bodyPost_ret (v := .agg #[.int .i64 (mulTo f g k).p, .int .i64 (mulTo f g k).a, .int .i64 (mulTo f g k).b, .int .i64 (mulTo f g k).c, .int .i64 (mulTo f g k).d, .int .i64 (mulTo f g k).e]) (by simp [results, Try.results101, go_sem, z0, z1, z2, z3, z4, z5]) rfl ⟨by unfold mulM; rw [HK.out], by go_grown⟩
end Go.Proofs.Ythadgdmooacccaa
