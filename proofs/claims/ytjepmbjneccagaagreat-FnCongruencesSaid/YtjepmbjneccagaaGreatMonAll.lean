/- What is asked of a monoid as it lies: places, products, whether all, or some, elements are such, and which. No condition. -/
import Derived.Test.YtjepmbjneccagaaGreatNewMon
import Derived.Test.YtjepmbjneccagaaGreatFuncs
import Derived.Test.YtjepmbjneccagaaGreatPushM
namespace Go.Proofs.YtjepmbjneccagaaGreat
set_option linter.unusedSimpArgs false
set_option linter.unusedVariables false
set_option linter.unusedSectionVars false
open Go.RowKit
theorem plc_lt (l : List Mp) (f : Mp) : -1 ≤ plc l f ∧ plc l f < l.length ∨ plc l f = -1 := by
  unfold plc
  split
  · rename_i h
    have := (List.getElem?_eq_some_iff.1 h).1
    exact .inl ⟨by omega, by omega⟩
  · exact .inr rfl
theorem plc_wrap {l : List Mp} (hl : l.length ≤ 300) (f : Mp) : wrap64 (plc l f) = plc l f ∧ IntKind.i64.wrap (plc l f) = plc l f := by
  have := plc_lt l f
  constructor
  · unfold wrap64; omega
  · rw [IntKind.wrap_i64]; omega
set_option maxHeartbeats 1000000 in
theorem place_c (M : Nat) (l : List Mp) (n : Int) (f : Mp) (w : World) (h : MonAt w M l n) (hl : l.length ≤ 300) (hf : MpN f n) :
    Calls Tryz.prog 110 #[.pointer (some ⟨M, 0, none⟩), .agg #[.int .i64 f.p, .int .i64 f.a, .int .i64 f.b, .int .i64 f.c, .int .i64 f.d, .int .i64 f.e]] w fun e w' => e = .returned (.int .i64 (plc l f)) ∧ Below w.heap.size w w' := by
  obtain ⟨A, c, v1, pl, box, _, hpl⟩ := h
  have bt := MpBox.new (w := w) f 53 rfl
  have kk := kbelow w (.cells #[.int .i64 f.p, .int .i64 f.a, .int .i64 f.b, .int .i64 f.c, .int .i64 f.d, .int .i64 f.e] 53)
  have hnum := hf.num_lt
  have num0 := hnum.1
  have num1 := hnum.2
  have cp := (box.below kk).cp (i := f.num.toNat) (by omega)
  rw [hpl f hf] at cp
  have CP := bwcell cp
  obtain ⟨y0, y1, y2, y3, y4, y5⟩ := bt.at.bw
  simp only [Nat.zero_add] at y0 y1 y2 y3 y4 y5
  have s1 := (plc_wrap hl f).1
  have s2 := (plc_wrap hl f).2
  clear hnum cp box bt hpl
  generalize plc l f = pv at *
  go_enter Tryz.func110, Tryz.ntmps110
  go_wp2
  refine wp_region_bw (by kernel_rfl) (by kernel_rfl) ?_
  repeat go_big_quiet_step ((go_at_call 130; exact Calls.bw _ (number_c f n _ hf)))
  refine wpQuiet_nil ?_
  rintro w2 ⟨⟨w2x, hb2⟩, rfl⟩
  go_wp2
  go_returns
  exact ⟨rfl, btrans kk hb2⟩
set_option maxHeartbeats 1000000 in
theorem product_c (M : Nat) (l : List Mp) (n : Int) (i k : Nat) (f g : Mp) (w : World) (h : MonAt w M l n) (hl : l.length ≤ 300) (hi : l[i]? = some f) (hk : l[k]? = some g) (hf : MpN f n) (hg : MpN g n) :
    Calls Tryz.prog 111 #[.pointer (some ⟨M, 0, none⟩), .int .i64 i, .int .i64 k] w fun e w' => e = .returned (.int .i64 (plc l (mulM f g))) ∧ Below w.heap.size w w' := by
  have H := h
  obtain ⟨A, c, v1, pl, box, see, hpl⟩ := h
  have li := (List.getElem?_eq_some_iff.1 hi).1
  have lk := (List.getElem?_eq_some_iff.1 hk).1
  obtain ⟨b, o, x, rfl, hx, gx⟩ := see.at_ li
  rw [hi] at hx
  obtain rfl := Option.some.inj hx
  obtain ⟨b', o', y, e', hy, gy⟩ := see.at_ lk
  rw [hk] at hy
  obtain rfl := Option.some.inj hy
  simp only [Option.some.injEq, Addr.mk.injEq, and_true] at e'
  obtain ⟨rfl, rfl⟩ := e'
  have C0 := bwcell box.c0
  obtain ⟨x0, x1, x2, x3, x4, x5⟩ := gx.bw
  obtain ⟨y0, y1, y2, y3, y4, y5⟩ := gy.bw
  have i0 : (0 : Int) ≤ i := by omega
  have i1 : (i : Int) < l.length := by omega
  have k0 : (0 : Int) ≤ k := by omega
  have k1 : (k : Int) < l.length := by omega
  have HM := Lib.hid H
  clear hi hk hx hy gx gy box see hpl li lk H
  go_enter Tryz.func111, Tryz.ntmps111
  go_wp2
  refine wp_region_bw (by kernel_rfl) (by kernel_rfl) ?_
  repeat go_big_quiet_step ((first | (go_at_call 131; exact Calls.bw _ (times_c f g n _ hf hg)) | (go_at_call 110; exact Calls.bw _ (place_c M l n (mulM f g) _ (HM.out.below (by first | exact Subtype.property _ | assumption)) hl (mulM_MpN hf hg)))))
  refine wpQuiet_nil ?_
  rintro w2 ⟨⟨w2x, hb2⟩, rfl⟩
  go_wp2
  go_returns
  exact ⟨rfl, hb2⟩
/-! Whether all, or some, elements of a monoid are such, and which are. -/
/-- what a predicate of elements tells: 'pre' ahead of the number, 'lb' behind it -/
def PredM (g : Nat) (pre lb : Array Value) (l : List Mp) (P : Mp → Bool) (w : World) : Prop :=
  ∀ (W : World) (i : Nat) (f : Mp), Below w.heap.size w W → l[i]? = some f → Calls Tryz.prog g (pre ++ #[.int .i64 (i : Int)] ++ lb) W fun e w' => e = .returned (.bool (P f)) ∧ Below W.heap.size W w'
theorem PredM.below {g : Nat} {pre lb : Array Value} {l : List Mp} {P : Mp → Bool} {w w1 : World} (h : PredM g pre lb l P w) (hb : Below w.heap.size w w1) : PredM g pre lb l P w1 := fun W i f hW hi => h W i f (btrans hb hW) hi
theorem MonAt.cellsOf {w : World} {M : Nat} {l : List Mp} {n : Int} (h : MonAt w M l n) : ∃ A c, w.cell? ⟨M, 0, none⟩ = some (.slice A l.length c) ∧ SeeMaps w A l := by
  obtain ⟨A, c, v1, pl, box, see, _⟩ := h
  exact ⟨A, c, box.c0, see⟩
end Go.Proofs.YtjepmbjneccagaaGreat
