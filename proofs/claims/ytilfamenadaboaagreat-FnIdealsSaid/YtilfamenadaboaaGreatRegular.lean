/- What the program tells of an element: whether it is regular, its inverses, whether it is below another one, with which it commutes. No condition. -/
import Derived.Test.YtilfamenadaboaaGreatMonoidOf
namespace Go.Proofs.YtilfamenadaboaaGreat
open Go.RowKit
/-- elements in order, closed under products -/
structure Clo (l : List Mp) (n : Int) : Prop where
  asc : AscM l
  all : ∀ f ∈ l, MpN f n
  mul : ∀ f ∈ l, ∀ g ∈ l, mulM f g ∈ l
  len : l.length ≤ 300
theorem MonR.clo {ms ms' : List Mp} (h : MonR ms ms') : Clo (elsOf ms) (ptsL ms) := ⟨h.asc, h.all, fun _ hf _ hg => h.mul hf hg, h.len⟩
section
variable {l : List Mp} {n : Int}
theorem Clo.get (h : Clo l n) {i : Nat} {f : Mp} (hi : l[i]? = some f) : f ∈ l ∧ MpN f n := ⟨List.mem_of_getElem? hi, h.all f (List.mem_of_getElem? hi)⟩
/-- the product of two elements, as a place -/
theorem Clo.prod (h : Clo l n) {i k : Nat} {f g : Mp} (hi : l[i]? = some f) (hk : l[k]? = some g) : ∃ q : Nat, plc l (mulM f g) = q ∧ l[q]? = some (mulM f g) := plc_mem h.asc (h.mul f (h.get hi).1 g (h.get hk).1)
theorem Clo.same (h : Clo l n) {i k : Nat} {f g : Mp} (hi : l[i]? = some f) (hk : l[k]? = some g) : ((i : Int) == (k : Int)) = decide (f = g) := by
  by_cases e : f = g
  · subst e
    rw [h.asc.idx hi hk]
    simp
  · rw [decide_eq_false e]
    refine beq_eq_false_iff_ne.2 fun e2 => e ?_
    obtain rfl : i = k := by omega
    rw [hi] at hk
    exact Option.some.inj hk
theorem Clo.call (h : Clo l n) {M i k : Nat} {f g : Mp} {w : World} (mon : MonAt w M l n) (hi : l[i]? = some f) (hk : l[k]? = some g) : ∃ q : Nat, l[q]? = some (mulM f g) ∧ ∀ x : BW w, Calls Tryz.prog 68 #[.pointer (some ⟨M, 0, none⟩), .int .i64 i, .int .i64 k] x.1 fun e w' => e = .returned (.int .i64 (q : Int)) ∧ Below x.1.heap.size x.1 w' := by
  obtain ⟨q, hq, hlq⟩ := h.prod hi hk
  refine ⟨q, hlq, fun x => ?_⟩
  have := product_c M l n i k f g x.1 (mon.below x.2) h.len hi hk (h.get hi).2 (h.get hk).2
  rw [hq] at this
  exact this
end
def regB (l : List Mp) (f : Mp) : Bool := l.any fun g => decide (mulM (mulM f g) f = f)
def invB (f g : Mp) : Bool := decide (mulM (mulM f g) f = f) && decide (mulM g (mulM f g) = g)
def comB (f g : Mp) : Bool := decide (mulM f g = mulM g f)
def idemB (f : Mp) : Bool := decide (mulM f f = f)
section
variable {l : List Mp} {n : Int} {M i bm bf : Nat} {f : Mp} {w : World}
set_option maxRecDepth 100000 in
set_option maxHeartbeats 2000000 in
theorem isRegular1_p (hc : Clo l n) (mon : MonAt w M l n) (hi : l[i]? = some f) (qm : w.cell? ⟨bm, 0, none⟩ = some (.pointer (some ⟨M, 0, none⟩))) (qf : w.cell? ⟨bf, 0, none⟩ = some (.int .i64 i)) :
    PredM 87 #[] #[.pointer (some ⟨bm, 0, none⟩), .pointer (some ⟨bf, 0, none⟩)] l (fun g => decide (mulM (mulM f g) f = f)) w := fun W j g hW hj => by
  have QM := bwcell (bcell hW qm)
  have QF := bwcell (bcell hW qf)
  obtain ⟨q, hq, h1⟩ := hc.call (mon.below hW) hi hj
  obtain ⟨q2, hq2, h2⟩ := hc.call (mon.below hW) hq hi
  have hs := hc.same hq2 hi
  have H1 := Lib.hid h1
  have H2 := Lib.hid h2
  show Calls Tryz.prog 87 #[.int .i64 (j : Int), .pointer (some ⟨bm, 0, none⟩), .pointer (some ⟨bf, 0, none⟩)] W fun e w' => e = .returned (.bool (decide (mulM (mulM f g) f = f))) ∧ Below W.heap.size W w'
  rw [← hs]
  clear hs h1 h2 hq hq2 qm qf hW hj hi mon hc
  go_enter Tryz.func87, Tryz.ntmps87
  go_wp2
  refine wp_region_bw (by kernel_rfl) (by kernel_rfl) ?_
  repeat go_big_quiet_step ((first | (go_at_call_of 68 (Value.int .i64 (j : Int)); exact Calls.bw _ (H1.out _)) | (go_at_call_of 68 (Value.int .i64 (q : Int)); exact Calls.bw _ (H2.out _))))
  refine wpQuiet_nil ?_
  rintro w2 ⟨⟨w2x, hb2⟩, rfl⟩
  go_wp2
  go_returns
  exact ⟨rfl, hb2⟩
set_option maxRecDepth 100000 in
set_option maxHeartbeats 2000000 in
theorem isRegular_c (hc : Clo l n) (mon : MonAt w M l n) (hi : l[i]? = some f) :
    Calls Tryz.prog 45 #[.pointer (some ⟨M, 0, none⟩), .int .i64 (i : Int)] w fun e w' => e = .returned (.bool (regB l f)) ∧ Below w.heap.size w w' := by
  have kk : Below w.heap.size w ((w.alloc (.cells #[.pointer (some ⟨M, 0, none⟩)] 48)).alloc (.cells #[.int .i64 (i : Int)] 3)) := by go_grown
  have qm : ((w.alloc (.cells #[.pointer (some ⟨M, 0, none⟩)] 48)).alloc (.cells #[.int .i64 (i : Int)] 3)).cell? ⟨w.heap.size, 0, none⟩ = some (.pointer (some ⟨M, 0, none⟩)) := by simp [go_sem]
  have qf : ((w.alloc (.cells #[.pointer (some ⟨M, 0, none⟩)] 48)).alloc (.cells #[.int .i64 (i : Int)] 3)).cell? ⟨w.heap.size + 1, 0, none⟩ = some (.int .i64 (i : Int)) := by simp [go_sem]
  have hp := isRegular1_p hc (mon.below kk) hi qm qf
  have hany := any_c M l n 87 _ _ (enters_of Tryz.func87 (by kernel_rfl) rfl) _ (mon.below kk) hc.len hp
  have HA := Lib.hid hany
  clear hany hp qf hi mon hc
  unfold regB
  go_enter Tryz.func45, Tryz.ntmps45
  go_wp2_with fail
  refine HA.out.mono ?_
  rintro e w2 ⟨rfl, hb2⟩
  go_wp2
  go_returns
  exact ⟨rfl, btrans kk hb2⟩
end
/-! The place of a product, by the places of its factors. -/
/-- the place of a product -/
def mpl (l : List Mp) (i k : Nat) : Nat := (plc l (mulM (l.getD i Mp.z) (l.getD k Mp.z))).toNat
section
variable {l : List Mp} {n : Int}
theorem mpl_at (hc : Clo l n) {i k : Nat} (hi : i < l.length) (hk : k < l.length) : ∃ f g, l[i]? = some f ∧ l[k]? = some g ∧ plc l (mulM f g) = (mpl l i k : Int) ∧ mpl l i k < l.length := by
  obtain ⟨f, hf⟩ := el hi
  obtain ⟨g, hg⟩ := el hk
  obtain ⟨q, hq, hlq⟩ := hc.prod hf hg
  have e : mpl l i k = q := by
    unfold mpl
    rw [List.getD_eq_getElem?_getD, List.getD_eq_getElem?_getD, hf, hg]
    show (plc l (mulM f g)).toNat = q
    rw [hq]; rfl
  exact ⟨f, g, hf, hg, by rw [e]; exact hq, by rw [e]; exact (List.getElem?_eq_some_iff.1 hlq).1⟩
end
end Go.Proofs.YtilfamenadaboaaGreat
