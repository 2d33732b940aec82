/- What the program tells of an element: whether it is regular, its inverses, whether it is below another one, with which it commutes. No condition. -/
import Derived.Test.YtjepmbjneccagaaGreatMonoidOf
namespace Go.Proofs.YtjepmbjneccagaaGreat
open Go.RowKit
/-- elements in order, closed under products -/
structure Clo (l : List Mp) (n : Int) : Prop where
  asc : AscM l
  all : ∀ f ∈ l, MpN f n
  mul : ∀ f ∈ l, ∀ g ∈ l, mulM f g ∈ l
  len : l.length ≤ 300
theorem MonR.clo {ms ms' : List Mp} (h : MonR ms ms') : Clo (elsOf ms) (ptsL ms) := ⟨h.asc, h.all, fun _ hf _ hg => h.mul hf hg, h.len⟩
section
variable {l : List Mp} {n : Int}
theorem Clo.get (h : Clo l n) {i : Nat} {f : Mp} (hi : l[i]? = some f) : f ∈ l ∧ MpN f n := ⟨List.mem_of_getElem? hi, h.all f (List.mem_of_getElem? hi)⟩
/-- the product of two elements, as a place -/
theorem Clo.prod (h : Clo l n) {i k : Nat} {f g : Mp} (hi : l[i]? = some f) (hk : l[k]? = some g) : ∃ q : Nat, plc l (mulM f g) = q ∧ l[q]? = some (mulM f g) := plc_mem h.asc (h.mul f (h.get hi).1 g (h.get hk).1)
theorem Clo.same (h : Clo l n) {i k : Nat} {f g : Mp} (hi : l[i]? = some f) (hk : l[k]? = some g) : ((i : Int) == (k : Int)) = decide (f = g) := by
  by_cases e : f = g
  · subst e
    rw [h.asc.idx hi hk]
    simp
  · rw [decide_eq_false e]
    refine beq_eq_false_iff_ne.2 fun e2 => e ?_
    obtain rfl : i = k := by omega
    rw [hi] at hk
    exact Option.some.inj hk
theorem Clo.call (h : Clo l n) {M i k : Nat} {f g : Mp} {w : World} (mon : MonAt w M l n) (hi : l[i]? = some f) (hk : l[k]? = some g) : ∃ q : Nat, l[q]? = some (mulM f g) ∧ ∀ x : BW w, Calls Tryz.prog 111 #[.pointer (some ⟨M, 0, none⟩), .int .i64 i, .int .i64 k] x.1 fun e w' => e = .returned (.int .i64 (q : Int)) ∧ Below x.1.heap.size x.1 w' := by
  obtain ⟨q, hq, hlq⟩ := h.prod hi hk
  refine ⟨q, hlq, fun x => ?_⟩
  have := product_c M l n i k f g x.1 (mon.below x.2) h.len hi hk (h.get hi).2 (h.get hk).2
  rw [hq] at this
  exact this
end
def regB (l : List Mp) (f : Mp) : Bool := l.any fun g => decide (mulM (mulM f g) f = f)
def invB (f g : Mp) : Bool := decide (mulM (mulM f g) f = f) && decide (mulM g (mulM f g) = g)
def comB (f g : Mp) : Bool := decide (mulM f g = mulM g f)
def idemB (f : Mp) : Bool := decide (mulM f f = f)
section
variable {l : List Mp} {n : Int} {M i bm bf : Nat} {f : Mp} {w : World}
end
/-! The place of a product, by the places of its factors. -/
/-- the place of a product -/
def mpl (l : List Mp) (i k : Nat) : Nat := (plc l (mulM (l.getD i Mp.z) (l.getD k Mp.z))).toNat
section
variable {l : List Mp} {n : Int}
theorem mpl_at (hc : Clo l n) {i k : Nat} (hi : i < l.length) (hk : k < l.length) : ∃ f g, l[i]? = some f ∧ l[k]? = some g ∧ plc l (mulM f g) = (mpl l i k : Int) ∧ mpl l i k < l.length := by
  obtain ⟨f, hf⟩ := el hi
  obtain ⟨g, hg⟩ := el hk
  obtain ⟨q, hq, hlq⟩ := hc.prod hf hg
  have e : mpl l i k = q := by
    unfold mpl
    rw [List.getD_eq_getElem?_getD, List.getD_eq_getElem?_getD, hf, hg]
    show (plc l (mulM f g)).toNat = q
    rw [hq]; rfl
  exact ⟨f, g, hf, hg, by rw [e]; exact hq, by rw [e]; exact (List.getElem?_eq_some_iff.1 hlq).1⟩
end
end Go.Proofs.YtjepmbjneccagaaGreat
