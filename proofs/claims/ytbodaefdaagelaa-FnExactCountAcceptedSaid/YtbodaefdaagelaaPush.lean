/- What stays of old memory; one element appended to a row of the call's own. No condition. -/
import Derived.Test.YtbodaefdaagelaaApp
namespace Go.Proofs.Ytbodaefdaagelaa
set_option linter.unusedSimpArgs false
set_option linter.unusedVariables false
set_option linter.unusedSectionVars false
open Go.RowKit
/-- the blocks of S stay as they are -/
structure Keep (S : Nat → Prop) (w w' : World) : Prop where
  os : w'.os = w.os
  tape : w'.tape = w.tape
  output : w'.output = w.output
  size : w.heap.size ≤ w'.heap.size
  block : ∀ k, k < w.heap.size → S k → w'.heap[k]? = w.heap[k]?
theorem Keep.refl (S : Nat → Prop) (w : World) : Keep S w w := ⟨rfl, rfl, rfl, Nat.le_refl _, fun _ _ _ => rfl⟩
theorem Keep.trans {S : Nat → Prop} {a b c : World} (h : Keep S a b) (k : Keep S b c) : Keep S a c :=
  ⟨k.os.trans h.os, k.tape.trans h.tape, k.output.trans h.output, Nat.le_trans h.size k.size, fun i hi hs => (k.block i (Nat.lt_of_lt_of_le hi h.size) hs).trans (h.block i hi hs)⟩
theorem Keep.mono {S S' : Nat → Prop} {w w' : World} (h : Keep S w w') (hs : ∀ k, k < w.heap.size → S' k → S k) : Keep S' w w' := ⟨h.os, h.tape, h.output, h.size, fun k hk hk' => h.block k hk (hs k hk hk')⟩
theorem kb {S : Nat → Prop} {w w' : World} (h : Below w.heap.size w w') : Keep S w w' := ⟨h.os, h.tape, h.output, h.size, fun k hk _ => h.block k hk⟩
theorem keep_grown {w w' : World} {row : Option Nat} (h : w.grownBy w' row) {S : Nat → Prop} (hs : ∀ k, row = some k → ¬ S k) : Keep S w w' := ⟨h.os, h.tape, h.output, h.size, fun k hk hk' => h.block k hk (fun e => hs k e.symm hk')⟩
theorem Keep.below {S : Nat → Prop} {w w' : World} (h : Keep S w w') {B : Nat} (hB : B ≤ w.heap.size) (hs : ∀ k, k < B → S k) : Below B w w' := ⟨h.os, h.tape, h.output, h.size, fun k hk => h.block k (Nat.lt_of_lt_of_le hk hB) (hs k hk)⟩
theorem Keep.cell {S : Nat → Prop} {w w' : World} (h : Keep S w w') {p : Addr} {v : Value} (hp : S p.block) (hv : w.cell? p = some v) : w'.cell? p = some v :=
  (World.cell?_of_block (h.block p.block (World.block_lt_of_cell? w p hv) hp)).trans hv
theorem kbelow (w : World) (o : Obj) : Below w.heap.size w (w.alloc o) := Below.alloc (Below.refl _ _) (Nat.le_refl _) o
/-- a slice's block is one of S -/
def InS (S : Nat → Prop) (A : Option Addr) : Prop := ∀ a, A = some a → S a.block
theorem InS.mono {S S' : Nat → Prop} {A : Option Addr} (h : InS S A) (hs : ∀ k, S k → S' k) : InS S' A := fun a ha => hs _ (h a ha)
theorem SeeInts.keep {S : Nat → Prop} {w w' : World} {A : Option Addr} {xs : List Int} (h : SeeInts w A xs) (hs : InS S A) (hk : Keep S w w') : SeeInts w' A xs := fun hn => by
  obtain ⟨b, o, rfl, g⟩ := h hn
  exact ⟨b, o, rfl, fun k x hx => hk.cell (p := ⟨b, _, none⟩) (hs ⟨b, o, none⟩ rfl) (g k x hx)⟩
theorem SeeMaps.keep {S : Nat → Prop} {w w' : World} {A : Option Addr} {ms : List Mp} (h : SeeMaps w A ms) (hs : InS S A) (hk : Keep S w w') : SeeMaps w' A ms := fun hn => by
  obtain ⟨b, o, rfl, g⟩ := h hn
  exact ⟨b, o, rfl, fun k x hx => by
    obtain ⟨h0, h1, h2, h3, h4, h5⟩ := g k x hx
    exact ⟨hk.cell (p := ⟨b, _, none⟩) (hs ⟨b, o, none⟩ rfl) h0, hk.cell (p := ⟨b, _, none⟩) (hs ⟨b, o, none⟩ rfl) h1, hk.cell (p := ⟨b, _, none⟩) (hs ⟨b, o, none⟩ rfl) h2, hk.cell (p := ⟨b, _, none⟩) (hs ⟨b, o, none⟩ rfl) h3, hk.cell (p := ⟨b, _, none⟩) (hs ⟨b, o, none⟩ rfl) h4, hk.cell (p := ⟨b, _, none⟩) (hs ⟨b, o, none⟩ rfl) h5⟩⟩
theorem own_keep {S : Nat → Prop} {w w' : World} {base : Nat} {e : TypeId} {size : Nat} {v : Value} {n : Nat} {xs : List Value} (h : w.ownsRow base e size v n xs) (hs : ∀ k, v.ownBlock = some k → S k) (hk : Keep S w w') : w'.ownsRow base e size v n xs := by
  refine ⟨h.1, ?_⟩
  rcases h.2 with hn | ⟨g, cap, cur, rfl, hb, hg, rest⟩
  · exact .inl hn
  · refine .inr ⟨g, cap, cur, rfl, hb, ?_, rest⟩
    rw [hk.block g (Array.getElem?_eq_some_iff.1 hg).1 (hs g rfl)]
    exact hg
theorem OwnInts.keep {S : Nat → Prop} {w w' : World} {base : Nat} {v : Value} {xs : List Int} (h : OwnInts w base v xs) (hs : ∀ k, v.ownBlock = some k → S k) (hk : Keep S w w') : OwnInts w' base v xs := own_keep h hs hk
theorem OwnInts.nil (w : World) (base : Nat) : OwnInts w base (.slice none 0 0) [] := World.ownsRow_nil _ _ _ _
theorem own_block {w : World} {base : Nat} {e : TypeId} {size : Nat} {A : Option Addr} {l c n : Nat} {xs : List Value} (h : w.ownsRow base e size (.slice A l c) n xs) : InS (fun k => base ≤ k ∧ k < w.heap.size) A := fun a ha => by
  subst ha
  exact h.lt a.block rfl
theorem OwnInts.one (w : World) (base : Nat) (hb : base ≤ w.heap.size) (x : Int) : OwnInts (w.alloc (.cells #[.int .i64 x] 2)) base (.slice (some ⟨w.heap.size, 0, none⟩) 1 1) [x] :=
  ⟨rfl, .inr ⟨w.heap.size, 1, #[.int .i64 x], rfl, hb, heap_alloc_new w _, Nat.le_refl _, by decide, rfl, rfl⟩⟩
theorem OwnInts.see' {w : World} {base : Nat} {A : Option Addr} {n c : Nat} {xs : List Int} (h : OwnInts w base (.slice A n c) xs) : SeeInts w A xs := by
  obtain ⟨A', c', e, hs⟩ := h.see
  simp only [Value.slice.injEq] at e
  obtain ⟨rfl, _, _⟩ := e
  exact hs
theorem OwnMaps.see' {w : World} {base : Nat} {A : Option Addr} {n c : Nat} {xs : List Mp} (h : OwnMaps w base (.slice A n c) xs) : SeeMaps w A xs := by
  obtain ⟨A', c', e, hs⟩ := h.see
  simp only [Value.slice.injEq] at e
  obtain ⟨rfl, _, _⟩ := e
  exact hs
theorem OwnInts.lt {w : World} {base : Nat} {v : Value} {xs : List Int} (h : OwnInts w base v xs) : ∀ k, v.ownBlock = some k → base ≤ k ∧ k < w.heap.size := World.ownsRow.lt h
theorem OwnMaps.lt {w : World} {base : Nat} {v : Value} {xs : List Mp} (h : OwnMaps w base v xs) : ∀ k, v.ownBlock = some k → base ≤ k ∧ k < w.heap.size := by
  obtain ⟨ys, h1, _⟩ := h
  exact h1.lt
theorem OwnMaps.keep {S : Nat → Prop} {w w' : World} {base : Nat} {v : Value} {xs : List Mp} (h : OwnMaps w base v xs) (hs : ∀ k, v.ownBlock = some k → S k) (hk : Keep S w w') : OwnMaps w' base v xs := by
  obtain ⟨ys, h1, h2⟩ := h
  exact ⟨ys, own_keep h1 hs hk, h2⟩
/-- out = append(out, y), out nil or the call's own -/
theorem wpList_push_int (w : World) {ops : Array Oper} {rest : List Oper} {o : Oper} {a : Act} {Q : Exit → Act → World → Prop} (hgd : o.guard = none) (s x : Operand)
    (ho : o.op = .call { callee := .builtin .append, args := #[s, x], argTypes := #[23, 23] })
    (base : Nat) (v : Value) (xs : List Int) (hs : a.eval s = v) (hown : OwnInts w base v xs) (ad : Addr) (y : Int) (hx : a.eval x = .slice (some ad) 1 1) (hy : w.cell? ad = some (.int .i64 y))
    (hn : xs.length ≤ 4294967296) (hbase : base ≤ w.heap.size)
    (hK : ∀ v' w', OwnInts w' base v' (xs ++ [y]) → w.grownBy w' v.ownBlock → (v'.ownBlock = v.ownBlock ∨ v'.ownBlock = some w.heap.size) → wpList Try.prog ops Q rest (a.put o.dst v') w') : wpList Try.prog ops Q (o :: rest) a w := by
  obtain ⟨i0, hi, hz0, hz1, hz2⟩ := info_parts info_int
  refine wpList_append_see w hgd s x 23 ho base 2 i0 (.int .i64 0) 1 8 Try.underlying23 hi hz0 hz1 hz2 rfl (by decide) v xs.length (xs.map (Value.int .i64)) hs hown (some ad) 1 1 [.int .i64 y] hx rfl
    (.inr ⟨ad, rfl, fun j u hj => ?_⟩) (fun u hu => by simp at hu; subst hu; rfl) (by unfold maxLen; omega) (by omega) hbase (fun v' w' h1 h2 h3 => hK v' w' ?_ h2 h3)
  · match j, hj with
    | 0, hj => simp at hj; subst hj; rw [show ad.add 0 = ad by cases ad; unfold Addr.add; split <;> simp_all]; exact hy
  · show w'.ownsRow base 2 1 v' (xs ++ [y]).length ((xs ++ [y]).map (Value.int .i64))
    rw [List.length_append, List.map_append]
    exact h1
end Go.Proofs.Ytbodaefdaagelaa
