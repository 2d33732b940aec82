/- The pushes as steps of a region that draws its order. No condition. -/
import Derived.Test.YtbodaefdaagelaaSearchParts
import Derived.Test.YtbodaefdaagelaaStep
namespace Go.Proofs.Ytbodaefdaagelaa
set_option linter.unusedSimpArgs false
set_option linter.unusedVariables false
set_option linter.unusedSectionVars false
open Go.RowKit
theorem step_push_met (w : World) {ops : Array Oper} {o : Oper} {a : Act} {K : Act → World → Prop} {Q : Exit → Act → World → Prop} {E : Prop} (hgd : o.guard = none) (s x : Operand)
    (ho : o.op = .call { callee := .builtin .append, args := #[s, x], argTypes := #[136, 136] })
    (base : Nat) (v : Value) (xs : List Mt) (hs : a.eval s = v) (hown : OwnMets w base v xs) (b : Nat) (m : Mt) (hx : a.eval x = .slice (some ⟨b, 0, none⟩) 1 1) (h0 : w.cell? ⟨b, 0, none⟩ = some (.slice m.A m.pts.length m.c)) (h1 : w.cell? ⟨b, 1, none⟩ = some (.slice m.B m.word.length m.d))
    (hn : xs.length ≤ 4294967296) (hbase : base ≤ w.heap.size)
    (hK : ∀ v' w', OwnMets w' base v' (xs ++ [m]) → w.grownBy w' v.ownBlock → (v'.ownBlock = v.ownBlock ∨ v'.ownBlock = some w.heap.size) → K (a.put o.dst v') w') : if Region.wanted o (yielded ops a.tmps) = true then Oper.wp Try.prog o a w K Q else E := by
  obtain ⟨i0, hi, hz0, hz1, hz2⟩ := info_parts info_met
  refine step_append_see w hgd s x 136 ho base 119 i0 (.agg #[.slice none 0 0, .slice none 0 0]) 2 48 Try.underlying136 hi hz0 hz1 hz2 rfl (by decide) v xs.length (xs.flatMap Mt.cells) hs hown (some ⟨b, 0, none⟩) 1 1 m.cells hx rfl
    (.inr ⟨⟨b, 0, none⟩, rfl, fun j u hj => ?_⟩) (fun u hu => by simp [Mt.cells] at hu; rcases hu with rfl | rfl <;> rfl) (by unfold maxLen; omega) (by omega) hbase (fun v' w' k1 k2 k3 => hK v' w' ?_ k2 k3)
  · rw [add_lit, Nat.zero_add]
    match j, hj with
    | 0, hj => simp [Mt.cells] at hj; subst hj; exact h0
    | 1, hj => simp [Mt.cells] at hj; subst hj; exact h1
  · show w'.ownsRow base 119 2 v' (xs ++ [m]).length ((xs ++ [m]).flatMap Mt.cells)
    rw [List.length_append, List.flatMap_append]
    simpa using k1
end Go.Proofs.Ytbodaefdaagelaa
