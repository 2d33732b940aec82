/- One map, or one slice, appended to a row of the call's own; a copy of a row of maps. No condition. -/
import Derived.Test.YtilfamenadaboaaGreatConcat
import Derived.Test.YtilfamenadaboaaGreatSls
import Derived.Test.YtilfamenadaboaaGreatFuncs
import Derived.Test.YtilfamenadaboaaGreatMul
namespace Go.Proofs.YtilfamenadaboaaGreat
set_option linter.unusedSimpArgs false
set_option linter.unusedVariables false
set_option linter.unusedSectionVars false
open Go.RowKit
/-- out = append(out, m), out nil or the call's own -/
theorem wpList_push_map (w : World) {ops : Array Oper} {rest : List Oper} {o : Oper} {a : Act} {Q : Exit → Act → World → Prop} (hgd : o.guard = none) (s x : Operand)
    (ho : o.op = .call { callee := .builtin .append, args := #[s, x], argTypes := #[24, 24] })
    (base : Nat) (v : Value) (xs : List Mp) (hs : a.eval s = v) (hown : OwnMaps w base v xs) (b : Nat) (m : Mp) (hx : a.eval x = .slice (some ⟨b, 0, none⟩) 1 1) (hy : MpBox w b m)
    (hn : xs.length ≤ 2097152) (hbase : base ≤ w.heap.size)
    (hK : ∀ v' w', OwnMaps w' base v' (xs ++ [m]) → w.grownBy w' v.ownBlock → (v'.ownBlock = v.ownBlock ∨ v'.ownBlock = some w.heap.size) → wpList Tryz.prog ops Q rest (a.put o.dst v') w') : wpList Tryz.prog ops Q (o :: rest) a w := by
  obtain ⟨i0, hi, hz0, hz1, hz2⟩ := info_parts info_map
  obtain ⟨ys, h1, h2⟩ := hown
  have hsee : SeeMaps w (some ⟨b, 0, none⟩) [m] := fun _ => ⟨b, 0, rfl, fun k f hk => by
    match k with
    | 0 => simp at hk; subst hk; exact hy.at
    | k + 1 => simp at hk⟩
  have hc := hsee.cells (c := 1) (fun h => by cases h)
  refine wpList_append_see w hgd s x 24 ho base 27 i0 _ 6 48 Tryz.underlying24 hi hz0 hz1 hz2 rfl (by decide) v xs.length ys hs h1 (some ⟨b, 0, none⟩) 1 1 (cellsOf [m]) hx rfl
    hc (cellsOf_one _) (by unfold maxLen; omega) (by omega) hbase (fun v' w' h3 h4 h5 => hK v' w' ⟨_, by rw [List.length_append]; exact h3, h2.append (repCells [m])⟩ h4 h5)
theorem step_push_map (w : World) {ops : Array Oper} {o : Oper} {a : Act} {K : Act → World → Prop} {Q : Exit → Act → World → Prop} {E : Prop} (hgd : o.guard = none) (s x : Operand)
    (ho : o.op = .call { callee := .builtin .append, args := #[s, x], argTypes := #[24, 24] })
    (base : Nat) (v : Value) (xs : List Mp) (hs : a.eval s = v) (hown : OwnMaps w base v xs) (b : Nat) (m : Mp) (hx : a.eval x = .slice (some ⟨b, 0, none⟩) 1 1) (hy : MpBox w b m)
    (hn : xs.length ≤ 2097152) (hbase : base ≤ w.heap.size)
    (hK : ∀ v' w', OwnMaps w' base v' (xs ++ [m]) → w.grownBy w' v.ownBlock → (v'.ownBlock = v.ownBlock ∨ v'.ownBlock = some w.heap.size) → K (a.put o.dst v') w') : if Region.wanted o (yielded ops a.tmps) = true then Oper.wp Tryz.prog o a w K Q else E := by
  obtain ⟨i0, hi, hz0, hz1, hz2⟩ := info_parts info_map
  obtain ⟨ys, h1, h2⟩ := hown
  have hsee : SeeMaps w (some ⟨b, 0, none⟩) [m] := fun _ => ⟨b, 0, rfl, fun k f hk => by
    match k with
    | 0 => simp at hk; subst hk; exact hy.at
    | k + 1 => simp at hk⟩
  have hc := hsee.cells (c := 1) (fun h => by cases h)
  refine step_append_see w hgd s x 24 ho base 27 i0 _ 6 48 Tryz.underlying24 hi hz0 hz1 hz2 rfl (by decide) v xs.length ys hs h1 (some ⟨b, 0, none⟩) 1 1 (cellsOf [m]) hx rfl
    hc (cellsOf_one _) (by unfold maxLen; omega) (by omega) hbase (fun v' w' h3 h4 h5 => hK v' w' ⟨_, by rw [List.length_append]; exact h3, h2.append (repCells [m])⟩ h4 h5)
theorem step_push_sl (w : World) {ops : Array Oper} {o : Oper} {a : Act} {K : Act → World → Prop} {Q : Exit → Act → World → Prop} {E : Prop} (hgd : o.guard = none) (s x : Operand)
    (ho : o.op = .call { callee := .builtin .append, args := #[s, x], argTypes := #[61, 61] })
    (base : Nat) (v : Value) (xs : List Sl) (hs : a.eval s = v) (hown : OwnSls w base v xs) (ad : Addr) (y : Sl) (hx : a.eval x = .slice (some ad) 1 1) (hy : w.cell? ad = some (.slice y.A y.xs.length y.c))
    (hn : xs.length ≤ 4294967296) (hbase : base ≤ w.heap.size)
    (hK : ∀ v' w', OwnSls w' base v' (xs ++ [y]) → w.grownBy w' v.ownBlock → (v'.ownBlock = v.ownBlock ∨ v'.ownBlock = some w.heap.size) → K (a.put o.dst v') w') : if Region.wanted o (yielded ops a.tmps) = true then Oper.wp Tryz.prog o a w K Q else E := by
  obtain ⟨i0, hi, hz0, hz1, hz2⟩ := info_parts info_sl
  refine step_append_see w hgd s x 61 ho base 103 i0 (.slice none 0 0) 1 24 Tryz.underlying61 hi hz0 hz1 hz2 rfl (by decide) v xs.length (xs.map Sl.v) hs hown (some ad) 1 1 [y.v] hx rfl
    (.inr ⟨ad, rfl, fun j u hj => ?_⟩) (fun u hu => by simp at hu; subst hu; rfl) (by unfold maxLen; omega) (by omega) hbase (fun v' w' h1 h2 h3 => hK v' w' ?_ h2 h3)
  · match j, hj with
    | 0, hj => simp at hj; subst hj; rw [show ad.add 0 = ad by cases ad; unfold Addr.add; split <;> simp_all]; exact hy
  · show w'.ownsRow base 103 1 v' (xs ++ [y]).length ((xs ++ [y]).map Sl.v)
    rw [List.length_append, List.map_append]
    exact h1
set_option maxHeartbeats 1000000 in
set_option maxRecDepth 100000 in
theorem CloneM_c (ad : Addr) (c : Nat) (xs : List Mp) (w : World) (h : SeeMaps w (some ad) xs) (hn : xs.length ≤ 2097152) :
    Calls Tryz.prog 113 #[.slice (some ad) xs.length c] w fun e w' => ∃ v, e = .returned v ∧ OwnMaps w' w.heap.size v xs ∧ Below w.heap.size w w' := by
  obtain ⟨i0, hi, hz0, hz1, hz2⟩ := info_parts info_map
  have k0 : Below w.heap.size w (w.alloc (.cells #[] 27)) := by go_grown
  have hs := (h.below k0).cells (c := c) (fun h => by cases h)
  have he : ∀ w : World, (binOp .eql 24 (.slice (some ad) xs.length c) (.slice none 0 0)).run Tryz.prog w = .ok (.bool false) w := fun _ => rfl
  have ho : (w.alloc (.cells #[] 27)).ownsRow w.heap.size 27 6 (.slice (some ⟨w.heap.size, 0, none⟩) 0 0) 0 [] := World.ownsRow_made w #[] 0 (Nat.le_refl _) (by decide) rfl
  have hl := (repCells xs).len
  have HL := Lib.hid hl
  have H1 := Lib.hid (cellsOf_one xs)
  have HR := Lib.hid (repCells xs)
  clear hl
  generalize cellsOf xs = ys at *
  go_enter Tryz.func113, Tryz.ntmps113
  go_wp2_with (at_builtin; refine wpList_append_see _ rfl (.tmp 5) (.tmp 6) 24 rfl w.heap.size 27 i0 _ 6 48 Tryz.underlying24 hi hz0 hz1 hz2 rfl (by decide) _ 0 [] rfl ho (some ad) xs.length c ys rfl HL.out hs H1.out (by unfold maxLen; omega) (by omega) (by go_size) ?_; intro v' w1 hown' hgrow hv')
  have hb1 : Below w.heap.size w w1 := k0.grown hgrow (by simp) (fun j hj => by obtain rfl := Option.some.inj hj; exact Nat.le_refl _)
  rw [Nat.zero_add, List.nil_append] at hown'
  go_wp2
  go_returns
  exact ⟨_, rfl, ⟨ys, hown', HR.out⟩, hb1⟩
theorem wpList_cat_map (w : World) {ops : Array Oper} {rest : List Oper} {o : Oper} {a : Act} {Q : Exit → Act → World → Prop} (hgd : o.guard = none) (s x : Operand)
    (ho : o.op = .call { callee := .builtin .append, args := #[s, x], argTypes := #[24, 24] })
    (base : Nat) (v : Value) (xs ys : List Mp) (hs : a.eval s = v) (hown : OwnMaps w base v xs) (ad : Addr) (c : Nat) (hx : a.eval x = .slice (some ad) ys.length c) (hy : SeeMaps w (some ad) ys)
    (hn : xs.length + ys.length ≤ 2097152) (hbase : base ≤ w.heap.size)
    (hK : ∀ v' w', OwnMaps w' base v' (xs ++ ys) → w.grownBy w' v.ownBlock → (v'.ownBlock = v.ownBlock ∨ v'.ownBlock = some w.heap.size) → wpList Tryz.prog ops Q rest (a.put o.dst v') w') : wpList Tryz.prog ops Q (o :: rest) a w := by
  obtain ⟨i0, hi, hz0, hz1, hz2⟩ := info_parts info_map
  obtain ⟨zs, h1, h2⟩ := hown
  have hc := hy.cells (c := c) (fun h => by cases h)
  refine wpList_append_see w hgd s x 24 ho base 27 i0 _ 6 48 Tryz.underlying24 hi hz0 hz1 hz2 rfl (by decide) v xs.length zs hs h1 (some ad) ys.length c (cellsOf ys) hx (repCells ys).len
    hc (cellsOf_one _) (by unfold maxLen; omega) (by omega) hbase (fun v' w' h3 h4 h5 => hK v' w' ⟨_, by rw [List.length_append]; exact h3, h2.append (repCells ys)⟩ h4 h5)
end Go.Proofs.YtilfamenadaboaaGreat
