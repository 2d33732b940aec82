/- 'slices.Grow' and 'slices.Concat' at maps: what they make. No condition. -/
import Derived.Test.YthadgdmooacccaaBase
import Derived.Test.YthadgdmooacccaaIsMap
namespace Go.Proofs.Ythadgdmooacccaa
set_option linter.unusedSimpArgs false
set_option linter.unusedVariables false
set_option linter.unusedSectionVars false
open Go.RowKit
set_option maxHeartbeats 1000000 in
set_option maxRecDepth 100000 in
theorem Grow_c (n : Nat) (w : World) (hn : n ≤ 4194304) :
    Calls Try.prog 123 #[.slice none 0 0, .int .i64 n] w fun e w' => ∃ v, e = .returned v ∧ OwnMaps w' w.heap.size v [] ∧ Below w.heap.size w w' := by
  obtain ⟨i, hi, hz0, hz1, hz2⟩ := info_parts info_map
  by_cases h : 0 < n
  · go_enter Try.func123, Try.ntmps123
    go_wp2_with (at_builtin; refine wpList_append_nil_zeros _ rfl _ _ 27 3 rfl w.heap.size 61 i _ 6 48 Try.underlying27 Try.underlying3 hi hz0 hz1 hz2 rfl (by decide) (by decide) _ n rfl rfl h (by omega) (Nat.le_refl _) ?_)
    intro cap w1 hcap hown hg
    go_wp2
    go_returns
    exact ⟨_, rfl, ⟨[], hown, ⟨rfl, fun k m hk => by simp at hk⟩⟩, (Below.refl _ _).grown hg (Nat.le_refl _) (fun k h => by cases h)⟩
  · obtain rfl : n = 0 := by omega
    go_enter Try.func123, Try.ntmps123
    go_wp2
    go_returns
    exact ⟨_, rfl, ⟨[], World.ownsRow_nil _ _ _ _, ⟨rfl, fun k m hk => by simp at hk⟩⟩, Below.refl _ _⟩
theorem RepMaps.append {xs ys : List Value} {ms ns : List Mp} (h : RepMaps xs ms) (k : RepMaps ys ns) : RepMaps (xs ++ ys) (ms ++ ns) := by
  have hl := h.len
  have kl := k.len
  refine ⟨by rw [List.length_append, List.length_append, hl, kl, Nat.add_mul], fun j m hj => ?_⟩
  by_cases hlt : j < ms.length
  · rw [List.getElem?_append_left hlt] at hj
    have := h.at_ j m hj
    rw [List.getElem?_append_left (by omega), List.getElem?_append_left (by omega), List.getElem?_append_left (by omega), List.getElem?_append_left (by omega), List.getElem?_append_left (by omega), List.getElem?_append_left (by omega)]
    exact this
  · rw [List.getElem?_append_right (by omega)] at hj
    have := k.at_ _ m hj
    rw [List.getElem?_append_right (by omega), List.getElem?_append_right (by omega), List.getElem?_append_right (by omega), List.getElem?_append_right (by omega), List.getElem?_append_right (by omega), List.getElem?_append_right (by omega)]
    rw [show j * 6 - xs.length = (j - ms.length) * 6 by omega, show j * 6 + 1 - xs.length = (j - ms.length) * 6 + 1 by omega, show j * 6 + 2 - xs.length = (j - ms.length) * 6 + 2 by omega, show j * 6 + 3 - xs.length = (j - ms.length) * 6 + 3 by omega, show j * 6 + 4 - xs.length = (j - ms.length) * 6 + 4 by omega, show j * 6 + 5 - xs.length = (j - ms.length) * 6 + 5 by omega]
    exact this
/-- the cells of a map, of a list of maps -/
def Mp.cells (m : Mp) : List Value := [.int .i64 m.p, .int .i64 m.a, .int .i64 m.b, .int .i64 m.c, .int .i64 m.d, .int .i64 m.e]
def cellsOf (ms : List Mp) : List Value := ms.flatMap Mp.cells
theorem cellsOf_one (ms : List Mp) : ∀ u ∈ cellsOf ms, u.oneCell' = true := by
  intro u hu
  simp only [cellsOf, List.mem_flatMap, Mp.cells] at hu
  obtain ⟨m, _, hu⟩ := hu
  simp only [List.mem_cons, List.not_mem_nil, or_false] at hu
  rcases hu with rfl | rfl | rfl | rfl | rfl | rfl <;> rfl
theorem RepMaps.of_cells (m : Mp) : RepMaps m.cells [m] := ⟨rfl, fun k m' hk => by
  match k with
  | 0 => simp at hk; subst hk; simp [Mp.cells]
  | k + 1 => simp at hk⟩
theorem repCells (ms : List Mp) : RepMaps (cellsOf ms) ms := by
  induction ms with
  | nil => exact ⟨rfl, fun k m hk => by simp at hk⟩
  | cons m ms ih => exact RepMaps.append (RepMaps.of_cells m) ih
/-- two lists of cells that stand for the same maps are the same -/
theorem RepMaps.unique {xs ys : List Value} {ms : List Mp} (h : RepMaps xs ms) (k : RepMaps ys ms) : xs = ys := List.ext_getElem? fun j => by
  by_cases hj : j < ms.length * 6
  · obtain ⟨m, hm⟩ := el (show j / 6 < ms.length by omega)
    obtain ⟨a0, a1, a2, a3, a4, a5⟩ := h.at_ _ m hm
    obtain ⟨b0, b1, b2, b3, b4, b5⟩ := k.at_ _ m hm
    rcases (by omega : j = j / 6 * 6 ∨ j = j / 6 * 6 + 1 ∨ j = j / 6 * 6 + 2 ∨ j = j / 6 * 6 + 3 ∨ j = j / 6 * 6 + 4 ∨ j = j / 6 * 6 + 5) with e | e | e | e | e | e
    · rw [e]; exact a0.trans b0.symm
    · rw [e]; exact a1.trans b1.symm
    · rw [e]; exact a2.trans b2.symm
    · rw [e]; exact a3.trans b3.symm
    · rw [e]; exact a4.trans b4.symm
    · rw [e]; exact a5.trans b5.symm
  · rw [List.getElem?_eq_none (by rw [h.len]; omega), List.getElem?_eq_none (by rw [k.len]; omega)]
theorem SeeMaps.cells {w : World} {A : Option Addr} {c : Nat} {ms : List Mp} (h : SeeMaps w A ms) (hA : A = none → c = 0) : SeeCells w A c (cellsOf ms) := by
  by_cases hn : ms = []
  · subst hn
    cases A with
    | none => exact .inl ⟨rfl, hA rfl, rfl⟩
    | some a => exact .inr ⟨a, rfl, fun j u hj => by simp [cellsOf] at hj⟩
  · obtain ⟨b, o, rfl, g⟩ := h hn
    refine .inr ⟨_, rfl, fun j u hj => ?_⟩
    rw [add_lit]
    have hl := (repCells ms).len
    have hj' : j < ms.length * 6 := by rw [← hl]; exact (List.getElem?_eq_some_iff.1 hj).1
    obtain ⟨m, hm⟩ := el (show j / 6 < ms.length by omega)
    obtain ⟨a0, a1, a2, a3, a4, a5⟩ := (repCells ms).at_ _ m hm
    obtain ⟨c0, c1, c2, c3, c4, c5⟩ := g _ m hm
    rcases (by omega : j = j / 6 * 6 ∨ j = j / 6 * 6 + 1 ∨ j = j / 6 * 6 + 2 ∨ j = j / 6 * 6 + 3 ∨ j = j / 6 * 6 + 4 ∨ j = j / 6 * 6 + 5) with e | e | e | e | e | e
    · rw [e] at hj ⊢; exact c0.trans (a0.symm.trans hj)
    · rw [e] at hj ⊢; rw [← Nat.add_assoc]; exact c1.trans (a1.symm.trans hj)
    · rw [e] at hj ⊢; rw [← Nat.add_assoc]; exact c2.trans (a2.symm.trans hj)
    · rw [e] at hj ⊢; rw [← Nat.add_assoc]; exact c3.trans (a3.symm.trans hj)
    · rw [e] at hj ⊢; rw [← Nat.add_assoc]; exact c4.trans (a4.symm.trans hj)
    · rw [e] at hj ⊢; rw [← Nat.add_assoc]; exact c5.trans (a5.symm.trans hj)
set_option maxHeartbeats 2000000 in
set_option maxRecDepth 100000 in
theorem Concat_c (b : Nat) (A A' : Option Addr) (c c' : Nat) (ms ms' : List Mp) (w : World) (hn : ms.length ≤ 2097152) (hn' : ms'.length ≤ 2097152) (h : SeeMaps w A ms) (h' : SeeMaps w A' ms') (hA : NilOk A c) (hA' : NilOk A' c')
    (g0 : w.cell? ⟨b, 0, none⟩ = some (.slice A ms.length c)) (g1 : w.cell? ⟨b, 1, none⟩ = some (.slice A' ms'.length c')) :
    Calls Try.prog 106 #[.slice (some ⟨b, 0, none⟩) 2 2] w fun e w' => ∃ v, e = .returned v ∧ OwnMaps w' w.heap.size v (ms ++ ms') ∧ Below w.heap.size w w' := by
  obtain ⟨i, hi, hz0, hz1, hz2⟩ := info_parts info_map
  go_enter Try.func106, Try.ntmps106
  go_wp2
  refine wp_loop_rounds 3 ?_
  rw [rounds_succ]
  go_wp2
  rw [rounds_succ]
  go_wp2
  rw [rounds_succ]
  go_wp2_with fail
  have hG := Grow_c (ms.length + ms'.length) w (by omega)
  rw [Int.natCast_add] at hG
  refine hG.mono ?_
  clear hG
  rintro e w1 ⟨v, rfl, ⟨xs, hown, hx⟩, hb1⟩
  have q0 := bcell hb1 g0
  have q1 := bcell hb1 g1
  have G1 := Lib.hid g1
  clear g0 g1
  go_wp2
  refine wp_loop_rounds 3 ?_
  rw [rounds_succ]
  go_wp2_with (at_builtin; refine wpList_append_see _ rfl _ _ 27 rfl w.heap.size 61 i _ 6 48 Try.underlying27 hi hz0 hz1 hz2 rfl (by decide) v 0 xs rfl hown A ms.length c (cellsOf ms) rfl (repCells ms).len ((h.below hb1).cells hA) (cellsOf_one ms) (by unfold maxLen; omega) (by omega) hb1.size ?_)
  intro v2 w2 hown2 hg2 _
  have hb2 : Below w.heap.size w w2 := hb1.grown hg2 hb1.size (fun k hk => (hown.lt k hk).1)
  clear q0 q1 hown hg2
  have q1 := bcell hb2 G1.out
  go_wp2
  rw [rounds_succ]
  go_wp2_with (at_builtin; go_must (refine wpList_append_see _ rfl _ _ 27 rfl w.heap.size 61 i _ 6 48 Try.underlying27 hi hz0 hz1 hz2 rfl (by decide) v2 ms.length _ rfl hown2 A' ms'.length c' (cellsOf ms') rfl (repCells ms').len ((h'.below hb2).cells hA') (cellsOf_one ms') (by unfold maxLen; omega) (by omega) hb2.size ?_))
  intro v3 w3 hown3 hg3 _
  have hb3 : Below w.heap.size w w3 := hb2.grown hg3 hb2.size (fun k hk => (hown2.lt k hk).1)
  go_wp2
  rw [rounds_succ]
  go_wp2
  go_returns
  have h0 : xs = [] := List.eq_nil_of_length_eq_zero (by simpa using hx.len)
  subst h0
  refine ⟨_, rfl, ⟨_, ?_, RepMaps.append (repCells ms) (repCells ms')⟩, hb3⟩
  rw [List.length_append]
  simpa using hown3
end Go.Proofs.Ythadgdmooacccaa
