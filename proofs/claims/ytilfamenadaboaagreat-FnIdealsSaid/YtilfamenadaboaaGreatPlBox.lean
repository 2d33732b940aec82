/- A monoid's block: its elements, its words, the places of maps by their numbers. No condition. -/
import Derived.Test.YtilfamenadaboaaGreatCmpM
import Derived.Test.YtilfamenadaboaaGreatBase
namespace Go.Proofs.YtilfamenadaboaaGreat
set_option linter.unusedSimpArgs false
set_option linter.unusedVariables false
set_option linter.unusedSectionVars false
open Go.RowKit
def PlBox (w : World) (M : Nat) (v0 v1 : Value) (pl : Nat → Int) : Prop := ∃ cs t, w.heap[M]? = some (.cells cs t (0, 0)) ∧ t = 64 ∧ cs.size = 3127 ∧ cs[0]? = some v0 ∧ cs[1]? = some v1 ∧ ∀ i, i < 3125 → cs[2 + i]? = some (.int .i64 (pl i))
def Zs (n : Nat) : List Value := List.replicate n (.int .i64 0)
def Ys (n : Nat) : List Value := .slice none 0 0 :: .slice none 0 0 :: Zs n
theorem zs_app {a b : List Value} {m n : Nat} (ha : a = Zs m) (hb : b = Zs n) : a.append b = Zs (m + n) := by
  subst ha; subst hb
  show List.replicate _ _ ++ List.replicate _ _ = _
  rw [List.replicate_append_replicate]; rfl
theorem ys_app {a b : List Value} {m n : Nat} (ha : a = Ys m) (hb : b = Zs n) : a.append b = Ys (m + n) := by
  subst ha; subst hb
  show _ :: _ :: (List.replicate _ _ ++ List.replicate _ _) = _
  rw [List.replicate_append_replicate]; rfl
set_option maxRecDepth 100000 in
theorem zero_list : ∃ n, Tryz.zeroCells64.toList = Ys n ∧ n = 3125 := by
  apply Exists.intro
  apply And.intro
  · unfold Tryz.zeroCells64
    change List.append _ _ = Ys _
    repeat' (first | apply ys_app | apply zs_app | exact (rfl : _ = Ys 46) | exact (rfl : _ = Ys 47)| exact (rfl : _ = Ys 48) | exact (rfl : _ = Zs 48) | exact (rfl : _ = Zs 49) | exact (rfl : _ = Zs 50))
  · decide
section
variable {w : World} {M : Nat} {v0 v1 : Value} {pl : Nat → Int}
theorem PlBox.new (w : World) : PlBox (w.alloc (.cells Tryz.zeroCells64 64)) w.heap.size (.slice none 0 0) (.slice none 0 0) (fun _ => 0) := by
  obtain ⟨n, e, rfl⟩ := zero_list
  have ez : Tryz.zeroCells64 = (Ys 3125).toArray := by rw [← e]
  refine ⟨_, _, heap_alloc_new w _, rfl, ?_, ?_, ?_, fun i hi => ?_⟩
  · rw [ez, List.size_toArray, Ys, List.length_cons, List.length_cons, Zs, List.length_replicate]
  · rw [ez]; simp [Ys]
  · rw [ez]; simp [Ys]
  · rw [ez, List.getElem?_toArray, Ys, Nat.add_comm 2 i, List.getElem?_cons_succ, List.getElem?_cons_succ, Zs, List.getElem?_replicate, if_pos hi]
theorem PlBox.lt (h : PlBox w M v0 v1 pl) : M < w.heap.size := by
  obtain ⟨cs, t, h, _⟩ := h
  exact (Array.getElem?_eq_some_iff.1 h).1
theorem PlBox.keep {S : Nat → Prop} {w1 : World} (h : PlBox w M v0 v1 pl) (hs : S M) (hk : Keep S w w1) : PlBox w1 M v0 v1 pl := by
  have hl := h.lt
  obtain ⟨cs, t, h, r⟩ := h
  exact ⟨cs, t, (hk.block M hl hs).trans h, r⟩
theorem PlBox.below {w1 : World} (h : PlBox w M v0 v1 pl) (hb : Below w.heap.size w w1) : PlBox w1 M v0 v1 pl := h.keep (S := fun _ => True) trivial (kb hb)
theorem PlBox.c0 (h : PlBox w M v0 v1 pl) : w.cell? ⟨M, 0, none⟩ = some v0 := by
  obtain ⟨cs, t, h, _, _, h0, _⟩ := h
  rw [cell_of_row w M 0 _ t (0, 0) h]
  exact h0
theorem PlBox.c1 (h : PlBox w M v0 v1 pl) : w.cell? ⟨M, 1, none⟩ = some v1 := by
  obtain ⟨cs, t, h, _, _, _, h1, _⟩ := h
  rw [cell_of_row w M 1 _ t (0, 0) h]
  exact h1
theorem PlBox.cp (h : PlBox w M v0 v1 pl) {i : Nat} (hi : i < 3125) : w.cell? ⟨M, 2 + i, none⟩ = some (.int .i64 (pl i)) := by
  obtain ⟨cs, t, h, _, _, _, _, hp⟩ := h
  rw [cell_of_row w M (2 + i) _ t (0, 0) h]
  exact hp i hi
theorem PlBox.free (h : PlBox w M v0 v1 pl) (j : Nat) : w.frozen? ⟨M, j, none⟩ = false := by
  obtain ⟨cs, t, h, _⟩ := h
  exact frozen_of_row w M j _ t h
theorem PlBox.far (h : PlBox w M v0 v1 pl) {a : Addr} (ha : M ≠ a.block) (u : Value) : PlBox (w.setCell a u) M v0 v1 pl := by
  obtain ⟨cs, t, h, r⟩ := h
  exact ⟨cs, t, (heap_setCell_other w a M u ha).trans h, r⟩
theorem PlBox.put0 (h : PlBox w M v0 v1 pl) (v : Value) : PlBox (w.setCell ⟨M, 0, none⟩ v) M v v1 pl := by
  obtain ⟨cs, t, h, ht, hs, h0, h1, hp⟩ := h
  refine ⟨_, t, heap_setCell_same w M 0 _ t v h, ht, by simpa using hs, ?_, ?_, fun i hi => ?_⟩
  · simp [hs]
  · rw [Array.getElem?_setIfInBounds_ne (by omega)]; exact h1
  · rw [Array.getElem?_setIfInBounds_ne (by omega)]; exact hp i hi
theorem PlBox.put1 (h : PlBox w M v0 v1 pl) (v : Value) : PlBox (w.setCell ⟨M, 1, none⟩ v) M v0 v pl := by
  obtain ⟨cs, t, h, ht, hs, h0, h1, hp⟩ := h
  refine ⟨_, t, heap_setCell_same w M 1 _ t v h, ht, by simpa using hs, ?_, ?_, fun i hi => ?_⟩
  · rw [Array.getElem?_setIfInBounds_ne (by omega)]; exact h0
  · simp [hs]
  · rw [Array.getElem?_setIfInBounds_ne (by omega)]; exact hp i hi
theorem PlBox.putp (h : PlBox w M v0 v1 pl) {i : Nat} (hi : i < 3125) (x : Int) : PlBox (w.setCell ⟨M, 2 + i, none⟩ (.int .i64 x)) M v0 v1 (fun j => if j = i then x else pl j) := by
  obtain ⟨cs, t, h, ht, hs, h0, h1, hp⟩ := h
  refine ⟨_, t, heap_setCell_same w M (2 + i) _ t _ h, ht, by simpa using hs, ?_, ?_, fun j hj => ?_⟩
  · rw [Array.getElem?_setIfInBounds_ne (by omega)]; exact h0
  · rw [Array.getElem?_setIfInBounds_ne (by omega)]; exact h1
  · by_cases e : j = i
    · subst e
      rw [Array.getElem?_setIfInBounds_self, if_pos (by omega)]
      simp
    · rw [Array.getElem?_setIfInBounds_ne (by omega)]; simp only [if_neg e]; exact hp j hj
/-- a row of the call's own lies elsewhere -/
theorem PlBox.ne {base s l : Nat} {e : TypeId} {v : Value} {xs : List Value} (h : PlBox w M v0 v1 pl) (h' : w.ownsRow base e s v l xs) (he : e ≠ 64) : v.ownBlock ≠ some M := fun hk => by
  obtain ⟨cs, t, h, ht, _⟩ := h
  rcases h'.2 with ⟨h2, _⟩ | ⟨g', cap', cur', h2, _, hg', _⟩
  · rw [h2] at hk; simp [Value.ownBlock] at hk
  · rw [h2] at hk
    simp [Value.ownBlock] at hk
    subst hk
    rw [hg'] at h
    simp at h
    exact he (h.2.trans ht)
theorem PlBox.grow {w1 : World} {row : Option Nat} (h : PlBox w M v0 v1 pl) (hg : w.grownBy w1 row) (hr : row ≠ some M) : PlBox w1 M v0 v1 pl :=
  h.keep (S := fun k => row ≠ some k) hr (keep_grown hg fun _ hk hs => hs hk)
theorem PlBox.congr (h : PlBox w M v0 v1 pl) {pl' : Nat → Int} (e : ∀ i, i < 3125 → pl i = pl' i) : PlBox w M v0 v1 pl' := by
  obtain ⟨cs, t, h, ht, hs, h0, h1, hp⟩ := h
  exact ⟨cs, t, h, ht, hs, h0, h1, fun i hi => by rw [← e i hi]; exact hp i hi⟩
end
/-! ### A finished monoid -/
/-- the place of a map in a list, and -1 if it is not there -/
def plc (l : List Mp) (f : Mp) : Int := if l[below l f]? = some f then (below l f : Int) else -1
theorem plc_at {l : List Mp} (h : AscM l) {k : Nat} {f : Mp} (hk : l[k]? = some f) : plc l f = k := by
  have hb := (mem_below h).1 (List.mem_of_getElem? hk)
  unfold plc
  rw [if_pos hb, h.idx hb hk]
theorem plc_not {l : List Mp} {f : Mp} (hf : f ∉ l) : plc l f = -1 := by
  unfold plc
  rw [if_neg fun h => hf (List.mem_of_getElem? h)]
theorem plc_neg {l : List Mp} (h : AscM l) {f : Mp} : plc l f < 0 ↔ f ∉ l := by
  constructor
  · intro hlt hf
    unfold plc at hlt
    rw [if_pos ((mem_below h).1 hf)] at hlt
    omega
  · intro hf; rw [plc_not hf]; decide
theorem plc_mem {l : List Mp} (h : AscM l) {f : Mp} (hf : f ∈ l) : ∃ k : Nat, plc l f = k ∧ l[k]? = some f := ⟨below l f, by unfold plc; rw [if_pos ((mem_below h).1 hf)], (mem_below h).1 hf⟩
theorem plc_eq {l : List Mp} (h : AscM l) {f g : Mp} (hf : f ∈ l) : plc l f = plc l g ↔ f = g := by
  constructor
  · intro e
    obtain ⟨k, e1, hk⟩ := plc_mem h hf
    have hg : g ∈ l := Classical.byContradiction fun hn => by rw [plc_not hn] at e; omega
    obtain ⟨j, e2, hj⟩ := plc_mem h hg
    have : k = j := by omega
    subst this
    rw [hk] at hj
    exact Option.some.inj hj
  · rintro rfl; rfl
/-- the places of the maps of a list, by their numbers: 1 more than the place, 0 for others -/
def PlOk (l : List Mp) (n : Int) (pl : Nat → Int) : Prop := ∀ f, MpN f n → pl f.num.toNat = plc l f + 1
/-- a monoid as it lies -/
def MonAt (w : World) (M : Nat) (l : List Mp) (n : Int) : Prop := ∃ A c v1 pl, PlBox w M (.slice A l.length c) v1 pl ∧ SeeMaps w A l ∧ PlOk l n pl
theorem MonAt.below {w w1 : World} {M : Nat} {l : List Mp} {n : Int} (h : MonAt w M l n) (hb : Below w.heap.size w w1) : MonAt w1 M l n := by
  obtain ⟨A, c, v1, pl, h1, h2, h3⟩ := h
  exact ⟨A, c, v1, pl, h1.below hb, h2.below hb, h3⟩
end Go.Proofs.YtilfamenadaboaaGreat
