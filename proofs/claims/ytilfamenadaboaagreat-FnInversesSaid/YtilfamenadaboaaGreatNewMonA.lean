/- What 'newMonoid' holds while it goes on, in memory and plainly. No condition. -/
import Derived.Test.YtilfamenadaboaaGreatPlBox
import Derived.Test.YtilfamenadaboaaGreatPushM
import Derived.Test.YtilfamenadaboaaGreatSortM
import Derived.Test.YtilfamenadaboaaGreatBase
namespace Go.Proofs.YtilfamenadaboaaGreat
set_option linter.unusedSimpArgs false
set_option linter.unusedVariables false
set_option linter.unusedSectionVars false
open Go.RowKit
theorem OwnMaps.grow {w w' : World} {base : Nat} {v : Value} {xs : List Mp} {row : Option Nat} (h : OwnMaps w base v xs) (hg : w.grownBy w' row) (hr : ∀ k, v.ownBlock = some k → row ≠ some k) : OwnMaps w' base v xs := by
  obtain ⟨ys, h1, h2⟩ := h
  exact ⟨ys, own_grow h1 hg hr, h2⟩
theorem kput (w : World) (a : Addr) (u : Value) : Keep (fun k => k ≠ a.block) w (w.setCell a u) := (Keep.refl _ w).setCell (fun h => h rfl) u
theorem OwnMaps.one (w : World) (base : Nat) (hb : base ≤ w.heap.size) (m : Mp) : OwnMaps (w.alloc (.cells #[.int .i64 m.p, .int .i64 m.a, .int .i64 m.b, .int .i64 m.c, .int .i64 m.d, .int .i64 m.e] 27)) base (.slice (some ⟨w.heap.size, 0, none⟩) 1 1) [m] :=
  ⟨cellsOf [m], ⟨rfl, .inr ⟨w.heap.size, 1, #[.int .i64 m.p, .int .i64 m.a, .int .i64 m.b, .int .i64 m.c, .int .i64 m.d, .int .i64 m.e], rfl, hb, heap_alloc_new w _, Nat.le_refl _, by decide, rfl, rfl⟩⟩, repCells [m]⟩
theorem MpBox.grow {w w' : World} {b : Nat} {m : Mp} {row : Option Nat} (h : MpBox w b m) (hg : w.grownBy w' row) (hr : row ≠ some b) : MpBox w' b m := by
  have hl := h.lt
  obtain ⟨t, h⟩ := h
  exact ⟨t, ((keep_grown (S := fun k => row ≠ some k) hg fun _ hk hs => hs hk).block b hl hr).trans h⟩
structure NmMem (base M : Nat) (vf vw : Value) (fs : List Mp) (ps : List Sl) (pl : Nat → Int) (w : World) : Prop where
  om : OwnMaps w base vf fs
  ow : OwnSls w base vw ps
  ew : ElsOk w base ps
  box : PlBox w M (.slice none 0 0) (.slice none 0 0) pl
section
variable {base M : Nat} {vf vw : Value} {fs : List Mp} {ps : List Sl} {pl : Nat → Int} {w w' : World} {n : Int}
theorem NmMem.below (h : NmMem base M vf vw fs ps pl w) (hb : Below w.heap.size w w') : NmMem base M vf vw fs ps pl w' := ⟨h.om.below hb, h.ow.below hb, h.ew.below hb, h.box.below hb⟩
/-- a row of type e grows: the others stay -/
theorem NmMem.growM (h : NmMem base M vf vw fs ps pl w) {v' : Value} {xs' : List Mp} (hg : w.grownBy w' vf.ownBlock) (h' : OwnMaps w' base v' xs') : NmMem base M v' vw xs' ps pl w' := by
  obtain ⟨ys, h1, _⟩ := h.om
  exact ⟨h', h.ow.grow hg (own_ne h.ow h1 (by decide)), fun s hs => (h.ew s hs).grow hg (own_ne (h.ew s hs) h1 (by decide)), h.box.grow hg (h.box.ne h1 (by decide))⟩
theorem NmMem.growS (h : NmMem base M vf vw fs ps pl w) {v' : Value} {s : Sl} (hg : w.grownBy w' vw.ownBlock) (h' : OwnSls w' base v' (ps ++ [s])) (hs : OwnInts w base s.v s.xs) : NmMem base M vf v' fs (ps ++ [s]) pl w' := by
  obtain ⟨ys, h1, h2⟩ := h.om
  exact ⟨⟨ys, own_grow h1 hg (own_ne h1 h.ow (by decide)), h2⟩, h', (h.ew.snoc hs).growSl h.ow hg, h.box.grow hg (h.box.ne h.ow (by decide))⟩
/-- a new row of numbers grows -/
theorem NmMem.growI (h : NmMem base M vf vw fs ps pl w) {v : Value} {xs : List Int} {lo : Nat} (hg : w.grownBy w' v.ownBlock) (h' : OwnInts w lo v xs) (hlo : ∀ s ∈ ps, ∀ k, s.v.ownBlock = some k → k < lo) : NmMem base M vf vw fs ps pl w' := by
  obtain ⟨ys, h1, h2⟩ := h.om
  exact ⟨⟨ys, own_grow h1 hg (own_ne h1 h' (by decide)), h2⟩, h.ow.grow hg (own_ne h.ow h' (by decide)), fun s hs => (h.ew s hs).grow hg fun k hk hv => by have h3 := (h'.lt k hv).1; have h4 := hlo s hs k hk; omega, h.box.grow hg (h.box.ne h' (by decide))⟩
theorem NmMem.putp (h : NmMem base M vf vw fs ps pl w) {i : Nat} (hi : i < 3125) (x : Int) : NmMem base M vf vw fs ps (fun j => if j = i then x else pl j) (w.setCell ⟨M, 2 + i, none⟩ (.int .i64 x)) := by
  obtain ⟨ys, h1, h2⟩ := h.om
  have ks := kput w ⟨M, 2 + i, none⟩ (.int .i64 x)
  have ne : ∀ {v : Value}, v.ownBlock ≠ some M → ∀ k, v.ownBlock = some k → k ≠ M := fun hv k hk e => hv (e ▸ hk)
  exact ⟨⟨ys, own_keep h1 (ne (h.box.ne h1 (by decide))) ks, h2⟩, h.ow.keep (ne (h.box.ne h.ow (by decide))) ks, fun s hs => (h.ew s hs).keep (ne (h.box.ne (h.ew s hs) (by decide))) ks, h.box.putp hi x⟩
/-- the places of the maps found, by their numbers -/
def PlQ (fs : List Mp) (n : Int) (pl : Nat → Int) : Prop := ∀ f, MpN f n → (∀ k : Nat, fs[k]? = some f → pl f.num.toNat = (k : Int) + 1) ∧ (f ∉ fs → pl f.num.toNat = 0)
theorem PlQ.snoc (h : PlQ fs n pl) {g : Mp} (hg : MpN g n) (hn : g ∉ fs) : PlQ (fs ++ [g]) n (fun j => if j = g.num.toNat then (fs.length : Int) + 1 else pl j) := fun f hf => by
  have hne : f ≠ g → f.num.toNat ≠ g.num.toNat := fun hne e => hne (num_inj hf hg (by have := hf.num_lt; have := hg.num_lt; omega))
  constructor
  · intro k hk
    show (if f.num.toNat = g.num.toNat then (fs.length : Int) + 1 else pl f.num.toNat) = _
    by_cases hlt : k < fs.length
    · rw [List.getElem?_append_left hlt] at hk
      rw [if_neg (hne fun e => hn (e ▸ List.mem_of_getElem? hk))]
      exact (h f hf).1 k hk
    · rw [List.getElem?_append_right (by omega)] at hk
      have h1 := (List.getElem?_eq_some_iff.1 hk).1
      have h2 : k = fs.length := by simp at h1; omega
      subst h2
      simp at hk
      subst hk
      rw [if_pos rfl]
  · intro hf'
    show (if f.num.toNat = g.num.toNat then (fs.length : Int) + 1 else pl f.num.toNat) = _
    rw [List.mem_append, not_or, List.mem_singleton] at hf'
    rw [if_neg (hne hf'.2)]
    exact (h f hf).2 hf'.1
structure NmPure (n : Int) (Q : List (Mp × List Int)) (fs : List Mp) (ps : List Sl) (pl : Nat → Int) : Prop where
  fq : fs = Q.map Prod.fst
  wq : ps.map Sl.xs = Q.map Prod.snd
  pq : PlQ fs n pl
theorem NmPure.start (hn : 1 ≤ n) (hn5 : n ≤ 5) : NmPure n [(idM n, [])] [idM n] [⟨none, 0, []⟩] (fun j => if j = (idM n).num.toNat then 1 else 0) := by
  refine ⟨rfl, rfl, ?_⟩
  have h0 : PlQ [] n (fun _ => 0) := fun f _ => ⟨fun k hk => by simp at hk, fun _ => rfl⟩
  exact h0.snoc (idM_MpN hn hn5) (by simp)
theorem NmPure.len {Q : List (Mp × List Int)} (h : NmPure n Q fs ps pl) : fs.length = Q.length ∧ ps.length = Q.length := by
  have h2 := congrArg List.length h.wq
  rw [List.length_map, List.length_map] at h2
  exact ⟨by rw [h.fq, List.length_map], h2⟩
theorem NmPure.getf {Q : List (Mp × List Int)} (h : NmPure n Q fs ps pl) {k : Nat} {m : Mp × List Int} (hk : Q[k]? = some m) : fs[k]? = some m.1 := by
  rw [h.fq, List.getElem?_map, hk]; rfl
theorem NmPure.getw {Q : List (Mp × List Int)} (h : NmPure n Q fs ps pl) {k : Nat} {m : Mp × List Int} (hk : Q[k]? = some m) : ∃ s, ps[k]? = some s ∧ s.xs = m.2 := by
  have h2 := congrArg (fun l : List (List Int) => l[k]?) h.wq
  simp only [List.getElem?_map, hk, Option.map_some, Option.map_eq_some_iff] at h2
  obtain ⟨s, e1, e2⟩ := h2
  exact ⟨s, e1, e2⟩
theorem NmPure.any {Q : List (Mp × List Int)} (h : NmPure n Q fs ps pl) (g : Mp) : Q.any (fun m => decide (m.1 = g)) = decide (g ∈ fs) := by
  rw [h.fq, Bool.eq_iff_iff, List.any_eq_true, decide_eq_true_eq, List.mem_map]
  constructor
  · rintro ⟨m, hm, e⟩; exact ⟨m, hm, by simpa using e⟩
  · rintro ⟨m, hm, e⟩; exact ⟨m, hm, by simpa using e⟩
theorem NmPure.push {Q : List (Mp × List Int)} (h : NmPure n Q fs ps pl) {g : Mp} (hg : MpN g n) (hn : g ∉ fs) (s : Sl) : NmPure n (Q ++ [(g, s.xs)]) (fs ++ [g]) (ps ++ [s]) (fun j => if j = g.num.toNat then (fs.length : Int) + 1 else pl j) :=
  ⟨by rw [h.fq, List.map_append]; rfl, by rw [List.map_append, List.map_append, h.wq]; rfl, h.pq.snoc hg hn⟩
end
theorem gTo_len_le {st : Nat → Mp → Mp} {now : Mp × List Int} {q : List (Mp × List Int)} : ∀ {a b : Nat}, a ≤ b → (gTo st now q a).length ≤ (gTo st now q b).length
  | a, 0, h => by obtain rfl : a = 0 := Nat.le_zero.1 h
                  exact Nat.le_refl _
  | a, b + 1, h => by
    rcases Nat.lt_or_ge b a with hlt | hge
    · obtain rfl : a = b + 1 := by omega
      exact Nat.le_refl _
    · obtain ⟨t, ht⟩ := g1_prefix (st := st) now (gTo st now q b) b
      have h1 := gTo_len_le (st := st) (now := now) (q := q) hge
      have h2 : (gTo st now q (b + 1)).length = (gTo st now q b).length + t.length := by
        show (g1 st now (gTo st now q b) b).length = _
        rw [ht, List.length_append]
      omega
theorem gTo_new {st : Nat → Mp → Mp} {now : Mp × List Int} {q : List (Mp × List Int)} {j : Nat} {g : Mp} (hst : st j now.1 = g) (h : (gTo st now q j).any (fun m => decide (m.1 = g)) = false) : gTo st now q (j + 1) = gTo st now q j ++ [(g, now.2 ++ [(j : Int)])] := by
  subst hst
  exact g1_new h
theorem mon_big {ms : List Mp} {n : Int} {k j : Nat} {now : Mp × List Int} (HN : (monB ms n k)[k]? = some now) (hj : j < ms.length) (hk : k ≤ 300) (h : 300 < (gTo (mst ms) now (monB ms n k) (j + 1)).length) : 300 < (monQ ms n).length := by
  have h2 : (monB ms n (k + 1)) = gTo (mst ms) now (monB ms n k) ms.length := gb_succ HN
  have h3 := gTo_len_le (st := mst ms) (now := now) (q := monB ms n k) (Nat.succ_le_of_lt hj)
  rw [← h2] at h3
  exact monQ_big (i := k + 1) (Nat.lt_of_lt_of_le h h3) (by omega)
theorem mon_full {ms : List Mp} {n : Int} {k j l : Nat} {now x : Mp × List Int} {q : List (Mp × List Int)} (HN : (monB ms n k)[k]? = some now) (hj : j < ms.length) (hk : k < l) (e : gTo (mst ms) now (monB ms n k) (j + 1) = q ++ [x]) (hl : l = q.length) (h3 : l = 300) : 300 < (monQ ms n).length := by
  refine mon_big HN hj (by omega) ?_
  rw [e, List.length_append, ← hl, h3]
  simp
theorem OwnMaps.block {w : World} {base : Nat} {v : Value} {xs : List Mp} (h : OwnMaps w base v xs) (hn : 0 < xs.length) : ∃ g c, v = .slice (some ⟨g, 0, none⟩) xs.length c ∧ base ≤ g ∧ g < w.heap.size := by
  obtain ⟨ys, h1, _⟩ := h
  rcases h1.2 with ⟨_, h0⟩ | ⟨g, cap, cur, rfl, hb, hg, _⟩
  · omega
  · exact ⟨g, cap, rfl, hb, (Array.getElem?_eq_some_iff.1 hg).1⟩
theorem PlBox.neM {w : World} {M base : Nat} {v0 v1 v : Value} {pl : Nat → Int} {xs : List Mp} (h : PlBox w M v0 v1 pl) (h' : OwnMaps w base v xs) : v.ownBlock ≠ some M := by
  obtain ⟨ys, h1, _⟩ := h'
  exact h.ne h1 (by decide)
theorem OwnMaps.store {w : World} {M base j : Nat} {v0 v1 v u : Value} {pl : Nat → Int} {xs : List Mp} (h : OwnMaps w base v xs) (hb : PlBox w M v0 v1 pl) : OwnMaps (w.setCell ⟨M, j, none⟩ u) base v xs :=
  h.keep (S := fun k => k ≠ M) (fun k hk e => hb.neM h (e ▸ hk)) (kput w ⟨M, j, none⟩ u)
theorem OwnSls.store {w : World} {M base j : Nat} {v0 v1 v u : Value} {pl : Nat → Int} {xs : List Sl} (h : OwnSls w base v xs) (hb : PlBox w M v0 v1 pl) : OwnSls (w.setCell ⟨M, j, none⟩ u) base v xs :=
  h.keep (S := fun k => k ≠ M) (fun k hk e => hb.ne h (by decide) (e ▸ hk)) (kput w ⟨M, j, none⟩ u)
/-- the places, those of the first k elements set -/
def PlS (l : List Mp) (n : Int) (k : Nat) (pl : Nat → Int) : Prop := ∀ f, MpN f n → (∀ j : Nat, j < k → l[j]? = some f → pl f.num.toNat = (j : Int) + 1) ∧ (f ∉ l → pl f.num.toNat = 0)
theorem PlS.start {fs l : List Mp} {n : Int} {pl : Nat → Int} (h : PlQ fs n pl) (hm : ∀ f, f ∈ l ↔ f ∈ fs) : PlS l n 0 pl := fun f hf => ⟨fun j hj => absurd hj (Nat.not_lt_zero _), fun hn => (h f hf).2 fun h1 => hn ((hm f).2 h1)⟩
theorem PlS.set {l : List Mp} {n : Int} {k : Nat} {pl : Nat → Int} (h : PlS l n k pl) (hl : AscM l) {g : Mp} (hg : MpN g n) (hk : l[k]? = some g) : PlS l n (k + 1) (fun j => if j = g.num.toNat then (k : Int) + 1 else pl j) := fun f hf => by
  have hne : f ≠ g → f.num.toNat ≠ g.num.toNat := fun hne e => hne (num_inj hf hg (by have := hf.num_lt; have := hg.num_lt; omega))
  constructor
  · intro j hj hfj
    show (if f.num.toNat = g.num.toNat then (k : Int) + 1 else pl f.num.toNat) = _
    by_cases e : f = g
    · subst e
      rw [if_pos rfl, hl.idx hfj hk]
    · rw [if_neg (hne e)]
      have : j ≠ k := fun e2 => by subst e2; rw [hk] at hfj; exact e (Option.some.inj hfj).symm
      exact (h f hf).1 j (by omega) hfj
  · intro hn
    show (if f.num.toNat = g.num.toNat then (k : Int) + 1 else pl f.num.toNat) = _
    rw [if_neg (hne fun e => hn (e ▸ List.mem_of_getElem? hk))]
    exact (h f hf).2 hn
theorem PlS.done {l : List Mp} {n : Int} {pl : Nat → Int} (h : PlS l n l.length pl) (hl : AscM l) : PlOk l n pl := fun f hf => by
  by_cases hm : f ∈ l
  · obtain ⟨k, e, hk⟩ := plc_mem hl hm
    rw [e]
    exact (h f hf).1 k (List.getElem?_eq_some_iff.1 hk).1 hk
  · rw [plc_not hm]
    exact (h f hf).2 hm
theorem wrap_small {q : Nat} (h : q < 300) : wrap64 (q : Int) = q ∧ IntKind.i64.wrap (q : Int) = q := by
  constructor
  · unfold wrap64; omega
  · rw [IntKind.wrap_i64]; omega
/-- what 'newMonoid' hands back -/
def NmPost (ms : List Mp) (n : Int) (w : World) (e : Ending) (w' : World) : Prop :=
  (∃ M, (monQ ms n).length ≤ 300 ∧ e = .returned (.tuple #[.pointer (some ⟨M, 0, none⟩), .int .i64 0]) ∧ MonAt w' M (els ms n) n ∧ w.heap.size ≤ M ∧ Below w.heap.size w w') ∨
  (300 < (monQ ms n).length ∧ e = .returned (.tuple #[.pointer none, .int .i64 3]) ∧ Below w.heap.size w w')
end Go.Proofs.YtilfamenadaboaaGreat
