/- What 'newMonoid' holds while it goes on, in memory and plainly. No condition. -/
import Derived.Test.YtilfamenadaboaaGreatPlBox
import Derived.Test.YtilfamenadaboaaGreatPushM
import Derived.Test.YtilfamenadaboaaGreatSortM
import Derived.Test.YtilfamenadaboaaGreatBase
namespace Go.Proofs.YtilfamenadaboaaGreat
set_option linter.unusedSimpArgs false
set_option linter.unusedVariables false
set_option linter.unusedSectionVars false
open Go.RowKit
theorem OwnMaps.grow {w w' : World} {base : Nat} {v : Value} {xs : List Mp} {row : Option Nat} (h : OwnMaps w base v xs) (hg : w.grownBy w' row) (hr : ∀ k, v.ownBlock = some k → row ≠ some k) : OwnMaps w' base v xs := by
  obtain ⟨ys, h1, h2⟩ := h
  exact ⟨ys, own_grow h1 hg hr, h2⟩
theorem kput (w : World) (a : Addr) (u : Value) : Keep (fun k => k ≠ a.block) w (w.setCell a u) := (Keep.refl _ w).setCell (fun h => h rfl) u
theorem OwnMaps.one (w : World) (base : Nat) (hb : base ≤ w.heap.size) (m : Mp) : OwnMaps (w.alloc (.cells #[.int .i64 m.p, .int .i64 m.a, .int .i64 m.b, .int .i64 m.c, .int .i64 m.d, .int .i64 m.e] 27)) base (.slice (some ⟨w.heap.size, 0, none⟩) 1 1) [m] :=
  ⟨cellsOf [m], ⟨rfl, .inr ⟨w.heap.size, 1, #[.int .i64 m.p, .int .i64 m.a, .int .i64 m.b, .int .i64 m.c, .int .i64 m.d, .int .i64 m.e], rfl, hb, heap_alloc_new w _, Nat.le_refl _, by decide, rfl, rfl⟩⟩, repCells [m]⟩
theorem MpBox.grow {w w' : World} {b : Nat} {m : Mp} {row : Option Nat} (h : MpBox w b m) (hg : w.grownBy w' row) (hr : row ≠ some b) : MpBox w' b m := by
  have hl := h.lt
  obtain ⟨t, h⟩ := h
  exact ⟨t, ((keep_grown (S := fun k => row ≠ some k) hg fun _ hk hs => hs hk).block b hl hr).trans h⟩
structure NmMem (base M : Nat) (vf vw : Value) (fs : List Mp) (ps : List Sl) (pl : Nat → Int) (w : World) : Prop where
  om : OwnMaps w base vf fs
  ow : OwnSls w base vw ps
  ew : ElsOk w base ps
  box : PlBox w M (.slice none 0 0) (.slice none 0 0) pl
section
variable {base M : Nat} {vf vw : Value} {fs : List Mp} {ps : List Sl} {pl : Nat → Int} {w w' : World} {n : Int}
theorem NmMem.below (h : NmMem base M vf vw fs ps pl w) (hb : Below w.heap.size w w') : NmMem base M vf vw fs ps pl w' := ⟨h.om.below hb, h.ow.below hb, h.ew.below hb, h.box.below hb⟩
/-- a row of type e grows: the others stay -/
theorem NmMem.growM (h : NmMem base M vf vw fs ps pl w) {v' : Value} {xs' : List Mp} (hg : w.grownBy w' vf.ownBlock) (h' : OwnMaps w' base v' xs') : NmMem base M v' vw xs' ps pl w' := by
  obtain ⟨ys, h1, _⟩ := h.om
  exact ⟨h', h.ow.grow hg (own_ne h.ow h1 (by decide)), fun s hs => (h.ew s hs).grow hg (own_ne (h.ew s hs) h1 (by decide)), h.box.grow hg (h.box.ne h1 (by decide))⟩
theorem NmMem.growS (h : NmMem base M vf vw fs ps pl w) {v' : Value} {s : Sl} (hg : w.grownBy w' vw.ownBlock) (h' : OwnSls w' base v' (ps ++ [s])) (hs : OwnInts w base s.v s.xs) : NmMem base M vf v' fs (ps ++ [s]) pl w' := by
  obtain ⟨ys, h1, h2⟩ := h.om
  exact ⟨⟨ys, own_grow h1 hg (own_ne h1 h.ow (by decide)), h2⟩, h', (h.ew.snoc hs).growSl h.ow hg, h.box.grow hg (h.box.ne h.ow (by decide))⟩
/-- a new row of numbers grows -/
theorem NmMem.growI (h : NmMem base M vf vw fs ps pl w) {v : Value} {xs : List Int} {lo : Nat} (hg : w.grownBy w' v.ownBlock) (h' : OwnInts w lo v xs) (hlo : ∀ s ∈ ps, ∀ k, s.v.ownBlock = some k → k < lo) : NmMem base M vf vw fs ps pl w' := by
  obtain ⟨ys, h1, h2⟩ := h.om
  exact ⟨⟨ys, own_grow h1 hg (own_ne h1 h' (by decide)), h2⟩, h.ow.grow hg (own_ne h.ow h' (by decide)), fun s hs => (h.ew s hs).grow hg fun k hk hv => by have h3 := (h'.lt k hv).1; have h4 := hlo s hs k hk; omega, h.box.grow hg (h.box.ne h' (by decide))⟩
theorem NmMem.putp (h : NmMem base M vf vw fs ps pl w) {i : Nat} (hi : i < 3125) (x : Int) : NmMem base M vf vw fs ps (fun j => if j = i then x else pl j) (w.setCell ⟨M, 2 + i, none⟩ (.int .i64 x)) := by
  obtain ⟨ys, h1, h2⟩ := h.om
  have ks := kput w ⟨M, 2 + i, none⟩ (.int .i64 x)
  have ne : ∀ {v : Value}, v.ownBlock ≠ some M → ∀ k, v.ownBlock = some k → k ≠ M := fun hv k hk e => hv (e ▸ hk)
  exact ⟨⟨ys, own_keep h1 (ne (h.box.ne h1 (by decide))) ks, h2⟩, h.ow.keep (ne (h.box.ne h.ow (by decide))) ks, fun s hs => (h.ew s hs).keep (ne (h.box.ne (h.ew s hs) (by decide))) ks, h.box.putp hi x⟩
/-- the places of the maps found, by their numbers -/
def PlQ (fs : List Mp) (n : Int) (pl : Nat → Int) : Prop := ∀ f, MpN f n → (∀ k : Nat, fs[k]? = some f → pl f.num.toNat = (k : Int) + 1) ∧ (f ∉ fs → pl f.num.toNat = 0)
theorem PlQ.snoc (h : PlQ fs n pl) {g : Mp} (hg : MpN g n) (hn : g ∉ fs) : PlQ (fs ++ [g]) n (fun j => if j = g.num.toNat then (fs.length : Int) + 1 else pl j) := fun f hf => by
  have hne : f ≠ g → f.num.toNat ≠ g.num.toNat := fun hne e => hne (num_inj hf hg (by have := hf.num_lt; have := hg.num_lt; omega))
  constructor
  · intro k hk
    show (if f.num.toNat = g.num.toNat then (fs.length : Int) + 1 else pl f.num.toNat) = _
    by_cases hlt : k < fs.length
    · rw [List.getElem?_append_left hlt] at hk
      rw [if_neg (hne fun e => hn (e ▸ List.mem_of_getElem? hk))]
      exact (h f hf).1 k hk
    · rw [List.getElem?_append_right (by omega)] at hk
      have h1 := (List.getElem?_eq_some_iff.1 hk).1
      have h2 : k = fs.length := by simp at h1; omega
      subst h2
      simp at hk
      subst hk
      rw [if_pos rfl]
  · intro hf'
    show (if f.num.toNat = g.num.toNat then (fs.length : Int) + 1 else pl f.num.toNat) = _
    rw [List.mem_append, not_or, List.mem_singleton] at hf'
    rw [if_neg (hne hf'.2)]
    exact (h f hf).2 hf'.1
structure NmPure (n : Int) (Q : List (Mp × List Int)) (fs : List Mp) (ps : List Sl) (pl : Nat → Int) : Prop where
  fq : fs = Q.map Prod.fst
  wq : ps.map Sl.xs = Q.map Prod.snd
  pq : PlQ fs n pl
theorem NmPure.start (hn : 1 ≤ n) (hn5 : n ≤ 5) : NmPure n [(idM n, [])] [idM n] [⟨none, 0, []⟩] (fun j => if j = (idM n).num.toNat then 1 else 0) := by
  refine ⟨rfl, rfl, ?_⟩
  have h0 : PlQ [] n (fun _ => 0) := fun f _ => ⟨fun k hk => by simp at hk, fun _ => rfl⟩
  exact h0.snoc (idM_MpN hn hn5) (by simp)
theorem NmPure.len {Q : List (Mp × List Int)} (h : NmPure n Q fs ps pl) : fs.length = Q.length ∧ ps.length = Q.length := by
  have h2 := congrArg List.length h.wq
  rw [List.length_map, List.length_map] at h2
  exact ⟨by rw [h.fq, List.length_map], h2⟩
theorem NmPure.getf {Q : List (Mp × List Int)} (h : NmPure n Q fs ps pl) {k : Nat} {m : Mp × List Int} (hk : Q[k]? = some m) : fs[k]? = some m.1 := by
  rw [h.fq, List.getElem?_map, hk]; rfl
theorem NmPure.getw {Q : List (Mp × List Int)} (h : NmPure n Q fs ps pl) {k : Nat} {m : Mp × List Int} (hk : Q[k]? = some m) : ∃ s, ps[k]? = some s ∧ s.xs = m.2 := by
  have h2 := congrArg (fun l : List (List Int) => l[k]?) h.wq
  simp only [List.getElem?_map, hk, Option.map_some, Option.map_eq_some_iff] at h2
  obtain ⟨s, e1, e2⟩ := h2
  exact ⟨s, e1, e2⟩
theorem NmPure.any {Q : List (Mp × List Int)} (h : NmPure n Q fs ps pl) (g : Mp) : Q.any (fun m => decide (m.1 = g)) = decide (g ∈ fs) := by
  rw [h.fq, Bool.eq_iff_iff, List.any_eq_true, decide_eq_true_eq, List.mem_map]
  constructor
  · rintro ⟨m, hm, e⟩; exact ⟨m, hm, by simpa using e⟩
  · rintro ⟨m, hm, e⟩; exact ⟨m, hm, by simpa using e⟩
theorem NmPure.push {Q : List (Mp × List Int)} (h : NmPure n Q fs ps pl) {g : Mp} (hg : MpN g n) (hn : g ∉ fs) (s : Sl) : NmPure n (Q ++ [(g, s.xs)]) (fs ++ [g]) (ps ++ [s]) (fun j => if j = g.num.toNat then (fs.length : Int) + 1 else pl j) :=
  ⟨by rw [h.fq, List.map_append]; rfl, by rw [List.map_append, List.map_append, h.wq]; rfl, h.pq.snoc hg hn⟩
end
theorem gTo_len_le {st : Nat → Mp → Mp} {now : Mp × List Int} {q : List (Mp × List Int)} : ∀ {a b : Nat}, a ≤ b → (gTo st now q a).length ≤ (gTo st now q b).length
  | a, 0, h => by obtain rfl : a = 0 := Nat.le_zero.1 h
                  exact Nat.le_refl _
  | a, b + 1, h => by
    rcases Nat.lt_or_ge b a with hlt | hge
    · obtain rfl : a = b + 1 := by omega
      exact Nat.le_refl _
    · obtain ⟨t, ht⟩ := g1_prefix (st := st) now (gTo st now q b) b
      have h1 := gTo_len_le (st := st) (now := now) (q := q) hge
      have h2 : (gTo st now q (b + 1)).length = (gTo st now q b).length + t.length := by
        show (g1 st now (gTo st now q b) b).length = _
        rw [ht, List.length_append]
      omega
theorem gTo_new {st : Nat → Mp → Mp} {now : Mp × List Int} {q : List (Mp × List Int)} {j : Nat} {g : Mp} (hst : st j now.1 = g) (h : (gTo st now q j).any (fun m => decide (m.1 = g)) = false) : gTo st now q (j + 1) = gTo st now q j ++ [(g, now.2 ++ [(j : Int)])] := by
  subst hst
  exact g1_new h
theorem mon_big {ms : List Mp} {n : Int} {k j : Nat} {now : Mp × List Int} (HN : (monB ms n k)[k]? = some now) (hj : j < ms.length) (hk : k ≤ 300) (h : 300 < (gTo (mst ms) now (monB ms n k) (j + 1)).length) : 300 < (monQ ms n).length := by
  have h2 : (monB ms n (k + 1)) = gTo (mst ms) now (monB ms n k) ms.length := gb_succ HN
  have h3 := gTo_len_le (st := mst ms) (now := now) (q := monB ms n k) (Nat.succ_le_of_lt hj)
  rw [← h2] at h3
  exact monQ_big (i := k + 1) (Nat.lt_of_lt_of_le h h3) (by omega)
theorem mon_full {ms : List Mp} {n : Int} {k j l : Nat} {now x : Mp × List Int} {q : List (Mp × List Int)} (HN : (monB ms n k)[k]? = some now) (hj : j < ms.length) (hk : k < l) (e : gTo (mst ms) now (monB ms n k) (j + 1) = q ++ [x]) (hl : l = q.length) (h3 : l = 300) : 300 < (monQ ms n).length := by
  refine mon_big HN hj (by omega) ?_
  rw [e, List.length_append, ← hl, h3]
  simp
theorem OwnMaps.block {w : World} {base : Nat} {v : Value} {xs : List Mp} (h : OwnMaps w base v xs) (hn : 0 < xs.length) : ∃ g c, v = .slice (some ⟨g, 0, none⟩) xs.length c ∧ base ≤ g ∧ g < w.heap.size := by
  obtain ⟨ys, h1, _⟩ := h
  rcases h1.2 with ⟨_, h0⟩ | ⟨g, cap, cur, rfl, hb, hg, _⟩
  · omega
  · exact ⟨g, cap, rfl, hb, (Array.getElem?_eq_some_iff.1 hg).1⟩
theorem PlBox.neM {w : World} {M base : Nat} {v0 v1 v : Value} {pl : Nat → Int} {xs : List Mp} (h : PlBox w M v0 v1 pl) (h' : OwnMaps w base v xs) : v.ownBlock ≠ some M := by
  obtain ⟨ys, h1, _⟩ := h'
  exact h.ne h1 (by decide)
theorem OwnMaps.store {w : World} {M base j : Nat} {v0 v1 v u : Value} {pl : Nat → Int} {xs : List Mp} (h : OwnMaps w base v xs) (hb : PlBox w M v0 v1 pl) : OwnMaps (w.setCell ⟨M, j, none⟩ u) base v xs :=
  h.keep (S := fun k => k ≠ M) (fun k hk e => hb.neM h (e ▸ hk)) (kput w ⟨M, j, none⟩ u)
theorem OwnSls.store {w : World} {M base j : Nat} {v0 v1 v u : Value} {pl : Nat → Int} {xs : List Sl} (h : OwnSls w base v xs) (hb : PlBox w M v0 v1 pl) : OwnSls (w.setCell ⟨M, j, none⟩ u) base v xs :=
  h.keep (S := fun k => k ≠ M) (fun k hk e => hb.ne h (by decide) (e ▸ hk)) (kput w ⟨M, j, none⟩ u)
/-- the places, those of the first k elements set -/
def PlS (l : List Mp) (n : Int) (k : Nat) (pl : Nat → Int) : Prop := ∀ f, MpN f n → (∀ j : Nat, j < k → l[j]? = some f → pl f.num.toNat = (j : Int) + 1) ∧ (f ∉ l → pl f.num.toNat = 0)
theorem PlS.start {fs l : List Mp} {n : Int} {pl : Nat → Int} (h : PlQ fs n pl) (hm : ∀ f, f ∈ l ↔ f ∈ fs) : PlS l n 0 pl := fun f hf => ⟨fun j hj => absurd hj (Nat.not_lt_zero _), fun hn => (h f hf).2 fun h1 => hn ((hm f).2 h1)⟩
theorem PlS.set {l : List Mp} {n : Int} {k : Nat} {pl : Nat → Int} (h : PlS l n k pl) (hl : AscM l) {g : Mp} (hg : MpN g n) (hk : l[k]? = some g) : PlS l n (k + 1) (fun j => if j = g.num.toNat then (k : Int) + 1 else pl j) := fun f hf => by
  have hne : f ≠ g → f.num.toNat ≠ g.num.toNat := fun hne e => hne (num_inj hf hg (by have := hf.num_lt; have := hg.num_lt; omega))
  constructor
  · intro j hj hfj
    show (if f.num.toNat = g.num.toNat then (k : Int) + 1 else pl f.num.toNat) = _
    by_cases e : f = g
    · subst e
      rw [if_pos rfl, hl.idx hfj hk]
    · rw [if_neg (hne e)]
      have : j ≠ k := fun e2 => by subst e2; rw [hk] at hfj; exact e (Option.some.inj hfj).symm
      exact (h f hf).1 j (by omega) hfj
  · intro hn
    show (if f.num.toNat = g.num.toNat then (k : Int) + 1 else pl f.num.toNat) = _
    rw [if_neg (hne fun e => hn (e ▸ List.mem_of_getElem? hk))]
    exact (h f hf).2 hn
theorem PlS.done {l : List Mp} {n : Int} {pl : Nat → Int} (h : PlS l n l.length pl) (hl : AscM l) : PlOk l n pl := fun f hf => by
  by_cases hm : f ∈ l
  · obtain ⟨k, e, hk⟩ := plc_mem hl hm
    rw [e]
    exact (h f hf).1 k (List.getElem?_eq_some_iff.1 hk).1 hk
  · rw [plc_not hm]
    exact (h f hf).2 hm
theorem wrap_small {q : Nat} (h : q < 300) : wrap64 (q : Int) = q ∧ IntKind.i64.wrap (q : Int) = q := by
  constructor
  · unfold wrap64; omega
  · rw [IntKind.wrap_i64]; omega
/-- what 'newMonoid' hands back -/
def NmPost (ms : List Mp) (n : Int) (w : World) (e : Ending) (w' : World) : Prop :=
  (∃ M, (monQ ms n).length ≤ 300 ∧ e = .returned (.tuple #[.pointer (some ⟨M, 0, none⟩), .int .i64 0]) ∧ MonAt w' M (els ms n) n ∧ w.heap.size ≤ M ∧ Below w.heap.size w w') ∨
  (300 < (monQ ms n).length ∧ e = .returned (.tuple #[.pointer none, .int .i64 3]) ∧ Below w.heap.size w w')
/-! 'newMonoid': all elements of the monoid of a list of maps, or that there are too many. -/
set_option maxHeartbeats 8000000 in
set_option maxRecDepth 100000 in
theorem newMonoid_c {A : Option Addr} {c : Nat} {ms : List Mp} {n : Int} (w : World) (hr : RightL ms n) (h : SeeMaps w A ms) : Calls Tryz.prog 84 #[.slice A ms.length c, .int .i64 n] w (NmPost ms n w) := by
  have n1 := hr.bounds.1
  have n5 := hr.bounds.2
  have six := hr.six
  have HR := Lib.hid hr
  have HS := Lib.hid h
  clear hr h
  go_enter Tryz.func84, Tryz.ntmps84
  go_wp2_with fail
  refine (identity_c n _ n1 n5).mono ?_
  rintro e w1 ⟨rfl, hb1⟩
  have k0 : Below w.heap.size w (w.alloc (.cells Tryz.zeroCells64 64)) := by go_grown
  have box1 := (PlBox.new w).below hb1
  have hb := btrans k0 hb1
  clear hb1 k0
  generalize Tryz.zeroCells64 = zc
  go_wp2
  have hidN := idM_MpN n1 n5
  obtain ⟨W2, hW2⟩ : ∃ W2, W2 = (w1.alloc (.cells #[.int .i64 (idM n).p, .int .i64 (idM n).a, .int .i64 (idM n).b, .int .i64 (idM n).c, .int .i64 (idM n).d, .int .i64 (idM n).e] 27)).alloc (.cells #[.slice none 0 0] 103) := ⟨_, rfl⟩
  rw [← hW2]
  have hz1 : w.heap.size ≤ w1.heap.size := hb.size
  have bx : MpBox W2 w1.heap.size (idM n) := by rw [hW2]; exact (MpBox.new (idM n) 27 rfl).keep _
  have hbW : Below w1.heap.size w1 W2 := by rw [hW2]; go_grown
  have own0 : OwnMaps W2 w.heap.size (.slice (some ⟨w1.heap.size, 0, none⟩) 1 1) [idM n] := by
    rw [hW2]
    exact (OwnMaps.one w1 _ hz1 _).below (kbelow _ _)
  have ow0 : OwnSls W2 w.heap.size (.slice (some ⟨w1.heap.size + 1, 0, none⟩) 1 1) [⟨none, 0, []⟩] := by
    have := OwnSls.one (w1.alloc (.cells #[.int .i64 (idM n).p, .int .i64 (idM n).a, .int .i64 (idM n).b, .int .i64 (idM n).c, .int .i64 (idM n).d, .int .i64 (idM n).e] 27)) w.heap.size (by simp; omega) ⟨none, 0, []⟩
    rw [hW2]
    simpa using this
  have mem0 : NmMem w.heap.size w.heap.size (.slice (some ⟨w1.heap.size, 0, none⟩) 1 1) (.slice (some ⟨w1.heap.size + 1, 0, none⟩) 1 1) [idM n] [⟨none, 0, []⟩] (fun _ => 0) W2 :=
    ⟨own0, ow0, fun s hs => by rw [List.mem_singleton.1 hs]; exact OwnInts.nil _ _, box1.below hbW⟩
  have pur0 := NmPure.start n1 n5
  have hb2 := btrans hb hbW
  obtain ⟨q0, q1, q2, q3, q4, q5⟩ := bx.at.cells0
  have hnum := hidN.num_lt
  have num0 := hnum.1
  have num1 := hnum.2
  have fr := fun j => mem0.box.free j
  clear hW2 box1 own0 ow0 hnum hb hbW
  generalize hz : w1.heap.size = z1 at *
  clear hz
  refine wp_region_headS 8 (fun w' => w'.cell? ⟨z1, 0, none⟩ = some (.int .i64 (idM n).p) ∧ w'.cell? ⟨z1, 1, none⟩ = some (.int .i64 (idM n).a) ∧ w'.cell? ⟨z1, 2, none⟩ = some (.int .i64 (idM n).b) ∧ w'.cell? ⟨z1, 3, none⟩ = some (.int .i64 (idM n).c) ∧ w'.cell? ⟨z1, 4, none⟩ = some (.int .i64 (idM n).d) ∧ w'.cell? ⟨z1, 5, none⟩ = some (.int .i64 (idM n).e)) (by kernel_rfl) (by kernel_rfl) ⟨q0, q1, q2, q3, q4, q5⟩ (fun hHeld => ?_)
  simp only [List.drop]
  refine headH_takeS (i := 0) (v := ?_) 23 rfl (by kernel_rfl) (by kernel_rfl) (fun _ _ _ h => h) (Or.inl ⟨by rfl, ?_⟩) hHeld ?_
  rotate_left
  · intro w hSw
    (try dsimp only at hSw)
    go_simp
    try with_reducible rfl
  try simp only [Act.put, List.setIfInBounds_toArray, List.set_cons_zero, List.set_cons_succ]
  refine headH_takeS (i := 1) (v := ?_) 24 rfl (by kernel_rfl) (by kernel_rfl) (fun _ _ _ h => h) (Or.inl ⟨by rfl, ?_⟩) hHeld ?_
  rotate_left
  · intro w hSw
    (try dsimp only at hSw)
    go_simp
    try with_reducible rfl
  try simp only [Act.put, List.setIfInBounds_toArray, List.set_cons_zero, List.set_cons_succ]
  refine headH_takeS (i := 2) (v := ?_) 25 rfl (by kernel_rfl) (by kernel_rfl) (fun _ _ _ h => h) (Or.inl ⟨by rfl, ?_⟩) hHeld ?_
  rotate_left
  · intro w hSw
    (try dsimp only at hSw)
    go_simp
    try with_reducible rfl
  try simp only [Act.put, List.setIfInBounds_toArray, List.set_cons_zero, List.set_cons_succ]
  refine headH_takeS (i := 3) (v := ?_) 26 rfl (by kernel_rfl) (by kernel_rfl) (fun _ _ _ h => h) (Or.inl ⟨by rfl, ?_⟩) hHeld ?_
  rotate_left
  · intro w hSw
    (try dsimp only at hSw)
    go_simp
    try with_reducible rfl
  try simp only [Act.put, List.setIfInBounds_toArray, List.set_cons_zero, List.set_cons_succ]
  refine headH_takeS (i := 5) (v := ?_) 28 rfl (by kernel_rfl) (by kernel_rfl) (fun _ _ _ h => h) (Or.inl ⟨by rfl, ?_⟩) hHeld ?_
  rotate_left
  · intro w hSw
    (try dsimp only at hSw)
    go_simp
    try with_reducible rfl
  try simp only [Act.put, List.setIfInBounds_toArray, List.set_cons_zero, List.set_cons_succ]
  refine headH_takeS (i := 6) (v := ?_) 29 rfl (by kernel_rfl) (by kernel_rfl) (fun _ _ _ h => h) (Or.inl ⟨by rfl, ?_⟩) hHeld ?_
  rotate_left
  · intro w hSw
    (try dsimp only at hSw)
    go_simp
    try with_reducible rfl
  try simp only [Act.put, List.setIfInBounds_toArray, List.set_cons_zero, List.set_cons_succ]
  refine headH_all (rs := [4]) (by kernel_rfl) (by kernel_rfl) (headH_cons rfl (fun K hK => ?_) headH_nil)
  go_simp
  go_at_call 111
  refine (number_c (idM n) n _ hidN).mono ?_
  rintro e w3 ⟨rfl, hb3⟩
  try go_simp
  replace hb3 := bdr hb3
  refine hK.out _ _ ⟨bcell hb3 q0, bcell hb3 q1, bcell hb3 q2, bcell hb3 q3, bcell hb3 q4, bcell hb3 q5⟩ (fun hHeldn => ?_)
  clear hK K hHeld
  have hHeld := hHeldn
  clear hHeldn
  try simp only [Act.put, List.setIfInBounds_toArray, List.set_cons_zero, List.set_cons_succ]
  refine headH_takeS (i := 7) (v := ?_) 30 rfl (by kernel_rfl) (by kernel_rfl) (fun _ _ _ h => h) (Or.inl ⟨by rfl, ?_⟩) hHeld ?_
  rotate_left
  · intro w hSw
    (try dsimp only at hSw)
    go_simp
    try with_reducible rfl
  try simp only [Act.put, List.setIfInBounds_toArray, List.set_cons_zero, List.set_cons_succ]
  refine headH_tail (by kernel_rfl) ?_
  clear hHeld
  have mem3 := mem0.below hb3
  have hb4 := btrans hb2 hb3
  have mem4 := mem3.putp (i := (idM n).num.toNat) (by omega) 1
  have fr3 := fun j => mem3.box.free j
  have cp3 := mem3.box.cp (i := (idM n).num.toNat) (by omega)
  clear q0 q1 q2 q3 q4 q5 mem0 mem3 fr bx
  go_wp2
  go_loopw [9, 7, 8] (fun i vf vw wr => ∃ (k : Nat) (fs : List Mp) (ps : List Sl) (pl : Nat → Int), i = .int .i64 k ∧ k ≤ fs.length ∧ fs.length ≤ 300 ∧ NmMem w.heap.size w.heap.size vf vw fs ps pl wr ∧ Hid (NmPure n (monB ms n k) fs ps pl) ∧ Below w.heap.size w wr) (fun i _ _ _ => 301 - (intOf i).toNat)
  case atStart => exact ⟨0, _, _, _, rfl, Nat.zero_le _, by simp, mem4, Lib.hid pur0, Below.setCell hb4 (Nat.le_refl _) _⟩
  case round =>
    clear mem4 fr3 cp3 hb3 hb2 hb4 pur0
    obtain ⟨k, fs, ps, pl, rfl, hk, h300, mem, pur, hb⟩ := hrel
    obtain ⟨Af, cf, rfl, hsf⟩ := mem.om.see
    by_cases hlt : k < fs.length
    · have l0 : (0 : Int) ≤ k := by omega
      have l1 : (k : Int) < fs.length := by omega
      have hlq := pur.out.len.1
      obtain ⟨now, hnow⟩ := el (xs := monB ms n k) (k := k) (by omega)
      have hfk := pur.out.getf hnow
      have HN := Lib.hid hnow
      have HFK := Lib.hid hfk
      clear hnow hfk hlq hsf
      go_wp2
      go_loopw [39, 7, 8] (fun i vf vw wr => ∃ (j : Nat) (fs : List Mp) (ps : List Sl) (pl : Nat → Int), i = .int .i64 j ∧ j ≤ ms.length ∧ fs.length ≤ 300 ∧ NmMem w.heap.size w.heap.size vf vw fs ps pl wr ∧ Hid (NmPure n (gTo (mst ms) now (monB ms n k) j) fs ps pl) ∧ Below w.heap.size w wr) (fun i _ _ _ => ms.length - (intOf i).toNat)
      case atStart => exact ⟨0, _, _, _, rfl, Nat.zero_le _, h300, mem, pur, hb⟩
      case round =>
        clear mem hb h300 hlt hk l1 HFK
        obtain ⟨j, fs, ps, pl, rfl, hj, h300, mem, pur, hb⟩ := hrel
        obtain ⟨Af, cf, rfl, hsf⟩ := mem.om.see
        by_cases hlj : j < ms.length
        · have hQ : (gTo (mst ms) now (monB ms n k) j)[k]? = some now := by
            obtain ⟨t, ht⟩ := gTo_prefix (st := mst ms) now (monB ms n k) j
            rw [ht, List.getElem?_append_left (List.getElem?_eq_some_iff.1 HN.out).1]
            exact HN.out
          have hfk := pur.out.getf hQ
          have hkl : k < fs.length := (List.getElem?_eq_some_iff.1 hfk).1
          have l1 : (k : Int) < fs.length := by omega
          obtain ⟨bv, ov, x, eA, hx, gx⟩ := hsf.at_ hkl
          rw [hfk] at hx
          obtain rfl := Option.some.inj hx
          subst eA
          obtain ⟨bl, ol, f, rfl, hf, gf⟩ := (HS.out.below hb).at_ hlj
          have lj0 : (0 : Int) ≤ j := by omega
          have lj1 : (j : Int) < ms.length := by omega
          have hfN : MpN f n := HR.out.all f (List.mem_of_getElem? hf)
          have hnN : MpN now.1 n := (monB_fine HR.out k).mem now (List.mem_of_getElem? HN.out)
          have hst : mst ms j now.1 = mulM now.1 f := by unfold mst; rw [List.getD_eq_getElem?_getD, hf]; rfl
          have hgN : MpN (mulM now.1 f) n := mulM_MpN hnN hfN
          have HST := Lib.hid hst
          have HQ := Lib.hid hQ
          obtain ⟨x0, x1, x2, x3, x4, x5⟩ := gx
          obtain ⟨f0, f1, f2, f3, f4, f5⟩ := gf
          clear hst hQ hfk hf hsf
          have hgo : ∃ g, g = mulM now.1 f := ⟨_, rfl⟩
          obtain ⟨g, hg⟩ := hgo
          rw [← hg] at hgN HST
          have hz := hb.size
          go_upto_region 11 with fail
          go_cut [12] from 44 to 84 (fun p12 wx => ∃ b12 : Nat, p12 = .pointer (some ⟨b12, 0, none⟩) ∧ wr.heap.size ≤ b12 ∧ MpBox wx b12 g ∧ Below wr.heap.size wr wx)
          case first =>
            have bt := MpBox.new (w := wr) f 27 rfl
            have htm := fun W => times_c now.1 f n W hnN hfN
            rw [← hg] at htm
            have HTM := Lib.hid htm
            clear htm hg
            obtain ⟨t0, t1, t2, t3, t4, t5⟩ := bt.at.cells0
            have k1 : Below wr.heap.size wr (wr.alloc (.cells #[.int .i64 f.p, .int .i64 f.a, .int .i64 f.b, .int .i64 f.c, .int .i64 f.d, .int .i64 f.e] 27)) := kbelow _ _
            replace x0 := bcell k1 x0
            replace x1 := bcell k1 x1
            replace x2 := bcell k1 x2
            replace x3 := bcell k1 x3
            replace x4 := bcell k1 x4
            replace x5 := bcell k1 x5
            refine wp_region_headS 7 (fun w' => w'.cell? ⟨bv, ov + k * 6, none⟩ = some (.int .i64 now.1.p) ∧ w'.cell? ⟨bv, ov + k * 6 + 1, none⟩ = some (.int .i64 now.1.a) ∧ w'.cell? ⟨bv, ov + k * 6 + 2, none⟩ = some (.int .i64 now.1.b) ∧ w'.cell? ⟨bv, ov + k * 6 + 3, none⟩ = some (.int .i64 now.1.c) ∧ w'.cell? ⟨bv, ov + k * 6 + 4, none⟩ = some (.int .i64 now.1.d) ∧ w'.cell? ⟨bv, ov + k * 6 + 5, none⟩ = some (.int .i64 now.1.e) ∧ w'.cell? ⟨wr.heap.size, 0, none⟩ = some (.int .i64 f.p) ∧ w'.cell? ⟨wr.heap.size, 1, none⟩ = some (.int .i64 f.a) ∧ w'.cell? ⟨wr.heap.size, 2, none⟩ = some (.int .i64 f.b) ∧ w'.cell? ⟨wr.heap.size, 3, none⟩ = some (.int .i64 f.c) ∧ w'.cell? ⟨wr.heap.size, 4, none⟩ = some (.int .i64 f.d) ∧ w'.cell? ⟨wr.heap.size, 5, none⟩ = some (.int .i64 f.e)) (by kernel_rfl) (by kernel_rfl) ⟨x0, x1, x2, x3, x4, x5, t0, t1, t2, t3, t4, t5⟩ (fun hHeld => ?_)
            simp only [List.drop]
            refine headH_takeS (i := 0) (v := ?_) 44 rfl (by kernel_rfl) (by kernel_rfl) (fun _ _ _ h => h) (Or.inl ⟨by rfl, ?_⟩) hHeld ?_
            rotate_left
            · intro w hSw
              (try dsimp only at hSw)
              go_simp
              try with_reducible rfl
            try simp only [Act.put, List.setIfInBounds_toArray, List.set_cons_zero, List.set_cons_succ]
            refine headH_takeS (i := 1) (v := ?_) 45 rfl (by kernel_rfl) (by kernel_rfl) (fun _ _ _ h => h) (Or.inl ⟨by rfl, ?_⟩) hHeld ?_
            rotate_left
            · intro w hSw
              (try dsimp only at hSw)
              go_simp
              try with_reducible rfl
            try simp only [Act.put, List.setIfInBounds_toArray, List.set_cons_zero, List.set_cons_succ]
            refine headH_takeS (i := 2) (v := ?_) 46 rfl (by kernel_rfl) (by kernel_rfl) (fun _ _ _ h => h) (Or.inl ⟨by rfl, ?_⟩) hHeld ?_
            rotate_left
            · intro w hSw
              (try dsimp only at hSw)
              go_simp
              try with_reducible rfl
            try simp only [Act.put, List.setIfInBounds_toArray, List.set_cons_zero, List.set_cons_succ]
            refine headH_takeS (i := 3) (v := ?_) 47 rfl (by kernel_rfl) (by kernel_rfl) (fun _ _ _ h => h) (Or.inl ⟨by rfl, ?_⟩) hHeld ?_
            rotate_left
            · intro w hSw
              (try dsimp only at hSw)
              go_simp
              try with_reducible rfl
            try simp only [Act.put, List.setIfInBounds_toArray, List.set_cons_zero, List.set_cons_succ]
            refine headH_takeS (i := 4) (v := ?_) 48 rfl (by kernel_rfl) (by kernel_rfl) (fun _ _ _ h => h) (Or.inl ⟨by rfl, ?_⟩) hHeld ?_
            rotate_left
            · intro w hSw
              (try dsimp only at hSw)
              go_simp
              try with_reducible rfl
            try simp only [Act.put, List.setIfInBounds_toArray, List.set_cons_zero, List.set_cons_succ]
            refine headH_all (rs := [5, 6]) (by kernel_rfl) (by kernel_rfl) (headH_cons rfl (fun K hK => ?_) (headH_cons rfl (fun K hK => ?_) headH_nil))
            · go_simp
              refine (HTM.out _).mono ?_
              rintro e w2 ⟨rfl, hb2⟩
              try go_simp
              replace hb2 := bdr hb2
              refine hK.out _ _ ⟨bcell hb2 x0, bcell hb2 x1, bcell hb2 x2, bcell hb2 x3, bcell hb2 x4, bcell hb2 x5, bcell hb2 t0, bcell hb2 t1, bcell hb2 t2, bcell hb2 t3, bcell hb2 t4, bcell hb2 t5⟩ (fun hHeldn => ?_)
              clear hK K hHeld
              have hHeld := hHeldn
              clear hHeldn
              try simp only [Act.put, List.setIfInBounds_toArray, List.set_cons_zero, List.set_cons_succ]
              refine headH_all (rs := [6]) (by kernel_rfl) (by kernel_rfl) (headH_cons rfl (fun K hK => ?_) headH_nil)
              go_simp
              have hb3 := btrans hb2 (kbelow w2 (.cells #[.int .i64 0, .int .i64 0, .int .i64 0, .int .i64 0, .int .i64 0, .int .i64 0] 27))
              refine hK.out _ _ ⟨bcell hb3 x0, bcell hb3 x1, bcell hb3 x2, bcell hb3 x3, bcell hb3 x4, bcell hb3 x5, bcell hb3 t0, bcell hb3 t1, bcell hb3 t2, bcell hb3 t3, bcell hb3 t4, bcell hb3 t5⟩ (fun hHeldn => ?_)
              clear hK K hHeld
              have hHeld := hHeldn
              clear hHeldn
              try simp only [Act.put, List.setIfInBounds_toArray, List.set_cons_zero, List.set_cons_succ]
              refine headH_tail (by kernel_rfl) ?_
              clear hHeld
              go_wp2
              go_meet
              exact ⟨_, rfl, by have h1 := (btrans k1 hb2).size; omega, MpBox.new g 27 rfl, btrans (btrans k1 hb2) (kbelow _ _)⟩
            · go_simp
              have bz := MpBox.new (w := (wr.alloc (.cells #[.int .i64 f.p, .int .i64 f.a, .int .i64 f.b, .int .i64 f.c, .int .i64 f.d, .int .i64 f.e] 27)).drew) (b := wr.heap.size + 1) Mp.z 27 (by show _ = (wr.alloc _).heap.size; simp)
              have hb2 : Below (wr.alloc (.cells #[.int .i64 f.p, .int .i64 f.a, .int .i64 f.b, .int .i64 f.c, .int .i64 f.d, .int .i64 f.e] 27)).heap.size (wr.alloc (.cells #[.int .i64 f.p, .int .i64 f.a, .int .i64 f.b, .int .i64 f.c, .int .i64 f.d, .int .i64 f.e] 27)) _ := bdr (kbelow (wr.alloc (.cells #[.int .i64 f.p, .int .i64 f.a, .int .i64 f.b, .int .i64 f.c, .int .i64 f.d, .int .i64 f.e] 27)).drew (.cells #[.int .i64 0, .int .i64 0, .int .i64 0, .int .i64 0, .int .i64 0, .int .i64 0] 27))
              refine hK.out _ _ ⟨bcell hb2 x0, bcell hb2 x1, bcell hb2 x2, bcell hb2 x3, bcell hb2 x4, bcell hb2 x5, bcell hb2 t0, bcell hb2 t1, bcell hb2 t2, bcell hb2 t3, bcell hb2 t4, bcell hb2 t5⟩ (fun hHeldn => ?_)
              clear hK K hHeld
              have hHeld := hHeldn
              clear hHeldn
              try simp only [Act.put, List.setIfInBounds_toArray, List.set_cons_zero, List.set_cons_succ]
              refine headH_all (rs := [5]) (by kernel_rfl) (by kernel_rfl) (headH_cons rfl (fun K hK => ?_) headH_nil)
              go_simp
              refine (HTM.out _).mono ?_
              rintro e w2 ⟨rfl, hb3⟩
              try go_simp
              replace bz := bz.below hb3
              replace hb3 := btrans hb2 hb3
              refine hK.out _ _ ⟨bcell hb3 x0, bcell hb3 x1, bcell hb3 x2, bcell hb3 x3, bcell hb3 x4, bcell hb3 x5, bcell hb3 t0, bcell hb3 t1, bcell hb3 t2, bcell hb3 t3, bcell hb3 t4, bcell hb3 t5⟩ (fun hHeldn => ?_)
              clear hK K hHeld
              have hHeld := hHeldn
              clear hHeldn
              try simp only [Act.put, List.setIfInBounds_toArray, List.set_cons_zero, List.set_cons_succ]
              refine headH_tail (by kernel_rfl) ?_
              clear hHeld
              have fz := bz.free
              obtain ⟨z0, z1', z2, z3, z4, z5⟩ := bz.at.cells0
              go_wp2
              go_meet
              refine ⟨_, rfl, by omega, bz.store g, ?_⟩
              have hk := btrans k1 hb3
              exact Below.setCell (Below.setCell (Below.setCell (Below.setCell (Below.setCell (Below.setCell hk (by show _ ≤ wr.heap.size + 1; omega) _) (by show _ ≤ wr.heap.size + 1; omega) _) (by show _ ≤ wr.heap.size + 1; omega) _) (by show _ ≤ wr.heap.size + 1; omega) _) (by show _ ≤ wr.heap.size + 1; omega) _) (by show _ ≤ wr.heap.size + 1; omega) _
          case rest =>
            obtain ⟨b12, rfl, hb12, box12, hbc⟩ := hcut
            clear x0 x1 x2 x3 x4 x5 f0 f1 f2 f3 f4 f5 hg
            have mem5 := mem.below hbc
            have hb5 := btrans hb hbc
            have hgl := hgN.num_lt
            have g0 := hgl.1
            have g1' := hgl.2
            have hfb : ∀ q, (Value.slice (some ⟨bv, ov, none⟩) fs.length cf).ownBlock = some q → q < b12 := fun q hq => Nat.lt_of_lt_of_le (mem.om.lt q hq).2 hb12
            have hwb : ∀ q, (u8 : Value).ownBlock = some q → q < b12 := fun q hq => Nat.lt_of_lt_of_le (mem.ow.lt q hq).2 hb12
            have hpq := pur.out.pq g hgN
            obtain ⟨y0, y1, y2, y3, y4, y5⟩ := box12.at.bw
            simp only [Nat.zero_add] at y0 y1 y2 y3 y4 y5
            have CP := bwcell (mem5.box.cp (i := g.num.toNat) (by omega))
            clear hgl mem
            obtain ⟨pv, hpv⟩ : ∃ pv, pv = pl g.num.toNat := ⟨_, rfl⟩
            rw [← hpv] at CP
            have HPV := Lib.hid hpv
            clear hpv
            go_wp2
            refine wp_region_bw (by kernel_rfl) (by kernel_rfl) ?_
            repeat go_big_quiet_step ((go_at_call 111; exact Calls.bw _ (number_c g n _ hgN)))
            refine wpQuiet_nil ?_
            rintro w6 ⟨⟨w6x, hb6⟩, rfl⟩
            clear y0 y1 y2 y3 y4 y5 CP
            have mem6 := mem5.below hb6
            have box6 := box12.below hb6
            have hb7 := btrans hb5 hb6
            have hany := pur.out.any g
            have HANY := Lib.hid hany
            clear hany mem5 box12 hbc hb5 hb6
            by_cases hin : g ∈ fs
            · obtain ⟨q, hq⟩ := List.mem_iff_getElem?.1 hin
              have d : (0 : Int) < pv := by
                have := hpq.1 q hq
                rw [HPV.out]
                omega
              have HIN := Lib.hid hin
              clear hq hin hpq
              go_wp2
              go_roundw
              case rel =>
                refine ⟨j + 1, fs, ps, pl, by go_num, by omega, h300, mem6, Lib.hid ?_, hb7⟩
                have e : gTo (mst ms) now (monB ms n k) (j + 1) = gTo (mst ms) now (monB ms n k) j := g1_hit (by rw [HST.out, HANY.out]; exact decide_eq_true HIN.out)
                rw [e]
                exact pur.out
              case measure => simp [intOf]; omega
            · have hz0 := hpq.2 hin
              obtain rfl : pv = 0 := HPV.out.trans hz0
              have HIN := Lib.hid hin
              have enew := gTo_new HST.out (HANY.out.trans (decide_eq_false hin))
              have ENEW := Lib.hid enew
              clear hin hpq hz0 enew
              by_cases h3 : fs.length = 300
              · have d3 : ((fs.length : Int) == 300) = true := by simp [h3]
                have hbig := mon_full HN.out hlj hkl ENEW.out pur.out.len.1 h3
                have HB := Lib.hid hbig
                clear hbig h3
                go_wp2
                go_returns
                exact .inr ⟨HB.out, rfl, hb7⟩
              · have d3 : ((fs.length : Int) == 300) = false := by
                  refine beq_eq_false_iff_ne.2 fun e => h3 ?_
                  omega
                have h299 : fs.length < 300 := by omega
                clear h3
                go_upto_region 15 with fail
                go_cut [7, 8] from 61 to 84 (fun v7 v8 wx => ∃ s : Sl, s.xs = now.2 ++ [(j : Int)] ∧ NmMem w.heap.size w.heap.size v7 v8 (fs ++ [g]) (ps ++ [s]) pl wx ∧ MpBox wx b12 g ∧ Below w.heap.size w wx)
                case first =>
                  obtain ⟨sw, hsw, hswx⟩ := pur.out.getw HQ.out
                  obtain ⟨Aw, cw, rfl, gw⟩ := mem6.ow.at_
                  obtain ⟨bw, rfl, qw⟩ := gw k sw hsw
                  unfold Sl.v at qw
                  have hkw : k < ps.length := (List.getElem?_eq_some_iff.1 hsw).1
                  have hkw' : (k : Int) < ps.length := by omega
                  have hwl : sw.xs.length ≤ 300 := by
                    have h1 := gb_words (st := mst ms) (L := ms.length) (start := idM n) k now (List.mem_of_getElem? HN.out)
                    rw [hswx]
                    omega
                  have hpl : ps.length ≤ 300 := by rw [pur.out.len.2, ← pur.out.len.1]; exact h300
                  have hsm := List.mem_of_getElem? hsw
                  have hlo : ∀ s ∈ ps, ∀ q, s.v.ownBlock = some q → q < w6.heap.size := fun s hs q hq => ((mem6.ew s hs).lt q hq).2
                  have hfb6 : ∀ q, (Value.slice (some ⟨bv, ov, none⟩) fs.length cf).ownBlock = some q → q < w6.heap.size := fun q hq => (mem6.om.lt q hq).2
                  have hb12' := box6.lt
                  have hz6 : w.heap.size ≤ w6.heap.size := hb7.size
                  have fne : (Value.slice (some ⟨bv, ov, none⟩) fs.length cf).ownBlock ≠ some b12 := fun e => by have := hfb b12 e; omega
                  have wne : (Value.slice (some ⟨bw, 0, none⟩) ps.length cw).ownBlock ≠ some b12 := fun e => by have := hwb b12 e; omega
                  have fwne : (Value.slice (some ⟨bv, ov, none⟩) fs.length cf).ownBlock ≠ some bw := fun e => by obtain ⟨ys, h1, _⟩ := mem6.om; exact own_ne h1 mem6.ow (by decide) bw e rfl
                  have HSW := Lib.hid hsw
                  have HSWX := Lib.hid hswx
                  have HGW := Lib.hid gw
                  clear hsw hswx gw
                  -- r15 begin
                  have mem6' := mem6
                  have q6 := qw
                  have k6 : Below w6.heap.size w6 w6.drew := bdr (Below.refl _ _)
                  have kw6 := btrans hb7 k6
                  have z6 : w6.heap.size ≤ w6.drew.heap.size := Nat.le_refl _
                  replace mem6 := mem6.below k6
                  replace box6 := box6.below k6
                  refine wp_region_headS 14 (fun w' => w'.cell? ⟨b12, 0, none⟩ = some (.int .i64 g.p) ∧ w'.cell? ⟨b12, 1, none⟩ = some (.int .i64 g.a) ∧ w'.cell? ⟨b12, 2, none⟩ = some (.int .i64 g.b) ∧ w'.cell? ⟨b12, 3, none⟩ = some (.int .i64 g.c) ∧ w'.cell? ⟨b12, 4, none⟩ = some (.int .i64 g.d) ∧ w'.cell? ⟨b12, 5, none⟩ = some (.int .i64 g.e) ∧ w'.cell? ⟨bw, k, none⟩ = some (.slice sw.A sw.xs.length sw.c)) (by kernel_rfl) (by kernel_rfl) ⟨(box6).at.cells0.1, (box6).at.cells0.2.1, (box6).at.cells0.2.2.1, (box6).at.cells0.2.2.2.1, (box6).at.cells0.2.2.2.2.1, (box6).at.cells0.2.2.2.2.2, qw⟩ (fun hHeld => ?_)
                  simp only [List.drop]
                  refine headH_takeS (i := 0) (v := ?_) 61 rfl (by kernel_rfl) (by kernel_rfl) (fun _ _ _ h => h) (Or.inl ⟨by rfl, ?_⟩) hHeld ?_
                  rotate_left
                  · intro w hSw
                    (try dsimp only at hSw)
                    go_simp
                    try with_reducible rfl
                  try simp only [Act.put, List.setIfInBounds_toArray, List.set_cons_zero, List.set_cons_succ]
                  refine headH_takeS (i := 1) (v := ?_) 62 rfl (by kernel_rfl) (by kernel_rfl) (fun _ _ _ h => h) (Or.inl ⟨by rfl, ?_⟩) hHeld ?_
                  rotate_left
                  · intro w hSw
                    (try dsimp only at hSw)
                    go_simp
                    try with_reducible rfl
                  try simp only [Act.put, List.setIfInBounds_toArray, List.set_cons_zero, List.set_cons_succ]
                  refine headH_takeS (i := 4) (v := ?_) 65 rfl (by kernel_rfl) (by kernel_rfl) (fun _ _ _ h => h) (Or.inl ⟨by rfl, ?_⟩) hHeld ?_
                  rotate_left
                  · intro w hSw
                    (try dsimp only at hSw)
                    go_simp
                    try with_reducible rfl
                  try simp only [Act.put, List.setIfInBounds_toArray, List.set_cons_zero, List.set_cons_succ]
                  refine headH_takeS (i := 5) (v := ?_) 66 rfl (by kernel_rfl) (by kernel_rfl) (fun _ _ _ h => h) (Or.inl ⟨by rfl, ?_⟩) hHeld ?_
                  rotate_left
                  · intro w hSw
                    (try dsimp only at hSw)
                    go_simp
                    try with_reducible rfl
                  try simp only [Act.put, List.setIfInBounds_toArray, List.set_cons_zero, List.set_cons_succ]
                  refine headH_takeS (i := 6) (v := ?_) 67 rfl (by kernel_rfl) (by kernel_rfl) (fun _ _ _ h => h) (Or.inl ⟨by rfl, ?_⟩) hHeld ?_
                  rotate_left
                  · intro w hSw
                    (try dsimp only at hSw)
                    go_simp
                    try with_reducible rfl
                  try simp only [Act.put, List.setIfInBounds_toArray, List.set_cons_zero, List.set_cons_succ]
                  refine headH_takeS (i := 7) (v := ?_) 68 rfl (by kernel_rfl) (by kernel_rfl) (fun _ _ _ h => h) (Or.inl ⟨by rfl, ?_⟩) hHeld ?_
                  rotate_left
                  · intro w hSw
                    (try dsimp only at hSw)
                    go_simp
                    try with_reducible rfl
                  try simp only [Act.put, List.setIfInBounds_toArray, List.set_cons_zero, List.set_cons_succ]
                  refine headH_takeS (i := 8) (v := ?_) 69 rfl (by kernel_rfl) (by kernel_rfl) (fun _ _ _ h => h) (Or.inl ⟨by rfl, ?_⟩) hHeld ?_
                  rotate_left
                  · intro w hSw
                    (try dsimp only at hSw)
                    go_simp
                    try with_reducible rfl
                  try simp only [Act.put, List.setIfInBounds_toArray, List.set_cons_zero, List.set_cons_succ]
                  refine headH_takeS (i := 10) (v := ?_) 71 rfl (by kernel_rfl) (by kernel_rfl) (fun _ _ _ h => h) (Or.inl ⟨by rfl, ?_⟩) hHeld ?_
                  rotate_left
                  · intro w hSw
                    (try dsimp only at hSw)
                    go_simp
                    try with_reducible rfl
                  try simp only [Act.put, List.setIfInBounds_toArray, List.set_cons_zero, List.set_cons_succ]
                  refine headH_all (rs := [2, 11]) (by kernel_rfl) (by kernel_rfl) (headH_cons rfl (fun K hK => ?_) (headH_cons rfl (fun K hK => ?_) headH_nil))
                  · go_simp
                    have kkA := kbelow w6.drew (.cells #[.int .i64 g.p, .int .i64 g.a, .int .i64 g.b, .int .i64 g.c, .int .i64 g.d, .int .i64 g.e] 27)
                    have memA := mem6.below kkA
                    have boxA := box6.below kkA
                    have qA := bcell kkA q6
                    have kA := btrans k6 kkA
                    have kwA := btrans kw6 kkA
                    have zA := Nat.le_trans z6 kkA.size
                    have bmA : MpBox (w6.drew.alloc (.cells #[.int .i64 g.p, .int .i64 g.a, .int .i64 g.b, .int .i64 g.c, .int .i64 g.d, .int .i64 g.e] 27)) w6.heap.size g := MpBox.new g 27 (by first | rfl | (show _ = (w6.alloc _).heap.size; simp))
                    refine hK.out _ _ ⟨(boxA).at.cells0.1, (boxA).at.cells0.2.1, (boxA).at.cells0.2.2.1, (boxA).at.cells0.2.2.2.1, (boxA).at.cells0.2.2.2.2.1, (boxA).at.cells0.2.2.2.2.2, qA⟩ (fun hHeldn => ?_)
                    clear hK K hHeld
                    have hHeld := hHeldn
                    clear hHeldn
                    try simp only [Act.put, List.setIfInBounds_toArray, List.set_cons_zero, List.set_cons_succ]
                    refine headH_all (rs := [3, 11]) (by kernel_rfl) (by kernel_rfl) (headH_cons rfl (fun K hK => ?_) (headH_cons rfl (fun K hK => ?_) headH_nil))
                    · refine step_push_map _ rfl (.tmp 61) (.tmp 63) rfl w.heap.size _ fs rfl memA.om _ g rfl bmA (by omega) (Nat.le_trans hz6 zA) ?_
                      intro v64 w3 hown3 hg3 hv3
                      have memB := memA.growM hg3 hown3
                      have boxB := boxA.grow hg3 fne
                      have qB := hg3.cell qA (Ne.symm fwne)
                      have kwB : Below w.heap.size w w3 := Below.grown kwA hg3 kwA.size (fun q hq => (memA.om.lt q hq).1)
                      have zB : w6.heap.size ≤ w3.heap.size := Nat.le_trans zA hg3.size
                      refine hK.out _ _ ⟨(boxB).at.cells0.1, (boxB).at.cells0.2.1, (boxB).at.cells0.2.2.1, (boxB).at.cells0.2.2.2.1, (boxB).at.cells0.2.2.2.2.1, (boxB).at.cells0.2.2.2.2.2, qB⟩ (fun hHeldn => ?_)
                      clear hK K hHeld
                      have hHeld := hHeldn
                      clear hHeldn
                      try simp only [Act.put, List.setIfInBounds_toArray, List.set_cons_zero, List.set_cons_succ]
                      refine headH_all (rs := [9, 11]) (by kernel_rfl) (by kernel_rfl) (headH_cons rfl (fun K hK => ?_) (headH_cons rfl (fun K hK => ?_) headH_nil))
                      · go_simp
                        go_at_call 112
                        have hs9 : OwnInts w3 w.heap.size (.slice sw.A sw.xs.length sw.c) sw.xs := memB.ew sw hsm
                        refine (CloneI_c sw.A sw.c sw.xs _ hs9.see' hs9.nilok (by omega)).mono ?_
                        rintro e w9 ⟨v70, rfl, hown9, hb9⟩
                        obtain ⟨A70, c70, rfl, _⟩ := hown9.see
                        try go_simp
                        have memC := memB.below hb9
                        have boxC := boxB.below hb9
                        have qC := bcell hb9 qB
                        have kwC := btrans kwB hb9
                        have zC := Nat.le_trans zB hb9.size
                        have ownC : OwnInts w9 w6.heap.size _ sw.xs := hown9.mono zB
                        refine hK.out _ _ ⟨(boxC).at.cells0.1, (boxC).at.cells0.2.1, (boxC).at.cells0.2.2.1, (boxC).at.cells0.2.2.2.1, (boxC).at.cells0.2.2.2.2.1, (boxC).at.cells0.2.2.2.2.2, qC⟩ (fun hHeldn => ?_)
                        clear hK K hHeld
                        have hHeld := hHeldn
                        clear hHeldn
                        try simp only [Act.put, List.setIfInBounds_toArray, List.set_cons_zero, List.set_cons_succ]
                        refine headH_all (rs := [11]) (by kernel_rfl) (by kernel_rfl) (headH_cons rfl (fun K hK => ?_) headH_nil)
                        go_simp
                        have kkD := kbelow w9 (.cells #[.int .i64 (j : Int)] 2)
                        have memD := memC.below kkD
                        have boxD := boxC.below kkD
                        have qD := bcell kkD qC
                        have kwD := btrans kwC kkD
                        have zD := Nat.le_trans zC kkD.size
                        have ownD := ownC.below kkD
                        have jD : (w9.alloc (.cells #[.int .i64 (j : Int)] 2)).cell? ⟨w9.heap.size, 0, none⟩ = some (.int .i64 (j : Int)) := by simp [go_sem]
                        have jbD : w6.heap.size ≤ w9.heap.size := by first | omega | exact zC
                        refine hK.out _ _ ⟨(boxD).at.cells0.1, (boxD).at.cells0.2.1, (boxD).at.cells0.2.2.1, (boxD).at.cells0.2.2.2.1, (boxD).at.cells0.2.2.2.2.1, (boxD).at.cells0.2.2.2.2.2, qD⟩ (fun hHeldn => ?_)
                        clear hK K hHeld
                        have hHeld := hHeldn
                        clear hHeldn
                        try simp only [Act.put, List.setIfInBounds_toArray, List.set_cons_zero, List.set_cons_succ]
                        refine headH_all (rs := [12]) (by kernel_rfl) (by kernel_rfl) (headH_cons rfl (fun K hK => ?_) headH_nil)
                        refine step_push_int _ rfl (.tmp 70) (.tmp 72) rfl w6.heap.size _ sw.xs rfl ownD _ (j : Int) rfl jD (by omega) zD ?_
                        intro v73 w12 hown12 hg12 hv12
                        have ine : ∀ q, (Value.slice A70 sw.xs.length c70).ownBlock = some q → w6.heap.size ≤ q := fun q hq => (ownD.lt q hq).1
                        have mem12 := memD.growI hg12 ownD hlo
                        have box12' := boxD.grow hg12 (fun e => by have := ine b12 e; omega)
                        have hwb6 : bw < w6.heap.size := World.block_lt_of_cell? w6 ⟨bw, k, none⟩ qw
                        have q12 := hg12.cell qD (Ne.symm (fun e => by have h1 := ine bw e; omega))
                        have kw12 : Below w.heap.size w w12 := Below.grown kwD hg12 kwD.size (fun q hq => Nat.le_trans hz6 (ine q hq))
                        have z12 : w6.heap.size ≤ w12.heap.size := Nat.le_trans zD hg12.size
                        obtain ⟨wd, hwd⟩ : ∃ wd, wd = sw.xs ++ [(j : Int)] := ⟨_, rfl⟩
                        rw [← hwd] at hown12
                        have HWD := Lib.hid hwd
                        clear hwd
                        obtain ⟨A73, c73, rfl, _⟩ := hown12.see
                        refine hK.out _ _ ⟨(box12').at.cells0.1, (box12').at.cells0.2.1, (box12').at.cells0.2.2.1, (box12').at.cells0.2.2.2.1, (box12').at.cells0.2.2.2.2.1, (box12').at.cells0.2.2.2.2.2, q12⟩ (fun hHeldn => ?_)
                        clear hK K hHeld
                        have hHeld := hHeldn
                        clear hHeldn
                        try simp only [Act.put, List.setIfInBounds_toArray, List.set_cons_zero, List.set_cons_succ]
                        refine headH_all (rs := [13]) (by kernel_rfl) (by kernel_rfl) (headH_cons rfl (fun K hK => ?_) headH_nil)
                        go_simp
                        have kk13 := kbelow w12 (.cells #[.slice A73 wd.length c73] 103)
                        have mem13 := mem12.below kk13
                        have box13 := box12'.below kk13
                        have q13 := bcell kk13 q12
                        have kw13 := btrans kw12 kk13
                        have own13 := hown12.below kk13
                        refine hK.out _ _ ⟨(box13).at.cells0.1, (box13).at.cells0.2.1, (box13).at.cells0.2.2.1, (box13).at.cells0.2.2.2.1, (box13).at.cells0.2.2.2.2.1, (box13).at.cells0.2.2.2.2.2, q13⟩ (fun hHeldn => ?_)
                        clear hK K hHeld
                        have hHeld := hHeldn
                        clear hHeldn
                        try simp only [Act.put, List.setIfInBounds_toArray, List.set_cons_zero, List.set_cons_succ]
                        refine headH_tail (by kernel_rfl) ?_
                        clear hHeld
                        refine wpList_push_sl _ rfl (.tmp 65) (.tmp 74) rfl w.heap.size _ ps rfl mem13.ow _ ⟨A73, c73, wd⟩ rfl (by simp [go_sem]) (by omega) kw13.size ?_
                        intro v75 w14 hown14 hg14 hv14
                        have own13' : OwnInts (w12.alloc (.cells #[.slice A73 wd.length c73] 103)) w.heap.size (Sl.v ⟨A73, c73, wd⟩) wd := own13.mono hz6
                        have mem14 := mem13.growS hg14 hown14 own13'
                        have box14 := box13.grow hg14 wne
                        have kw14 : Below w.heap.size w w14 := Below.grown kw13 hg14 kw13.size (fun q hq => (mem13.ow.lt q hq).1)
                        go_wp2
                        go_meet
                        exact ⟨⟨A73, c73, wd⟩, by rw [← HSWX.out]; exact HWD.out, mem14, box14, kw14⟩
                      · go_simp
                        have kkC := kbelow w3 (.cells #[.int .i64 (j : Int)] 2)
                        have memC := memB.below kkC
                        have boxC := boxB.below kkC
                        have qC := bcell kkC qB
                        have kwC := btrans kwB kkC
                        have zC := Nat.le_trans zB kkC.size
                        have jC : (w3.alloc (.cells #[.int .i64 (j : Int)] 2)).cell? ⟨w3.heap.size, 0, none⟩ = some (.int .i64 (j : Int)) := by simp [go_sem]
                        have jbC : w6.heap.size ≤ w3.heap.size := by first | omega | exact zB
                        refine hK.out _ _ ⟨(boxC).at.cells0.1, (boxC).at.cells0.2.1, (boxC).at.cells0.2.2.1, (boxC).at.cells0.2.2.2.1, (boxC).at.cells0.2.2.2.2.1, (boxC).at.cells0.2.2.2.2.2, qC⟩ (fun hHeldn => ?_)
                        clear hK K hHeld
                        have hHeld := hHeldn
                        clear hHeldn
                        try simp only [Act.put, List.setIfInBounds_toArray, List.set_cons_zero, List.set_cons_succ]
                        refine headH_all (rs := [9]) (by kernel_rfl) (by kernel_rfl) (headH_cons rfl (fun K hK => ?_) headH_nil)
                        go_simp
                        go_at_call 112
                        have hs9 : OwnInts (w3.alloc (.cells #[.int .i64 (j : Int)] 2)) w.heap.size (.slice sw.A sw.xs.length sw.c) sw.xs := memC.ew sw hsm
                        refine (CloneI_c sw.A sw.c sw.xs _ hs9.see' hs9.nilok (by omega)).mono ?_
                        rintro e w9 ⟨v70, rfl, hown9, hb9⟩
                        obtain ⟨A70, c70, rfl, _⟩ := hown9.see
                        try go_simp
                        have memD := memC.below hb9
                        have boxD := boxC.below hb9
                        have qD := bcell hb9 qC
                        have kwD := btrans kwC hb9
                        have zD := Nat.le_trans zC hb9.size
                        have jD := bcell hb9 jC
                        have ownD : OwnInts w9 w6.heap.size _ sw.xs := hown9.mono zC
                        refine hK.out _ _ ⟨(boxD).at.cells0.1, (boxD).at.cells0.2.1, (boxD).at.cells0.2.2.1, (boxD).at.cells0.2.2.2.1, (boxD).at.cells0.2.2.2.2.1, (boxD).at.cells0.2.2.2.2.2, qD⟩ (fun hHeldn => ?_)
                        clear hK K hHeld
                        have hHeld := hHeldn
                        clear hHeldn
                        try simp only [Act.put, List.setIfInBounds_toArray, List.set_cons_zero, List.set_cons_succ]
                        refine headH_all (rs := [12]) (by kernel_rfl) (by kernel_rfl) (headH_cons rfl (fun K hK => ?_) headH_nil)
                        refine step_push_int _ rfl (.tmp 70) (.tmp 72) rfl w6.heap.size _ sw.xs rfl ownD _ (j : Int) rfl jD (by omega) zD ?_
                        intro v73 w12 hown12 hg12 hv12
                        have ine : ∀ q, (Value.slice A70 sw.xs.length c70).ownBlock = some q → w6.heap.size ≤ q := fun q hq => (ownD.lt q hq).1
                        have mem12 := memD.growI hg12 ownD hlo
                        have box12' := boxD.grow hg12 (fun e => by have := ine b12 e; omega)
                        have hwb6 : bw < w6.heap.size := World.block_lt_of_cell? w6 ⟨bw, k, none⟩ qw
                        have q12 := hg12.cell qD (Ne.symm (fun e => by have h1 := ine bw e; omega))
                        have kw12 : Below w.heap.size w w12 := Below.grown kwD hg12 kwD.size (fun q hq => Nat.le_trans hz6 (ine q hq))
                        have z12 : w6.heap.size ≤ w12.heap.size := Nat.le_trans zD hg12.size
                        obtain ⟨wd, hwd⟩ : ∃ wd, wd = sw.xs ++ [(j : Int)] := ⟨_, rfl⟩
                        rw [← hwd] at hown12
                        have HWD := Lib.hid hwd
                        clear hwd
                        obtain ⟨A73, c73, rfl, _⟩ := hown12.see
                        refine hK.out _ _ ⟨(box12').at.cells0.1, (box12').at.cells0.2.1, (box12').at.cells0.2.2.1, (box12').at.cells0.2.2.2.1, (box12').at.cells0.2.2.2.2.1, (box12').at.cells0.2.2.2.2.2, q12⟩ (fun hHeldn => ?_)
                        clear hK K hHeld
                        have hHeld := hHeldn
                        clear hHeldn
                        try simp only [Act.put, List.setIfInBounds_toArray, List.set_cons_zero, List.set_cons_succ]
                        refine headH_all (rs := [13]) (by kernel_rfl) (by kernel_rfl) (headH_cons rfl (fun K hK => ?_) headH_nil)
                        go_simp
                        have kk13 := kbelow w12 (.cells #[.slice A73 wd.length c73] 103)
                        have mem13 := mem12.below kk13
                        have box13 := box12'.below kk13
                        have q13 := bcell kk13 q12
                        have kw13 := btrans kw12 kk13
                        have own13 := hown12.below kk13
                        refine hK.out _ _ ⟨(box13).at.cells0.1, (box13).at.cells0.2.1, (box13).at.cells0.2.2.1, (box13).at.cells0.2.2.2.1, (box13).at.cells0.2.2.2.2.1, (box13).at.cells0.2.2.2.2.2, q13⟩ (fun hHeldn => ?_)
                        clear hK K hHeld
                        have hHeld := hHeldn
                        clear hHeldn
                        try simp only [Act.put, List.setIfInBounds_toArray, List.set_cons_zero, List.set_cons_succ]
                        refine headH_tail (by kernel_rfl) ?_
                        clear hHeld
                        refine wpList_push_sl _ rfl (.tmp 65) (.tmp 74) rfl w.heap.size _ ps rfl mem13.ow _ ⟨A73, c73, wd⟩ rfl (by simp [go_sem]) (by omega) kw13.size ?_
                        intro v75 w14 hown14 hg14 hv14
                        have own13' : OwnInts (w12.alloc (.cells #[.slice A73 wd.length c73] 103)) w.heap.size (Sl.v ⟨A73, c73, wd⟩) wd := own13.mono hz6
                        have mem14 := mem13.growS hg14 hown14 own13'
                        have box14 := box13.grow hg14 wne
                        have kw14 : Below w.heap.size w w14 := Below.grown kw13 hg14 kw13.size (fun q hq => (mem13.ow.lt q hq).1)
                        go_wp2
                        go_meet
                        exact ⟨⟨A73, c73, wd⟩, by rw [← HSWX.out]; exact HWD.out, mem14, box14, kw14⟩
                    · go_simp
                      have kkB := kbelow (w6.drew.alloc (.cells #[.int .i64 g.p, .int .i64 g.a, .int .i64 g.b, .int .i64 g.c, .int .i64 g.d, .int .i64 g.e] 27)) (.cells #[.int .i64 (j : Int)] 2)
                      have memB := memA.below kkB
                      have boxB := boxA.below kkB
                      have qB := bcell kkB qA
                      have kB := btrans kA kkB
                      have kwB := btrans kwA kkB
                      have zB := Nat.le_trans zA kkB.size
                      have bmB := bmA.below kkB
                      have jB : ((w6.drew.alloc (.cells #[.int .i64 g.p, .int .i64 g.a, .int .i64 g.b, .int .i64 g.c, .int .i64 g.d, .int .i64 g.e] 27)).alloc (.cells #[.int .i64 (j : Int)] 2)).cell? ⟨(w6.heap.size + 1), 0, none⟩ = some (.int .i64 (j : Int)) := by simp [go_sem]
                      have jbB : w6.heap.size ≤ (w6.heap.size + 1) := by first | omega | exact zA
                      refine hK.out _ _ ⟨(boxB).at.cells0.1, (boxB).at.cells0.2.1, (boxB).at.cells0.2.2.1, (boxB).at.cells0.2.2.2.1, (boxB).at.cells0.2.2.2.2.1, (boxB).at.cells0.2.2.2.2.2, qB⟩ (fun hHeldn => ?_)
                      clear hK K hHeld
                      have hHeld := hHeldn
                      clear hHeldn
                      try simp only [Act.put, List.setIfInBounds_toArray, List.set_cons_zero, List.set_cons_succ]
                      refine headH_all (rs := [3]) (by kernel_rfl) (by kernel_rfl) (headH_cons rfl (fun K hK => ?_) headH_nil)
                      refine step_push_map _ rfl (.tmp 61) (.tmp 63) rfl w.heap.size _ fs rfl memB.om _ g rfl bmB (by omega) (Nat.le_trans hz6 zB) ?_
                      intro v64 w3 hown3 hg3 hv3
                      have memC := memB.growM hg3 hown3
                      have boxC := boxB.grow hg3 fne
                      have qC := hg3.cell qB (Ne.symm fwne)
                      have kwC : Below w.heap.size w w3 := Below.grown kwB hg3 kwB.size (fun q hq => (memB.om.lt q hq).1)
                      have zC : w6.heap.size ≤ w3.heap.size := Nat.le_trans zB hg3.size
                      have jC := hg3.cell jB (Ne.symm (fun e => by have h1 := hfb6 _ e; have h2 := jbB; (try dsimp only at h1); omega))
                      refine hK.out _ _ ⟨(boxC).at.cells0.1, (boxC).at.cells0.2.1, (boxC).at.cells0.2.2.1, (boxC).at.cells0.2.2.2.1, (boxC).at.cells0.2.2.2.2.1, (boxC).at.cells0.2.2.2.2.2, qC⟩ (fun hHeldn => ?_)
                      clear hK K hHeld
                      have hHeld := hHeldn
                      clear hHeldn
                      try simp only [Act.put, List.setIfInBounds_toArray, List.set_cons_zero, List.set_cons_succ]
                      refine headH_all (rs := [9]) (by kernel_rfl) (by kernel_rfl) (headH_cons rfl (fun K hK => ?_) headH_nil)
                      go_simp
                      go_at_call 112
                      have hs9 : OwnInts w3 w.heap.size (.slice sw.A sw.xs.length sw.c) sw.xs := memC.ew sw hsm
                      refine (CloneI_c sw.A sw.c sw.xs _ hs9.see' hs9.nilok (by omega)).mono ?_
                      rintro e w9 ⟨v70, rfl, hown9, hb9⟩
                      obtain ⟨A70, c70, rfl, _⟩ := hown9.see
                      try go_simp
                      have memD := memC.below hb9
                      have boxD := boxC.below hb9
                      have qD := bcell hb9 qC
                      have kwD := btrans kwC hb9
                      have zD := Nat.le_trans zC hb9.size
                      have jD := bcell hb9 jC
                      have ownD : OwnInts w9 w6.heap.size _ sw.xs := hown9.mono zC
                      refine hK.out _ _ ⟨(boxD).at.cells0.1, (boxD).at.cells0.2.1, (boxD).at.cells0.2.2.1, (boxD).at.cells0.2.2.2.1, (boxD).at.cells0.2.2.2.2.1, (boxD).at.cells0.2.2.2.2.2, qD⟩ (fun hHeldn => ?_)
                      clear hK K hHeld
                      have hHeld := hHeldn
                      clear hHeldn
                      try simp only [Act.put, List.setIfInBounds_toArray, List.set_cons_zero, List.set_cons_succ]
                      refine headH_all (rs := [12]) (by kernel_rfl) (by kernel_rfl) (headH_cons rfl (fun K hK => ?_) headH_nil)
                      refine step_push_int _ rfl (.tmp 70) (.tmp 72) rfl w6.heap.size _ sw.xs rfl ownD _ (j : Int) rfl jD (by omega) zD ?_
                      intro v73 w12 hown12 hg12 hv12
                      have ine : ∀ q, (Value.slice A70 sw.xs.length c70).ownBlock = some q → w6.heap.size ≤ q := fun q hq => (ownD.lt q hq).1
                      have mem12 := memD.growI hg12 ownD hlo
                      have box12' := boxD.grow hg12 (fun e => by have := ine b12 e; omega)
                      have hwb6 : bw < w6.heap.size := World.block_lt_of_cell? w6 ⟨bw, k, none⟩ qw
                      have q12 := hg12.cell qD (Ne.symm (fun e => by have h1 := ine bw e; omega))
                      have kw12 : Below w.heap.size w w12 := Below.grown kwD hg12 kwD.size (fun q hq => Nat.le_trans hz6 (ine q hq))
                      have z12 : w6.heap.size ≤ w12.heap.size := Nat.le_trans zD hg12.size
                      obtain ⟨wd, hwd⟩ : ∃ wd, wd = sw.xs ++ [(j : Int)] := ⟨_, rfl⟩
                      rw [← hwd] at hown12
                      have HWD := Lib.hid hwd
                      clear hwd
                      obtain ⟨A73, c73, rfl, _⟩ := hown12.see
                      refine hK.out _ _ ⟨(box12').at.cells0.1, (box12').at.cells0.2.1, (box12').at.cells0.2.2.1, (box12').at.cells0.2.2.2.1, (box12').at.cells0.2.2.2.2.1, (box12').at.cells0.2.2.2.2.2, q12⟩ (fun hHeldn => ?_)
                      clear hK K hHeld
                      have hHeld := hHeldn
                      clear hHeldn
                      try simp only [Act.put, List.setIfInBounds_toArray, List.set_cons_zero, List.set_cons_succ]
                      refine headH_all (rs := [13]) (by kernel_rfl) (by kernel_rfl) (headH_cons rfl (fun K hK => ?_) headH_nil)
                      go_simp
                      have kk13 := kbelow w12 (.cells #[.slice A73 wd.length c73] 103)
                      have mem13 := mem12.below kk13
                      have box13 := box12'.below kk13
                      have q13 := bcell kk13 q12
                      have kw13 := btrans kw12 kk13
                      have own13 := hown12.below kk13
                      refine hK.out _ _ ⟨(box13).at.cells0.1, (box13).at.cells0.2.1, (box13).at.cells0.2.2.1, (box13).at.cells0.2.2.2.1, (box13).at.cells0.2.2.2.2.1, (box13).at.cells0.2.2.2.2.2, q13⟩ (fun hHeldn => ?_)
                      clear hK K hHeld
                      have hHeld := hHeldn
                      clear hHeldn
                      try simp only [Act.put, List.setIfInBounds_toArray, List.set_cons_zero, List.set_cons_succ]
                      refine headH_tail (by kernel_rfl) ?_
                      clear hHeld
                      refine wpList_push_sl _ rfl (.tmp 65) (.tmp 74) rfl w.heap.size _ ps rfl mem13.ow _ ⟨A73, c73, wd⟩ rfl (by simp [go_sem]) (by omega) kw13.size ?_
                      intro v75 w14 hown14 hg14 hv14
                      have own13' : OwnInts (w12.alloc (.cells #[.slice A73 wd.length c73] 103)) w.heap.size (Sl.v ⟨A73, c73, wd⟩) wd := own13.mono hz6
                      have mem14 := mem13.growS hg14 hown14 own13'
                      have box14 := box13.grow hg14 wne
                      have kw14 : Below w.heap.size w w14 := Below.grown kw13 hg14 kw13.size (fun q hq => (mem13.ow.lt q hq).1)
                      go_wp2
                      go_meet
                      exact ⟨⟨A73, c73, wd⟩, by rw [← HSWX.out]; exact HWD.out, mem14, box14, kw14⟩
                  · go_simp
                    have kkA := kbelow w6.drew (.cells #[.int .i64 (j : Int)] 2)
                    have memA := mem6.below kkA
                    have boxA := box6.below kkA
                    have qA := bcell kkA q6
                    have kA := btrans k6 kkA
                    have kwA := btrans kw6 kkA
                    have zA := Nat.le_trans z6 kkA.size
                    have jA : (w6.drew.alloc (.cells #[.int .i64 (j : Int)] 2)).cell? ⟨w6.heap.size, 0, none⟩ = some (.int .i64 (j : Int)) := by simp [go_sem]
                    have jbA : w6.heap.size ≤ w6.heap.size := by first | omega | exact z6
                    refine hK.out _ _ ⟨(boxA).at.cells0.1, (boxA).at.cells0.2.1, (boxA).at.cells0.2.2.1, (boxA).at.cells0.2.2.2.1, (boxA).at.cells0.2.2.2.2.1, (boxA).at.cells0.2.2.2.2.2, qA⟩ (fun hHeldn => ?_)
                    clear hK K hHeld
                    have hHeld := hHeldn
                    clear hHeldn
                    try simp only [Act.put, List.setIfInBounds_toArray, List.set_cons_zero, List.set_cons_succ]
                    refine headH_all (rs := [2]) (by kernel_rfl) (by kernel_rfl) (headH_cons rfl (fun K hK => ?_) headH_nil)
                    go_simp
                    have kkB := kbelow (w6.drew.alloc (.cells #[.int .i64 (j : Int)] 2)) (.cells #[.int .i64 g.p, .int .i64 g.a, .int .i64 g.b, .int .i64 g.c, .int .i64 g.d, .int .i64 g.e] 27)
                    have memB := memA.below kkB
                    have boxB := boxA.below kkB
                    have qB := bcell kkB qA
                    have kB := btrans kA kkB
                    have kwB := btrans kwA kkB
                    have zB := Nat.le_trans zA kkB.size
                    have jB := bcell kkB jA
                    have bmB : MpBox ((w6.drew.alloc (.cells #[.int .i64 (j : Int)] 2)).alloc (.cells #[.int .i64 g.p, .int .i64 g.a, .int .i64 g.b, .int .i64 g.c, .int .i64 g.d, .int .i64 g.e] 27)) (w6.heap.size + 1) g := MpBox.new g 27 (by first | rfl | (show _ = (w6.alloc _).heap.size; simp))
                    refine hK.out _ _ ⟨(boxB).at.cells0.1, (boxB).at.cells0.2.1, (boxB).at.cells0.2.2.1, (boxB).at.cells0.2.2.2.1, (boxB).at.cells0.2.2.2.2.1, (boxB).at.cells0.2.2.2.2.2, qB⟩ (fun hHeldn => ?_)
                    clear hK K hHeld
                    have hHeld := hHeldn
                    clear hHeldn
                    try simp only [Act.put, List.setIfInBounds_toArray, List.set_cons_zero, List.set_cons_succ]
                    have jbB := jbA
                    refine headH_all (rs := [3]) (by kernel_rfl) (by kernel_rfl) (headH_cons rfl (fun K hK => ?_) headH_nil)
                    refine step_push_map _ rfl (.tmp 61) (.tmp 63) rfl w.heap.size _ fs rfl memB.om _ g rfl bmB (by omega) (Nat.le_trans hz6 zB) ?_
                    intro v64 w3 hown3 hg3 hv3
                    have memC := memB.growM hg3 hown3
                    have boxC := boxB.grow hg3 fne
                    have qC := hg3.cell qB (Ne.symm fwne)
                    have kwC : Below w.heap.size w w3 := Below.grown kwB hg3 kwB.size (fun q hq => (memB.om.lt q hq).1)
                    have zC : w6.heap.size ≤ w3.heap.size := Nat.le_trans zB hg3.size
                    have jC := hg3.cell jB (Ne.symm (fun e => by have h1 := hfb6 _ e; have h2 := jbB; (try dsimp only at h1); omega))
                    refine hK.out _ _ ⟨(boxC).at.cells0.1, (boxC).at.cells0.2.1, (boxC).at.cells0.2.2.1, (boxC).at.cells0.2.2.2.1, (boxC).at.cells0.2.2.2.2.1, (boxC).at.cells0.2.2.2.2.2, qC⟩ (fun hHeldn => ?_)
                    clear hK K hHeld
                    have hHeld := hHeldn
                    clear hHeldn
                    try simp only [Act.put, List.setIfInBounds_toArray, List.set_cons_zero, List.set_cons_succ]
                    refine headH_all (rs := [9]) (by kernel_rfl) (by kernel_rfl) (headH_cons rfl (fun K hK => ?_) headH_nil)
                    go_simp
                    go_at_call 112
                    have hs9 : OwnInts w3 w.heap.size (.slice sw.A sw.xs.length sw.c) sw.xs := memC.ew sw hsm
                    refine (CloneI_c sw.A sw.c sw.xs _ hs9.see' hs9.nilok (by omega)).mono ?_
                    rintro e w9 ⟨v70, rfl, hown9, hb9⟩
                    obtain ⟨A70, c70, rfl, _⟩ := hown9.see
                    try go_simp
                    have memD := memC.below hb9
                    have boxD := boxC.below hb9
                    have qD := bcell hb9 qC
                    have kwD := btrans kwC hb9
                    have zD := Nat.le_trans zC hb9.size
                    have jD := bcell hb9 jC
                    have ownD : OwnInts w9 w6.heap.size _ sw.xs := hown9.mono zC
                    refine hK.out _ _ ⟨(boxD).at.cells0.1, (boxD).at.cells0.2.1, (boxD).at.cells0.2.2.1, (boxD).at.cells0.2.2.2.1, (boxD).at.cells0.2.2.2.2.1, (boxD).at.cells0.2.2.2.2.2, qD⟩ (fun hHeldn => ?_)
                    clear hK K hHeld
                    have hHeld := hHeldn
                    clear hHeldn
                    try simp only [Act.put, List.setIfInBounds_toArray, List.set_cons_zero, List.set_cons_succ]
                    refine headH_all (rs := [12]) (by kernel_rfl) (by kernel_rfl) (headH_cons rfl (fun K hK => ?_) headH_nil)
                    refine step_push_int _ rfl (.tmp 70) (.tmp 72) rfl w6.heap.size _ sw.xs rfl ownD _ (j : Int) rfl jD (by omega) zD ?_
                    intro v73 w12 hown12 hg12 hv12
                    have ine : ∀ q, (Value.slice A70 sw.xs.length c70).ownBlock = some q → w6.heap.size ≤ q := fun q hq => (ownD.lt q hq).1
                    have mem12 := memD.growI hg12 ownD hlo
                    have box12' := boxD.grow hg12 (fun e => by have := ine b12 e; omega)
                    have hwb6 : bw < w6.heap.size := World.block_lt_of_cell? w6 ⟨bw, k, none⟩ qw
                    have q12 := hg12.cell qD (Ne.symm (fun e => by have h1 := ine bw e; omega))
                    have kw12 : Below w.heap.size w w12 := Below.grown kwD hg12 kwD.size (fun q hq => Nat.le_trans hz6 (ine q hq))
                    have z12 : w6.heap.size ≤ w12.heap.size := Nat.le_trans zD hg12.size
                    obtain ⟨wd, hwd⟩ : ∃ wd, wd = sw.xs ++ [(j : Int)] := ⟨_, rfl⟩
                    rw [← hwd] at hown12
                    have HWD := Lib.hid hwd
                    clear hwd
                    obtain ⟨A73, c73, rfl, _⟩ := hown12.see
                    refine hK.out _ _ ⟨(box12').at.cells0.1, (box12').at.cells0.2.1, (box12').at.cells0.2.2.1, (box12').at.cells0.2.2.2.1, (box12').at.cells0.2.2.2.2.1, (box12').at.cells0.2.2.2.2.2, q12⟩ (fun hHeldn => ?_)
                    clear hK K hHeld
                    have hHeld := hHeldn
                    clear hHeldn
                    try simp only [Act.put, List.setIfInBounds_toArray, List.set_cons_zero, List.set_cons_succ]
                    refine headH_all (rs := [13]) (by kernel_rfl) (by kernel_rfl) (headH_cons rfl (fun K hK => ?_) headH_nil)
                    go_simp
                    have kk13 := kbelow w12 (.cells #[.slice A73 wd.length c73] 103)
                    have mem13 := mem12.below kk13
                    have box13 := box12'.below kk13
                    have q13 := bcell kk13 q12
                    have kw13 := btrans kw12 kk13
                    have own13 := hown12.below kk13
                    refine hK.out _ _ ⟨(box13).at.cells0.1, (box13).at.cells0.2.1, (box13).at.cells0.2.2.1, (box13).at.cells0.2.2.2.1, (box13).at.cells0.2.2.2.2.1, (box13).at.cells0.2.2.2.2.2, q13⟩ (fun hHeldn => ?_)
                    clear hK K hHeld
                    have hHeld := hHeldn
                    clear hHeldn
                    try simp only [Act.put, List.setIfInBounds_toArray, List.set_cons_zero, List.set_cons_succ]
                    refine headH_tail (by kernel_rfl) ?_
                    clear hHeld
                    refine wpList_push_sl _ rfl (.tmp 65) (.tmp 74) rfl w.heap.size _ ps rfl mem13.ow _ ⟨A73, c73, wd⟩ rfl (by simp [go_sem]) (by omega) kw13.size ?_
                    intro v75 w14 hown14 hg14 hv14
                    have own13' : OwnInts (w12.alloc (.cells #[.slice A73 wd.length c73] 103)) w.heap.size (Sl.v ⟨A73, c73, wd⟩) wd := own13.mono hz6
                    have mem14 := mem13.growS hg14 hown14 own13'
                    have box14 := box13.grow hg14 wne
                    have kw14 : Below w.heap.size w w14 := Below.grown kw13 hg14 kw13.size (fun q hq => (mem13.ow.lt q hq).1)
                    go_wp2
                    go_meet
                    exact ⟨⟨A73, c73, wd⟩, by rw [← HSWX.out]; exact HWD.out, mem14, box14, kw14⟩
                  -- r15 end
                case rest =>
                  obtain ⟨s, hsx, mem8, box8, hb8⟩ := hcut
                  obtain ⟨A8, c8, rfl, _⟩ := mem8.om.see
                  have HSX := Lib.hid hsx
                  clear hsx mem6 box6 hfb hwb hb7
                  go_wp2
                  refine wp_region_headS 8 (fun w' => w'.cell? ⟨b12, 0, none⟩ = some (.int .i64 g.p) ∧ w'.cell? ⟨b12, 1, none⟩ = some (.int .i64 g.a) ∧ w'.cell? ⟨b12, 2, none⟩ = some (.int .i64 g.b) ∧ w'.cell? ⟨b12, 3, none⟩ = some (.int .i64 g.c) ∧ w'.cell? ⟨b12, 4, none⟩ = some (.int .i64 g.d) ∧ w'.cell? ⟨b12, 5, none⟩ = some (.int .i64 g.e)) (by kernel_rfl) (by kernel_rfl) ⟨(box8).at.cells0.1, (box8).at.cells0.2.1, (box8).at.cells0.2.2.1, (box8).at.cells0.2.2.2.1, (box8).at.cells0.2.2.2.2.1, (box8).at.cells0.2.2.2.2.2⟩ (fun hHeld => ?_)
                  simp only [List.drop]
                  refine headH_takeS (i := 0) (v := ?_) 76 rfl (by kernel_rfl) (by kernel_rfl) (fun _ _ _ h => h) (Or.inl ⟨by rfl, ?_⟩) hHeld ?_
                  rotate_left
                  · intro w hSw
                    (try dsimp only at hSw)
                    go_simp
                    try with_reducible rfl
                  try simp only [Act.put, List.setIfInBounds_toArray, List.set_cons_zero, List.set_cons_succ]
                  refine headH_takeS (i := 1) (v := ?_) 77 rfl (by kernel_rfl) (by kernel_rfl) (fun _ _ _ h => h) (Or.inl ⟨by rfl, ?_⟩) hHeld ?_
                  rotate_left
                  · intro w hSw
                    (try dsimp only at hSw)
                    go_simp
                    try with_reducible rfl
                  try simp only [Act.put, List.setIfInBounds_toArray, List.set_cons_zero, List.set_cons_succ]
                  refine headH_takeS (i := 3) (v := ?_) 79 rfl (by kernel_rfl) (by kernel_rfl) (fun _ _ _ h => h) (Or.inl ⟨by rfl, ?_⟩) hHeld ?_
                  rotate_left
                  · intro w hSw
                    (try dsimp only at hSw)
                    go_simp
                    try with_reducible rfl
                  try simp only [Act.put, List.setIfInBounds_toArray, List.set_cons_zero, List.set_cons_succ]
                  refine headH_takeS (i := 4) (v := ?_) 80 rfl (by kernel_rfl) (by kernel_rfl) (fun _ _ _ h => h) (Or.inl ⟨by rfl, ?_⟩) hHeld ?_
                  rotate_left
                  · intro w hSw
                    (try dsimp only at hSw)
                    go_simp
                    try with_reducible rfl
                  try simp only [Act.put, List.setIfInBounds_toArray, List.set_cons_zero, List.set_cons_succ]
                  refine headH_takeS (i := 5) (v := ?_) 81 rfl (by kernel_rfl) (by kernel_rfl) (fun _ _ _ h => h) (Or.inl ⟨by rfl, ?_⟩) hHeld ?_
                  rotate_left
                  · intro w hSw
                    (try dsimp only at hSw)
                    go_simp
                    try with_reducible rfl
                  try simp only [Act.put, List.setIfInBounds_toArray, List.set_cons_zero, List.set_cons_succ]
                  refine headH_takeS (i := 6) (v := ?_) 82 rfl (by kernel_rfl) (by kernel_rfl) (fun _ _ _ h => h) (Or.inl ⟨by rfl, ?_⟩) hHeld ?_
                  rotate_left
                  · intro w hSw
                    (try dsimp only at hSw)
                    go_simp
                    try with_reducible rfl
                  try simp only [Act.put, List.setIfInBounds_toArray, List.set_cons_zero, List.set_cons_succ]
                  refine headH_all (rs := [2]) (by kernel_rfl) (by kernel_rfl) (headH_cons rfl (fun K hK => ?_) headH_nil)
                  go_simp
                  go_at_call 111
                  refine (number_c g n _ hgN).mono ?_
                  rintro e w9 ⟨rfl, hb9⟩
                  try go_simp
                  replace hb9 := bdr hb9
                  have box9 := box8.below hb9
                  refine hK.out _ _ ⟨(box9).at.cells0.1, (box9).at.cells0.2.1, (box9).at.cells0.2.2.1, (box9).at.cells0.2.2.2.1, (box9).at.cells0.2.2.2.2.1, (box9).at.cells0.2.2.2.2.2⟩ (fun hHeldn => ?_)
                  clear hK K hHeld
                  have hHeld := hHeldn
                  clear hHeldn
                  try simp only [Act.put, List.setIfInBounds_toArray, List.set_cons_zero, List.set_cons_succ]
                  refine headH_takeS (i := 7) (v := ?_) 83 rfl (by kernel_rfl) (by kernel_rfl) (fun _ _ _ h => h) (Or.inl ⟨by rfl, ?_⟩) hHeld ?_
                  rotate_left
                  · intro w hSw
                    (try dsimp only at hSw)
                    go_simp
                    try with_reducible rfl
                  try simp only [Act.put, List.setIfInBounds_toArray, List.set_cons_zero, List.set_cons_succ]
                  refine headH_tail (by kernel_rfl) ?_
                  clear hHeld
                  have mem9 := mem8.below hb9
                  have hb10 := btrans hb8 hb9
                  have mem10 := mem9.putp (i := g.num.toNat) (by omega) (((fs ++ [g]).length : Nat) : Int)
                  have fr9 := fun j => mem9.box.free j
                  have cp9 := mem9.box.cp (i := g.num.toNat) (by omega)
                  clear mem8 mem9 box8 box9 hb8 hb9
                  go_wp2
                  go_roundw
                  case rel =>
                    simp only [List.length_append, List.length_singleton, Int.natCast_add, Int.natCast_one] at mem10
                    refine ⟨j + 1, fs ++ [g], ps ++ [s], _, by go_num, by omega, by simp; omega, mem10, Lib.hid ?_, Below.setCell hb10 (Nat.le_refl _) _⟩
                    have := pur.out.push hgN HIN.out s
                    rw [HSX.out, ← ENEW.out] at this
                    simpa using this
                  case measure => simp [intOf]; omega
        · obtain rfl : j = ms.length := by omega
          have hkl : k < fs.length := by
            obtain ⟨t, ht⟩ := gTo_prefix (st := mst ms) now (monB ms n k) ms.length
            have h1 := pur.out.len.1
            rw [ht, List.length_append] at h1
            have := (List.getElem?_eq_some_iff.1 HN.out).1
            omega
          have hgq : monB ms n (k + 1) = gTo (mst ms) now (monB ms n k) ms.length := gb_succ HN.out
          have HGQ := Lib.hid hgq
          clear hgq hsf
          go_wp2
          go_roundw
          case rel => exact ⟨k + 1, fs, ps, pl, by go_num, by omega, h300, mem, by rw [HGQ.out]; exact pur, hb⟩
          case measure => simp [intOf]; omega
    · obtain rfl : k = fs.length := by omega
      have hend : (monB ms n fs.length)[fs.length]? = none := List.getElem?_eq_none (by rw [← pur.out.len.1]; exact Nat.le_refl _)
      have hq := monQ_of_end hend (by rw [← pur.out.len.1]; exact h300)
      have hmq : (monQ ms n).length ≤ 300 := by rw [hq, ← pur.out.len.1]; exact h300
      have hfs : fs = (monQ ms n).map Prod.fst := by rw [hq]; exact pur.out.fq
      have hfsN : ∀ f ∈ fs, MpN f n := by rw [hfs]; exact monQ_MpN HR.out
      have hnd : fs.Nodup := by rw [hfs, hq]; exact (monB_fine HR.out _).nodup
      have hels : sortM fs = els ms n := by unfold els; rw [hfs]
      have hpos : 0 < fs.length := by
        have h1 := pur.out.len.1
        have h2 := gb_len_le (st := mst ms) (L := ms.length) (start := idM n) (Nat.zero_le fs.length)
        have h3 : (gb (mst ms) ms.length (idM n) 0).length = 1 := rfl
        have h4 : (monB ms n fs.length).length = (gb (mst ms) ms.length (idM n) fs.length).length := rfl
        omega
      obtain ⟨bf, of_, x, rfl, _, _⟩ := hsf.at_ hpos
      have HMQ := Lib.hid hmq
      have HELS := Lib.hid hels
      have HFN := Lib.hid hfsN
      have HND := Lib.hid hnd
      have HPQ := Lib.hid pur.out.pq
      have HPL := Lib.hid (pur.out.len.2.trans pur.out.len.1.symm)
      clear hend hq hmq hfs hfsN hnd hels pur
      -- tail begin
      go_wp2_with fail
      refine (CloneM_c _ _ fs _ hsf (by omega)).mono ?_
      rintro e w2 ⟨v2, rfl, hown2, hb2⟩
      obtain ⟨g2, c2, rfl, hg2, hg2'⟩ := hown2.block hpos
      have hbx := btrans hb hb2
      have box2 := mem.box.below hb2
      have ow2 := mem.ow.below hb2
      have fr2 := fun j => box2.free j
      have c02 := box2.c0
      have hz := hb.size
      have om3 : OwnMaps (w2.setCell ⟨w.heap.size, 0, none⟩ (.slice (some ⟨g2, 0, none⟩) fs.length c2)) w.heap.size (.slice (some ⟨g2, 0, none⟩) fs.length c2) fs := (hown2.mono hz).store box2
      have ow3 : OwnSls (w2.setCell ⟨w.heap.size, 0, none⟩ (.slice (some ⟨g2, 0, none⟩) fs.length c2)) w.heap.size _ ps := ow2.store box2
      have hne2 : g2 ≠ w.heap.size := fun e => box2.neM hown2 (by rw [← e]; rfl)
      have box3 := box2.put0 (.slice (some ⟨g2, 0, none⟩) fs.length c2)
      have hb3 : Below w.heap.size w (w2.setCell ⟨w.heap.size, 0, none⟩ (.slice (some ⟨g2, 0, none⟩) fs.length c2)) := Below.setCell hbx (Nat.le_refl _) _
      have c03 := box3.c0
      clear hb hb2 hbx box2 ow2 hown2 mem
      go_wp2_with fail
      refine (SortFuncM_c _ w.heap.size g2 c2 fs om3 (by omega) HFN.out HND.out).mono ?_
      rintro e w4 ⟨rfl, om4, K4⟩
      rw [HELS.out] at om4
      have hll : (els ms n).length = fs.length := by rw [← HELS.out]; exact sortM_length HFN.out HND.out
      have hmm : ∀ f, f ∈ els ms n ↔ f ∈ fs := fun f => by rw [← HELS.out]; exact mem_sortM HFN.out
      have hasc := els_asc HR.out
      have box4 := box3.keep (S := fun k => k ≠ g2) (Ne.symm hne2) K4
      have ow4 := ow3.keep (S := fun k => k ≠ g2) (fun k hk e => by obtain ⟨ys, h1, _⟩ := om3; exact own_ne h1 ow3 (by decide) g2 rfl (e ▸ hk)) K4
      have hb4 : Below w.heap.size w w4 := hb3.trans (K4.below hb3.size (fun k hk e => by omega))
      clear c02 c03 fr2 om3 ow3 box3 K4 hb3 hsf
      have HMM := Lib.hid hmm
      have HASC := Lib.hid hasc
      have HLN := Lib.hid (els_MpN HR.out)
      rw [← hll] at om4 box4 h300 HPL hpos ⊢
      have HLL := Lib.hid hll
      clear hmm hasc hll
      generalize hL : els ms n = L at *
      have HEQ := Lib.hid hL
      clear hL
      have c04 := box4.c0
      have hz4 := hb4.size
      have hw4 : ∀ q, (u8 : Value).ownBlock = some q → q < w4.heap.size := fun q hq => (ow4.lt q hq).2
      go_wp2
      have own0 : OwnSls w4 w4.heap.size (.slice none 0 0) [] := OwnSls.nil _ _
      go_loopw [100] (fun i wr => ∃ (k : Nat) (qs : List Sl) (v1 : Value), i = .int .i64 k ∧ k ≤ L.length ∧ qs.length = k ∧ PlBox wr w.heap.size (.slice (some ⟨g2, 0, none⟩) L.length c2) v1 pl ∧ OwnSls wr w4.heap.size v1 qs ∧ OwnSls wr w.heap.size u8 ps ∧ OwnMaps wr w.heap.size (.slice (some ⟨g2, 0, none⟩) L.length c2) L ∧ Below w.heap.size w wr ∧ w4.heap.size ≤ wr.heap.size) (fun i _ => L.length - (intOf i).toNat)
      case atStart => exact ⟨0, [], _, rfl, Nat.zero_le _, rfl, box4, own0, ow4, om4, hb4, Nat.le_refl _⟩
      case round =>
        clear own0 box4 ow4 om4 hb4 c04
        obtain ⟨k, qs, v1, rfl, hk, hqs, box, ow1, oww, om, hb, hz5⟩ := hrel
        by_cases hlt : k < L.length
        · obtain ⟨f, hf⟩ := el hlt
          have gf := om.at_ hf
          have hfN := HLN.out f (List.mem_of_getElem? hf)
          obtain ⟨q, hq⟩ := List.mem_iff_getElem?.1 ((HMM.out f).1 (List.mem_of_getElem? hf))
          have hql : q < ps.length := by rw [HPL.out, HLL.out]; exact (List.getElem?_eq_some_iff.1 hq).1
          have hplf := (HPQ.out f hfN).1 q hq
          obtain ⟨sw, hsw⟩ := el hql
          obtain ⟨Aw, cw, hvw, gw⟩ := oww.at_
          obtain ⟨bw, rfl, qw⟩ := gw q sw hsw
          subst hvw
          unfold Sl.v at qw
          obtain ⟨A1, c1, rfl, _⟩ := ow1.at_
          have hnum := hfN.num_lt
          have num0 := hnum.1
          have num1 := hnum.2
          have l0 : (0 : Int) ≤ k := by omega
          have l1 : (k : Int) < L.length := by omega
          have q0 : (0 : Int) ≤ q := by omega
          have q1 : (q : Int) < ps.length := by omega
          have q300 : q < 300 := by have h1 := HPL.out; have h2 := HLL.out; omega
          have s1 := (wrap_small q300).1
          have s2 := (wrap_small q300).2
          obtain ⟨f0, f1, f2, f3, f4, f5⟩ := gf
          have bt := MpBox.new (w := wr) f 27 rfl
          have kk := kbelow wr (.cells #[.int .i64 f.p, .int .i64 f.a, .int .i64 f.b, .int .i64 f.c, .int .i64 f.d, .int .i64 f.e] 27)
          have box1 := box.below kk
          have ow11 := ow1.below kk
          have oww1 := oww.below kk
          have om1 := om.below kk
          have qw1 := bcell kk qw
          have cc1 := box1.c1
          have cp1 := box1.cp (i := f.num.toNat) (by omega)
          rw [hplf] at cp1
          have hb1 := btrans hb kk
          have HF := Lib.hid hf
          have hwb : bw < w4.heap.size := hw4 bw rfl
          have hqs300 : qs.length ≤ 300 := by omega
          have HQS := Lib.hid hqs
          have hz6 : w4.heap.size ≤ (wr.alloc (.cells #[.int .i64 f.p, .int .i64 f.a, .int .i64 f.b, .int .i64 f.c, .int .i64 f.d, .int .i64 f.e] 27)).heap.size := Nat.le_trans hz5 kk.size
          have n1w : (Value.slice A1 qs.length c1).ownBlock ≠ some wr.heap.size := fun e => by have := (ow1.lt _ e).2; omega
          have n1M : (Value.slice A1 qs.length c1).ownBlock ≠ some w.heap.size := box.ne ow1 (by decide)
          have n1b : (Value.slice A1 qs.length c1).ownBlock ≠ some bw := fun e => by have := (ow1.lt _ e).1; omega
          clear hf hq hnum hsw gw box ow1 oww om qw hb hql hplf hqs
          go_wp2
          refine wp_region_headS 18 (fun w' => w'.cell? ⟨wr.heap.size, 0, none⟩ = some (.int .i64 f.p) ∧ w'.cell? ⟨wr.heap.size, 1, none⟩ = some (.int .i64 f.a) ∧ w'.cell? ⟨wr.heap.size, 2, none⟩ = some (.int .i64 f.b) ∧ w'.cell? ⟨wr.heap.size, 3, none⟩ = some (.int .i64 f.c) ∧ w'.cell? ⟨wr.heap.size, 4, none⟩ = some (.int .i64 f.d) ∧ w'.cell? ⟨wr.heap.size, 5, none⟩ = some (.int .i64 f.e) ∧ w'.cell? ⟨w.heap.size, 1, none⟩ = some (.slice A1 qs.length c1) ∧ w'.cell? ⟨w.heap.size, 2 + f.num.toNat, none⟩ = some (.int .i64 ((q : Int) + 1)) ∧ w'.cell? ⟨bw, q, none⟩ = some (.slice sw.A sw.xs.length sw.c)) (by kernel_rfl) (by kernel_rfl) ⟨(bt).at.cells0.1, (bt).at.cells0.2.1, (bt).at.cells0.2.2.1, (bt).at.cells0.2.2.2.1, (bt).at.cells0.2.2.2.2.1, (bt).at.cells0.2.2.2.2.2, cc1, cp1, qw1⟩ (fun hHeld => ?_)
          simp only [List.drop]
          refine headH_takeS (i := 0) (v := ?_) 104 rfl (by kernel_rfl) (by kernel_rfl) (fun _ _ _ h => h) (Or.inl ⟨by rfl, ?_⟩) hHeld ?_
          rotate_left
          · intro w hSw
            (try dsimp only at hSw)
            go_simp
            try with_reducible rfl
          try simp only [Act.put, List.setIfInBounds_toArray, List.set_cons_zero, List.set_cons_succ]
          refine headH_takeS (i := 1) (v := ?_) 105 rfl (by kernel_rfl) (by kernel_rfl) (fun _ _ _ h => h) (Or.inl ⟨by rfl, ?_⟩) hHeld ?_
          rotate_left
          · intro w hSw
            (try dsimp only at hSw)
            go_simp
            try with_reducible rfl
          try simp only [Act.put, List.setIfInBounds_toArray, List.set_cons_zero, List.set_cons_succ]
          refine headH_takeS (i := 2) (v := ?_) 106 rfl (by kernel_rfl) (by kernel_rfl) (fun _ _ _ h => h) (Or.inl ⟨by rfl, ?_⟩) hHeld ?_
          rotate_left
          · intro w hSw
            (try dsimp only at hSw)
            go_simp
            try with_reducible rfl
          try simp only [Act.put, List.setIfInBounds_toArray, List.set_cons_zero, List.set_cons_succ]
          refine headH_takeS (i := 3) (v := ?_) 107 rfl (by kernel_rfl) (by kernel_rfl) (fun _ _ _ h => h) (Or.inl ⟨by rfl, ?_⟩) hHeld ?_
          rotate_left
          · intro w hSw
            (try dsimp only at hSw)
            go_simp
            try with_reducible rfl
          try simp only [Act.put, List.setIfInBounds_toArray, List.set_cons_zero, List.set_cons_succ]
          refine headH_takeS (i := 4) (v := ?_) 108 rfl (by kernel_rfl) (by kernel_rfl) (fun _ _ _ h => h) (Or.inl ⟨by rfl, ?_⟩) hHeld ?_
          rotate_left
          · intro w hSw
            (try dsimp only at hSw)
            go_simp
            try with_reducible rfl
          try simp only [Act.put, List.setIfInBounds_toArray, List.set_cons_zero, List.set_cons_succ]
          refine headH_takeS (i := 5) (v := ?_) 109 rfl (by kernel_rfl) (by kernel_rfl) (fun _ _ _ h => h) (Or.inl ⟨by rfl, ?_⟩) hHeld ?_
          rotate_left
          · intro w hSw
            (try dsimp only at hSw)
            go_simp
            try with_reducible rfl
          try simp only [Act.put, List.setIfInBounds_toArray, List.set_cons_zero, List.set_cons_succ]
          refine headH_takeS (i := 6) (v := ?_) 110 rfl (by kernel_rfl) (by kernel_rfl) (fun _ _ _ h => h) (Or.inl ⟨by rfl, ?_⟩) hHeld ?_
          rotate_left
          · intro w hSw
            (try dsimp only at hSw)
            go_simp
            try with_reducible rfl
          try simp only [Act.put, List.setIfInBounds_toArray, List.set_cons_zero, List.set_cons_succ]
          refine headH_takeS (i := 7) (v := ?_) 111 rfl (by kernel_rfl) (by kernel_rfl) (fun _ _ _ h => h) (Or.inl ⟨by rfl, ?_⟩) hHeld ?_
          rotate_left
          · intro w hSw
            (try dsimp only at hSw)
            go_simp
            try with_reducible rfl
          try simp only [Act.put, List.setIfInBounds_toArray, List.set_cons_zero, List.set_cons_succ]
          refine headH_takeS (i := 9) (v := ?_) 113 rfl (by kernel_rfl) (by kernel_rfl) (fun _ _ _ h => h) (Or.inl ⟨by rfl, ?_⟩) hHeld ?_
          rotate_left
          · intro w hSw
            (try dsimp only at hSw)
            go_simp
            try with_reducible rfl
          try simp only [Act.put, List.setIfInBounds_toArray, List.set_cons_zero, List.set_cons_succ]
          refine headH_takeS (i := 10) (v := ?_) 114 rfl (by kernel_rfl) (by kernel_rfl) (fun _ _ _ h => h) (Or.inl ⟨by rfl, ?_⟩) hHeld ?_
          rotate_left
          · intro w hSw
            (try dsimp only at hSw)
            go_simp
            try with_reducible rfl
          try simp only [Act.put, List.setIfInBounds_toArray, List.set_cons_zero, List.set_cons_succ]
          refine headH_all (rs := [8]) (by kernel_rfl) (by kernel_rfl) (headH_cons rfl (fun K hK => ?_) headH_nil)
          go_simp
          go_at_call 111
          refine (number_c f n _ hfN).mono ?_
          rintro e w6 ⟨rfl, hb6⟩
          try go_simp
          replace hb6 := bdr hb6
          have bt6 := bt.below hb6
          have cc6 := bcell hb6 cc1
          have cp6 := bcell hb6 cp1
          have qw6 := bcell hb6 qw1
          refine hK.out _ _ ⟨(bt6).at.cells0.1, (bt6).at.cells0.2.1, (bt6).at.cells0.2.2.1, (bt6).at.cells0.2.2.2.1, (bt6).at.cells0.2.2.2.2.1, (bt6).at.cells0.2.2.2.2.2, cc6, cp6, qw6⟩ (fun hHeldn => ?_)
          clear hK K hHeld
          have hHeld := hHeldn
          clear hHeldn
          try simp only [Act.put, List.setIfInBounds_toArray, List.set_cons_zero, List.set_cons_succ]
          refine headH_takeS (i := 11) (v := ?_) 115 rfl (by kernel_rfl) (by kernel_rfl) (fun _ _ _ h => h) (Or.inl ⟨by rfl, ?_⟩) hHeld ?_
          rotate_left
          · intro w hSw
            (try dsimp only at hSw)
            go_simp
            try with_reducible rfl
          try simp only [Act.put, List.setIfInBounds_toArray, List.set_cons_zero, List.set_cons_succ]
          refine headH_takeS (i := 12) (v := ?_) 116 rfl (by kernel_rfl) (by kernel_rfl) (fun _ _ _ h => h) (Or.inl ⟨by rfl, ?_⟩) hHeld ?_
          rotate_left
          · intro w hSw
            (try dsimp only at hSw)
            go_simp
            try with_reducible rfl
          try simp only [Act.put, List.setIfInBounds_toArray, List.set_cons_zero, List.set_cons_succ]
          refine headH_takeS (i := 13) (v := ?_) 117 rfl (by kernel_rfl) (by kernel_rfl) (fun _ _ _ h => h) (Or.inl ⟨by rfl, ?_⟩) hHeld ?_
          rotate_left
          · intro w hSw
            (try dsimp only at hSw)
            go_simp
            try with_reducible rfl
          try simp only [Act.put, List.setIfInBounds_toArray, List.set_cons_zero, List.set_cons_succ]
          refine headH_takeS (i := 14) (v := ?_) 118 rfl (by kernel_rfl) (by kernel_rfl) (fun _ _ _ h => h) (Or.inl ⟨by rfl, ?_⟩) hHeld ?_
          rotate_left
          · intro w hSw
            (try dsimp only at hSw)
            go_simp
            try with_reducible rfl
          try simp only [Act.put, List.setIfInBounds_toArray, List.set_cons_zero, List.set_cons_succ]
          refine headH_takeS (i := 15) (v := ?_) 119 rfl (by kernel_rfl) (by kernel_rfl) (fun _ _ _ h => h) (Or.inl ⟨by rfl, ?_⟩) hHeld ?_
          rotate_left
          · intro w hSw
            (try dsimp only at hSw)
            go_simp
            try with_reducible rfl
          try simp only [Act.put, List.setIfInBounds_toArray, List.set_cons_zero, List.set_cons_succ]
          refine headH_all (rs := [16]) (by kernel_rfl) (by kernel_rfl) (headH_cons rfl (fun K hK => ?_) headH_nil)
          go_simp
          have kk7 := kbelow w6 (.cells #[.slice sw.A sw.xs.length sw.c] 103)
          have hb7 := btrans (btrans hb1 hb6) kk7
          have bt7 := bt6.below kk7
          have cc7 := bcell kk7 cc6
          have cp7 := bcell kk7 cp6
          have qw7 := bcell kk7 qw6
          have z7 : w4.heap.size ≤ (w6.alloc (.cells #[.slice sw.A sw.xs.length sw.c] 103)).heap.size := Nat.le_trans hz6 (btrans hb6 kk7).size
          refine hK.out _ _ ⟨(bt7).at.cells0.1, (bt7).at.cells0.2.1, (bt7).at.cells0.2.2.1, (bt7).at.cells0.2.2.2.1, (bt7).at.cells0.2.2.2.2.1, (bt7).at.cells0.2.2.2.2.2, cc7, cp7, qw7⟩ (fun hHeldn => ?_)
          clear hK K hHeld
          have hHeld := hHeldn
          clear hHeldn
          try simp only [Act.put, List.setIfInBounds_toArray, List.set_cons_zero, List.set_cons_succ]
          refine headH_all (rs := [17]) (by kernel_rfl) (by kernel_rfl) (headH_cons rfl (fun K hK => ?_) headH_nil)
          have box7 := (box1.below hb6).below kk7
          have ow7 := (ow11.below hb6).below kk7
          have oww7 := (oww1.below hb6).below kk7
          have om7 := (om1.below hb6).below kk7
          refine step_push_sl _ rfl (.tmp 108) (.tmp 120) rfl w4.heap.size _ qs rfl ow7 _ sw rfl (by simp [go_sem]) (by omega) z7 ?_
          intro v8 w8 hown8 hg8 hv8
          obtain ⟨A8, c8, rfl, _⟩ := hown8.at_
          have bt8 := bt7.grow hg8 n1w
          have cc8 := hg8.cell cc7 (Ne.symm n1M)
          have cp8 := hg8.cell cp7 (Ne.symm n1M)
          have qw8 := hg8.cell qw7 (Ne.symm n1b)
          have box8 := box7.grow hg8 n1M
          have oww8 : OwnSls w8 w.heap.size (.slice (some ⟨bw, 0, none⟩) ps.length cw) ps := oww7.grow hg8 (fun q hq e => by have h1 := (ow7.lt q e).1; have h2 := hw4 q hq; omega)
          have om8 := om7.grow hg8 (by obtain ⟨ys, h1, _⟩ := om7; exact own_ne h1 ow7 (by decide))
          have hb8 : Below w.heap.size w w8 := Below.grown hb7 hg8 hb7.size (fun q hq => Nat.le_trans hz4 (ow7.lt q hq).1)
          have z8 : w4.heap.size ≤ w8.heap.size := Nat.le_trans z7 hg8.size
          refine hK.out _ _ ⟨(bt8).at.cells0.1, (bt8).at.cells0.2.1, (bt8).at.cells0.2.2.1, (bt8).at.cells0.2.2.2.1, (bt8).at.cells0.2.2.2.2.1, (bt8).at.cells0.2.2.2.2.2, cc8, cp8, qw8⟩ (fun hHeldn => ?_)
          clear hK K hHeld
          have hHeld := hHeldn
          clear hHeldn
          try simp only [Act.put, List.setIfInBounds_toArray, List.set_cons_zero, List.set_cons_succ]
          refine headH_tail (by kernel_rfl) ?_
          clear hHeld
          have fr8 := fun j => box8.free j
          have cc9 := box8.c1
          clear bt bt6 bt7 bt8 cc1 cc6 cc7 cp1 cp6 cp7 cp8 qw1 qw6 qw7 qw8 box1 box7 ow11 ow7 oww1 oww7 om1 om7 kk kk7 hb6 f0 f1 f2 f3 f4 f5
          go_wp2
          go_roundw
          case rel =>
            simp only [List.length_append, List.length_singleton] at hown8
            refine ⟨k + 1, qs ++ [sw], _, by go_num, by omega, by have := HQS.out; simp; omega, box8.put1 _, hown8.store box8, oww8.store box8, om8.store box8, Below.setCell hb8 (Nat.le_refl _) _, by simpa using z8⟩
          case measure => simp [intOf]; omega
        · obtain rfl : k = L.length := by omega
          have pls0 : PlS L n 0 pl := PlS.start HPQ.out HMM.out
          have c05 := box.c0
          clear hqs ow1 oww hz5 HPQ HMM HFN HND HELS HPL hw4
          go_wp2
          go_loopw [130] (fun i wr => ∃ (k : Nat) (pl : Nat → Int), i = .int .i64 k ∧ k ≤ L.length ∧ PlBox wr w.heap.size (.slice (some ⟨g2, 0, none⟩) L.length c2) v1 pl ∧ Hid (PlS L n k pl) ∧ OwnMaps wr w.heap.size (.slice (some ⟨g2, 0, none⟩) L.length c2) L ∧ Below w.heap.size w wr) (fun i _ => L.length - (intOf i).toNat)
          case atStart => exact ⟨0, pl, rfl, Nat.zero_le _, box, Lib.hid pls0, om, hb⟩
          case round =>
            clear box pls0 om hb c05
            obtain ⟨k, pl, rfl, hk, box, hpls, om, hb⟩ := hrel
            by_cases hlt : k < L.length
            · obtain ⟨f, hf⟩ := el hlt
              have gf := om.at_ hf
              have hfN := HLN.out f (List.mem_of_getElem? hf)
              have hnum := hfN.num_lt
              have num0 := hnum.1
              have num1 := hnum.2
              have l0 : (0 : Int) ≤ k := by omega
              have l1 : (k : Int) < L.length := by omega
              obtain ⟨f0, f1, f2, f3, f4, f5⟩ := gf
              have bt := MpBox.new (w := wr) f 27 rfl
              have kk := kbelow wr (.cells #[.int .i64 f.p, .int .i64 f.a, .int .i64 f.b, .int .i64 f.c, .int .i64 f.d, .int .i64 f.e] 27)
              have HF := Lib.hid hf
              clear hf hnum
              go_wp2
              refine wp_region_headS 8 (fun w' => w'.cell? ⟨wr.heap.size, 0, none⟩ = some (.int .i64 f.p) ∧ w'.cell? ⟨wr.heap.size, 1, none⟩ = some (.int .i64 f.a) ∧ w'.cell? ⟨wr.heap.size, 2, none⟩ = some (.int .i64 f.b) ∧ w'.cell? ⟨wr.heap.size, 3, none⟩ = some (.int .i64 f.c) ∧ w'.cell? ⟨wr.heap.size, 4, none⟩ = some (.int .i64 f.d) ∧ w'.cell? ⟨wr.heap.size, 5, none⟩ = some (.int .i64 f.e)) (by kernel_rfl) (by kernel_rfl) ⟨(bt).at.cells0.1, (bt).at.cells0.2.1, (bt).at.cells0.2.2.1, (bt).at.cells0.2.2.2.1, (bt).at.cells0.2.2.2.2.1, (bt).at.cells0.2.2.2.2.2⟩ (fun hHeld => ?_)
              simp only [List.drop]
              refine headH_takeS (i := 0) (v := ?_) 135 rfl (by kernel_rfl) (by kernel_rfl) (fun _ _ _ h => h) (Or.inl ⟨by rfl, ?_⟩) hHeld ?_
              rotate_left
              · intro w hSw
                (try dsimp only at hSw)
                go_simp
                try with_reducible rfl
              try simp only [Act.put, List.setIfInBounds_toArray, List.set_cons_zero, List.set_cons_succ]
              refine headH_takeS (i := 1) (v := ?_) 136 rfl (by kernel_rfl) (by kernel_rfl) (fun _ _ _ h => h) (Or.inl ⟨by rfl, ?_⟩) hHeld ?_
              rotate_left
              · intro w hSw
                (try dsimp only at hSw)
                go_simp
                try with_reducible rfl
              try simp only [Act.put, List.setIfInBounds_toArray, List.set_cons_zero, List.set_cons_succ]
              refine headH_takeS (i := 3) (v := ?_) 138 rfl (by kernel_rfl) (by kernel_rfl) (fun _ _ _ h => h) (Or.inl ⟨by rfl, ?_⟩) hHeld ?_
              rotate_left
              · intro w hSw
                (try dsimp only at hSw)
                go_simp
                try with_reducible rfl
              try simp only [Act.put, List.setIfInBounds_toArray, List.set_cons_zero, List.set_cons_succ]
              refine headH_takeS (i := 4) (v := ?_) 139 rfl (by kernel_rfl) (by kernel_rfl) (fun _ _ _ h => h) (Or.inl ⟨by rfl, ?_⟩) hHeld ?_
              rotate_left
              · intro w hSw
                (try dsimp only at hSw)
                go_simp
                try with_reducible rfl
              try simp only [Act.put, List.setIfInBounds_toArray, List.set_cons_zero, List.set_cons_succ]
              refine headH_takeS (i := 5) (v := ?_) 140 rfl (by kernel_rfl) (by kernel_rfl) (fun _ _ _ h => h) (Or.inl ⟨by rfl, ?_⟩) hHeld ?_
              rotate_left
              · intro w hSw
                (try dsimp only at hSw)
                go_simp
                try with_reducible rfl
              try simp only [Act.put, List.setIfInBounds_toArray, List.set_cons_zero, List.set_cons_succ]
              refine headH_takeS (i := 6) (v := ?_) 141 rfl (by kernel_rfl) (by kernel_rfl) (fun _ _ _ h => h) (Or.inl ⟨by rfl, ?_⟩) hHeld ?_
              rotate_left
              · intro w hSw
                (try dsimp only at hSw)
                go_simp
                try with_reducible rfl
              try simp only [Act.put, List.setIfInBounds_toArray, List.set_cons_zero, List.set_cons_succ]
              refine headH_all (rs := [2]) (by kernel_rfl) (by kernel_rfl) (headH_cons rfl (fun K hK => ?_) headH_nil)
              go_simp
              go_at_call 111
              refine (number_c f n _ hfN).mono ?_
              rintro e w6 ⟨rfl, hb6⟩
              try go_simp
              replace hb6 := bdr hb6
              have bt6 := bt.below hb6
              refine hK.out _ _ ⟨(bt6).at.cells0.1, (bt6).at.cells0.2.1, (bt6).at.cells0.2.2.1, (bt6).at.cells0.2.2.2.1, (bt6).at.cells0.2.2.2.2.1, (bt6).at.cells0.2.2.2.2.2⟩ (fun hHeldn => ?_)
              clear hK K hHeld
              have hHeld := hHeldn
              clear hHeldn
              try simp only [Act.put, List.setIfInBounds_toArray, List.set_cons_zero, List.set_cons_succ]
              refine headH_takeS (i := 7) (v := ?_) 142 rfl (by kernel_rfl) (by kernel_rfl) (fun _ _ _ h => h) (Or.inl ⟨by rfl, ?_⟩) hHeld ?_
              rotate_left
              · intro w hSw
                (try dsimp only at hSw)
                go_simp
                try with_reducible rfl
              try simp only [Act.put, List.setIfInBounds_toArray, List.set_cons_zero, List.set_cons_succ]
              refine headH_tail (by kernel_rfl) ?_
              clear hHeld
              have hbk := btrans kk hb6
              have box6 := box.below hbk
              have om6 := om.below hbk
              have hb7 := btrans hb hbk
              have fr6 := fun j => box6.free j
              have cp6 := box6.cp (i := f.num.toNat) (by omega)
              clear bt bt6 box om hb hb6 kk hbk f0 f1 f2 f3 f4 f5
              go_wp2
              go_roundw
              case rel => exact ⟨k + 1, _, by go_num, by omega, box6.putp (i := f.num.toNat) (by omega) ((k : Int) + 1), Lib.hid (hpls.out.set HASC.out hfN HF.out), om6.store box6, Below.setCell hb7 (Nat.le_refl _) _⟩
              case measure => simp [intOf]; omega
            · obtain rfl : k = L.length := by omega
              go_wp2
              go_returns
              refine .inl ⟨w.heap.size, HMQ.out, rfl, ?_, Nat.le_refl _, hb⟩
              rw [HEQ.out]
              exact ⟨_, _, _, _, box, om.see', hpls.out.done HASC.out⟩
end Go.Proofs.YtilfamenadaboaaGreat
