/- 'l05Walk': the reference's search from a set, in base 2. No condition. -/
import Derived.Test.YthadgdmooacccaaBitsB
import Derived.Test.YthadgdmooacccaaSls
import Derived.Test.YthadgdmooacccaaMk
import Derived.Test.YthadgdmooacccaaFirst
namespace Go.Proofs.Ythadgdmooacccaa
set_option linter.unusedSimpArgs false
set_option linter.unusedVariables false
set_option linter.unusedSectionVars false
open Go.RowKit
/-- one letter's step of a set -/
def stB (ms : List Mp) (j S : Nat) : Nat := movedB (ms.getD j Mp.z) S
theorem univB {ms : List Mp} {n : Int} (h : RightL ms n) {S : Nat} (hS : S < 2 ^ n.toNat) : Univ (stB ms) ms.length S (List.range (2 ^ n.toNat)) :=
  ⟨List.mem_range.2 hS, fun j hj s _ => by
    refine List.mem_range.2 (movedB_lt ?_ s)
    rw [List.getD_eq_getElem?_getD, List.getElem?_eq_getElem hj]
    exact h.all _ (List.getElem_mem hj), by
    rw [List.length_range]
    have hb := h.bounds
    have : 2 ^ n.toNat ≤ 2 ^ 5 := Nat.pow_le_pow_right (by decide) (by omega)
    omega⟩
/-- what a region of makes leaves in its slots -/
def WkR (base from_ nm : Nat) (i : Nat) (v : Value) (ds : List Value) (W : World) : Prop :=
  match i with
  | 1 => ∃ g, v = .slice (some ⟨g, 0, none⟩) 1 1 ∧ OwnInts W base (.slice (some ⟨g, 0, none⟩) 1 1) [(from_ : Int)]
  | 2 => ∃ g, v = .slice (some ⟨g, 0, none⟩) 0 0 ∧ OwnInts W base (.slice (some ⟨g, 0, none⟩) 0 0) [] ∧ W.heap[g]? = some (.cells #[] 2 (0, 0))
  | 3 => ∃ g, ds = [.slice (some ⟨g, 0, none⟩) 0 0] ∧ ∃ A c, v = .slice A 1 c ∧ OwnSls W base v [⟨some ⟨g, 0, none⟩, 0, []⟩]
  | 10 => ∃ g c, v = .slice (some ⟨g, 0, none⟩) nm c ∧ OwnBools W base (.slice (some ⟨g, 0, none⟩) nm c) (List.replicate nm false)
  | _ => v = ds.headD undef
def WkD (i : Nat) : List Nat :=
  match i with
  | 3 => [2]
  | 11 => [1]
  | 12 => [3]
  | _ => []
def WkS (i : Nat) : Option Tmp :=
  match i with
  | 1 => some 13
  | 2 => some 14
  | 3 => some 15
  | 10 => some 22
  | 11 => some 6
  | 12 => some 7
  | _ => none
theorem WkR.below {base nm from_ : Nat} {i : Nat} {v : Value} {ds : List Value} {W W' : World} (h : WkR base from_ nm i v ds W) (hb : Below W.heap.size W W') : WkR base from_ nm i v ds W' := by
  unfold WkR at *
  split at h
  · obtain ⟨g, h2, h3⟩ := h; exact ⟨g, h2, h3.below hb⟩
  · obtain ⟨g, h2, h3, h4⟩ := h
    exact ⟨g, h2, h3.below hb, ((kb (S := fun _ => True) hb).block g (h3.lt g rfl).2 trivial).trans h4⟩
  · obtain ⟨g, h1, A, c, h2, h3⟩ := h; exact ⟨g, h1, A, c, h2, h3.below hb⟩
  · obtain ⟨g, c, h2, h3⟩ := h; exact ⟨g, c, h2, h3.below hb⟩
  · exact h
theorem OwnInts.none0 (w : World) (base : Nat) (hb : base ≤ w.heap.size) : OwnInts (w.alloc (.cells #[] 2)) base (.slice (some ⟨w.heap.size, 0, none⟩) 0 0) [] :=
  ⟨rfl, .inr ⟨w.heap.size, 0, #[], rfl, hb, heap_alloc_new w _, Nat.le_refl _, by decide, rfl, rfl⟩⟩
/-- which sets are marked -/
def MetB (nm : Nat) (bs : List Bool) (Q : List (Nat × List Int)) : Prop :=
  bs.length = nm ∧ ∀ x, x < nm → bs[x]? = some (Q.any fun m => decide (m.1 = x))
theorem MetB.none {nm : Nat} : MetB nm (List.replicate nm false) [] := ⟨by simp, fun x hx => by
  rw [List.getElem?_replicate, if_pos hx]
  simp⟩
theorem MetB.add {nm : Nat} {bs : List Bool} {Q : List (Nat × List Int)} {x : Nat} {u : List Int} (h : MetB nm bs Q) (hx : x < nm) : MetB nm (bs.set x true) (Q ++ [(x, u)]) := ⟨by rw [List.length_set]; exact h.1, fun y hy => by
  rw [List.any_append]
  by_cases e : x = y
  · subst e
    rw [List.getElem?_set_self (by rw [h.1]; exact hx)]
    simp
  · rw [List.getElem?_set_ne e, h.2 y hy]
    simp [e]⟩
/-- the memory between rounds -/
structure WkMem (base : Nat) (vp vw vm : Value) (ss : List Int) (ws : List Sl) (bs : List Bool) (wr : World) : Prop where
  os : OwnInts wr base vp ss
  ow : OwnSls wr base vw ws
  om : OwnBools wr base vm bs
  ew : ElsOk wr base ws
  sep : ∀ s ∈ ws, ∀ k, s.v.ownBlock = some k → vp.ownBlock ≠ some k
section
variable {base : Nat} {vp vw vm v' : Value} {ss : List Int} {ws : List Sl} {bs : List Bool} {wr w' : World}
theorem WkMem.below (h : WkMem base vp vw vm ss ws bs wr) (hb : Below wr.heap.size wr w') : WkMem base vp vw vm ss ws bs w' :=
  ⟨h.os.below hb, h.ow.below hb, h.om.below hb, h.ew.below hb, h.sep⟩
theorem wkset (w : World) (a : Addr) (u : Value) : Keep (fun k => k ≠ a.block) w (w.setCell a u) := (Keep.refl _ w).set (fun h => h rfl) u
theorem WkMem.store {g n c k : Nat} (h : WkMem base vp vw (.slice (some ⟨g, 0, none⟩) n c) ss ws bs wr) : WkMem base vp vw (.slice (some ⟨g, 0, none⟩) n c) ss ws (bs.set k true) (wr.setCell ⟨g, k, none⟩ (.bool true)) := by
  have ne : ∀ {v : Value} {e : TypeId} {l : Nat} {xs : List Value}, wr.ownsRow base e 1 v l xs → e ≠ 4 → ∀ j, v.ownBlock = some j → j ≠ g := fun hr he j hj e => own_ne hr h.om he j hj (by rw [e]; rfl)
  exact ⟨h.os.keep (ne h.os (by decide)) (wkset wr ⟨g, k, none⟩ (.bool true)), h.ow.keep (ne h.ow (by decide)) (wkset wr ⟨g, k, none⟩ (.bool true)), h.om.put k true, fun s hs => (h.ew s hs).keep (ne (h.ew s hs) (by decide)) (wkset wr ⟨g, k, none⟩ (.bool true)), h.sep⟩
theorem WkMem.pushS {x : Int} (h : WkMem base vp vw vm ss ws bs wr) (hg : wr.grownBy w' vp.ownBlock) (ho : OwnInts w' base v' (ss ++ [x])) (hv : v'.ownBlock = vp.ownBlock ∨ v'.ownBlock = some wr.heap.size) : WkMem base v' vw vm (ss ++ [x]) ws bs w' :=
  ⟨ho, h.ow.grow hg (own_ne h.ow h.os (by decide)), h.om.grow hg (own_ne h.om h.os (by decide)), fun s hs => (h.ew s hs).grow hg (h.sep s hs), fun s hs k hk hp => by
    rcases hv with e | e
    · exact h.sep s hs k hk (e ▸ hp)
    · rw [e] at hp
      have := ((h.ew s hs).lt k hk).2
      have := Option.some.inj hp
      omega⟩
theorem WkMem.pushW {s : Sl} (h : WkMem base vp vw vm ss ws bs wr) (hg : wr.grownBy w' vw.ownBlock) (ho : OwnSls w' base v' (ws ++ [s])) (hs : OwnInts wr base s.v s.xs) (hn : ∀ k, s.v.ownBlock = some k → vp.ownBlock ≠ some k) : WkMem base vp v' vm ss (ws ++ [s]) bs w' :=
  ⟨h.os.grow hg (own_ne h.os h.ow (by decide)), ho, h.om.grow hg (own_ne h.om h.ow (by decide)), (h.ew.snoc hs).growSl h.ow hg, fun s' hs' => by
    rcases List.mem_append.1 hs' with hs' | hs'
    · exact h.sep s' hs'
    · rw [List.mem_singleton.1 hs']; exact hn⟩
end
/-- what the lists hold between rounds -/
structure WkPure (nm : Nat) (Q : List (Nat × List Int)) (ss : List Int) (ws : List Sl) (bs : List Bool) : Prop where
  sq : ss = Q.map fun m => (m.1 : Int)
  wq : ws.map Sl.xs = Q.map Prod.snd
  met : MetB nm bs Q
theorem WkPure.len {nm : Nat} {Q : List (Nat × List Int)} {ss : List Int} {ws : List Sl} {bs : List Bool} (h : WkPure nm Q ss ws bs) : ss.length = Q.length ∧ ws.length = Q.length := by
  have h1 := congrArg List.length h.sq
  have h2 := congrArg List.length h.wq
  rw [List.length_map] at h1
  rw [List.length_map, List.length_map] at h2
  exact ⟨h1, h2⟩
theorem WkPure.get {nm : Nat} {Q : List (Nat × List Int)} {ss : List Int} {ws : List Sl} {bs : List Bool} (h : WkPure nm Q ss ws bs) {k : Nat} {m : Nat × List Int} (hk : Q[k]? = some m) : ss[k]? = some (m.1 : Int) ∧ ∃ s, ws[k]? = some s ∧ s.xs = m.2 := by
  have h2 := congrArg (fun l : List (List Int) => l[k]?) h.wq
  simp only [List.getElem?_map, hk, Option.map_some, Option.map_eq_some_iff] at h2
  obtain ⟨s', e3, e4⟩ := h2
  exact ⟨by rw [h.sq, List.getElem?_map, hk]; rfl, s', e3, e4⟩
/-- what 'l05Walk' hands back -/
def WkPost (Q : List (Nat × List Int)) (w : World) (e : Ending) (w' : World) : Prop := ∃ vs vw ws, e = .returned (.tuple #[vs, vw]) ∧ OwnInts w' w.heap.size vs (Q.map fun m => (m.1 : Int)) ∧ OwnSls w' w.heap.size vw ws ∧ ElsOk w' w.heap.size ws ∧ ws.map Sl.xs = Q.map Prod.snd ∧ Below w.heap.size w w'
theorem pow_wrap {x y : Int} (h : wrap64 x = y) : IntKind.i64.wrap x = y := by rw [IntKind.wrap_i64, ← h]; unfold wrap64; rfl
set_option maxHeartbeats 400000 in
set_option maxRecDepth 100000 in
theorem l05Walk_c (A : Option Addr) (c : Nat) (ms : List Mp) (n : Int) (S : Nat) (w : World) (h : SeeMaps w A ms) (hr : RightL ms n) (hS : S < 2 ^ n.toNat) :
    Calls Try.prog 79 #[.slice A ms.length c, .int .i64 (S : Int)] w (WkPost (gF (stB ms) ms.length S) w) := by
  obtain ⟨b0, o0, m0, rfl, hm0, g0⟩ := h.at_ hr.pos
  have hmp : m0.p = n := (hr.all m0 (List.mem_of_getElem? hm0)).2
  have p0 := g0.h0
  rw [hmp, Nat.zero_mul, Nat.add_zero] at p0
  have lpos := hr.pos
  have nb := hr.bounds
  have six := hr.six
  have hU := univB hr hS
  have pw := pow_of (x := n) (by omega) (by omega)
  rw [Nat.one_shiftLeft] at pw
  obtain ⟨nm, hnm⟩ : ∃ nm, nm = 2 ^ n.toNat := ⟨_, rfl⟩
  have nm32 : nm ≤ 32 := by
    have : 2 ^ n.toNat ≤ 2 ^ 5 := Nat.pow_le_pow_right (by decide) (by omega)
    omega
  rw [← hnm] at hS pw hU
  have pu : IntKind.u64.wrap n = n := by
    rcases (by omega : n = 1 ∨ n = 2 ∨ n = 3 ∨ n = 4 ∨ n = 5) with rfl | rfl | rfl | rfl | rfl <;> rfl
  have pw2 : IntKind.i64.wrap (2 ^ n.toNat) = (nm : Int) := pow_wrap pw
  have HU := Lib.hid hU
  have HR := Lib.hid hr
  have HH := Lib.hid h
  have HNM := Lib.hid hnm
  clear hU hr h hnm hm0 g0 hmp
  have s0 : (0 : Int) ≤ S := by omega
  have s1 : (S : Int) < nm := by omega
  go_enter Try.func79, Try.ntmps79
  go_wp2
  refine wp_region_headS 13 (fun w' => w'.cell? ⟨b0, o0, none⟩ = some (.int .i64 n)) (by kernel_rfl) (by kernel_rfl) p0 (fun hHeld => ?_)
  simp only [List.drop]
  refine headH_takeS (i := 0) (v := ?_) 12 rfl (by kernel_rfl) (by kernel_rfl) (fun _ _ _ h => h) (Or.inl ⟨by rfl, ?_⟩) hHeld ?_
  rotate_left
  · intro w hSw
    (try dsimp only at hSw)
    go_simp
    try with_reducible rfl
  try simp only [Act.put, List.setIfInBounds_toArray, List.set_cons_zero, List.set_cons_succ]
  refine headH_takeS (i := 4) (v := ?_) 16 rfl (by kernel_rfl) (by kernel_rfl) (fun _ _ _ h => h) (Or.inl ⟨by rfl, ?_⟩) hHeld ?_
  rotate_left
  · intro w hSw
    (try dsimp only at hSw)
    go_simp
    try with_reducible rfl
  try simp only [Act.put, List.setIfInBounds_toArray, List.set_cons_zero, List.set_cons_succ]
  refine headH_takeS (i := 5) (v := ?_) 17 rfl (by kernel_rfl) (by kernel_rfl) (fun _ _ _ h => h) (Or.inl ⟨by rfl, ?_⟩) hHeld ?_
  rotate_left
  · intro w hSw
    (try dsimp only at hSw)
    go_simp
    try with_reducible rfl
  try simp only [Act.put, List.setIfInBounds_toArray, List.set_cons_zero, List.set_cons_succ]
  refine headH_takeS (i := 6) (v := ?_) 18 rfl (by kernel_rfl) (by kernel_rfl) (fun _ _ _ h => h) (Or.inl ⟨by rfl, ?_⟩) hHeld ?_
  rotate_left
  · intro w hSw
    (try dsimp only at hSw)
    go_simp
    try with_reducible rfl
  try simp only [Act.put, List.setIfInBounds_toArray, List.set_cons_zero, List.set_cons_succ]
  refine headH_takeS (i := 7) (v := ?_) 19 rfl (by kernel_rfl) (by kernel_rfl) (fun _ _ _ h => h) (Or.inl ⟨by rfl, ?_⟩) hHeld ?_
  rotate_left
  · intro w hSw
    (try dsimp only at hSw)
    go_simp
    try with_reducible rfl
  try simp only [Act.put, List.setIfInBounds_toArray, List.set_cons_zero, List.set_cons_succ]
  refine headH_takeS (i := 8) (v := ?_) 20 rfl (by kernel_rfl) (by kernel_rfl) (fun _ _ _ h => h) (Or.inl ⟨by rfl, ?_⟩) hHeld ?_
  rotate_left
  · intro w hSw
    (try dsimp only at hSw)
    go_simp
    try with_reducible rfl
  try simp only [Act.put, List.setIfInBounds_toArray, List.set_cons_zero, List.set_cons_succ]
  refine headH_takeS (i := 9) (v := ?_) 21 rfl (by kernel_rfl) (by kernel_rfl) (fun _ _ _ h => h) (Or.inl ⟨by rfl, ?_⟩) hHeld ?_
  rotate_left
  · intro w hSw
    (try dsimp only at hSw)
    go_simp
    try with_reducible rfl
  try simp only [Act.put, List.setIfInBounds_toArray, List.set_cons_zero, List.set_cons_succ]
  clear pu pw2 pw
  refine headH_mks (n := 13) (g := 0) [1, 2, 3, 10, 11, 12] WkD WkS (WkR w.heap.size S nm) (by kernel_rfl) (by kernel_rfl) (fun _ _ _ _ _ h hb => h.below hb) (fun W hW => bcell hW hHeld) ?_ ?_
  · refine AllMk.cons rfl ?_ (AllMk.cons rfl ?_ (AllMk.cons rfl ?_ (AllMk.cons rfl ?_ (AllMk.cons rfl ?_ (AllMk.cons rfl ?_ AllMk.nil)))))
    · intro vs W K hbW hR hK
      have z : w.heap.size ≤ W.heap.size := by have h1 := hbW.size; simp at h1; omega
      clear hR
      simp only [WkD, WkS, putsD, Act.put, List.setIfInBounds_toArray, List.set_cons_zero, List.set_cons_succ] at hK ⊢
      go_simp
      exact hK.out _ _ (kbelow _ _) ⟨_, rfl, OwnInts.one W _ z (S : Int)⟩
    · intro vs W K hbW hR hK
      have z : w.heap.size ≤ W.heap.size := by have h1 := hbW.size; simp at h1; omega
      clear hR
      simp only [WkD, WkS, putsD, Act.put, List.setIfInBounds_toArray, List.set_cons_zero, List.set_cons_succ] at hK ⊢
      go_simp
      exact hK.out _ _ (kbelow _ _) ⟨_, rfl, OwnInts.none0 W _ z, heap_alloc_new W _⟩
    · intro vs W K hbW hR hK
      have z : w.heap.size ≤ W.heap.size := by have h1 := hbW.size; simp at h1; omega
      obtain ⟨gs, hs2, hs3, _⟩ := hR 2 (by simp [WkD])
      simp only [WkD, WkS, putsD, hs2, Act.put, List.setIfInBounds_toArray, List.set_cons_zero, List.set_cons_succ] at hK ⊢
      clear hR
      go_simp
      exact hK.out _ _ (kbelow _ _) ⟨gs, by simp [WkD, hs2], _, _, rfl, OwnSls.one W _ z ⟨some ⟨gs, 0, none⟩, 0, []⟩⟩
    · intro vs W K hbW hR hK
      have z : w.heap.size ≤ W.heap.size := by have h1 := hbW.size; simp at h1; omega
      clear hR
      simp only [WkD, WkS, putsD, Act.put, List.setIfInBounds_toArray, List.set_cons_zero, List.set_cons_succ] at hK ⊢
      obtain ⟨ib, hib, hz0, hz1, hz2⟩ := info_parts info_bool
      obtain ⟨w', hrun, r1, r2⟩ := run_make_full (P := Try.prog) W w.heap.size 121 4 ib _ 1 Try.underlying121 hib hz0 hz1 .i64 .i64 nm (by rw [hz2]; omega) (by unfold maxLen; omega) z
      go_simp
      refine hK.out _ _ ((Below.refl _ _).grown r2 (Nat.le_refl _) (fun k h => by cases h)) ⟨_, _, rfl, ?_⟩
      unfold OwnBools
      rw [List.length_replicate, List.map_replicate]
      have ec : (Value.bool false).cells = #[.bool false] := rfl
      rw [Nat.mul_one, ec, toList_madeCells_one] at r1
      exact r1
    · intro vs W K hbW hR hK
      clear hR
      simp only [WkD, WkS, putsD, Act.put, List.setIfInBounds_toArray, List.set_cons_zero, List.set_cons_succ] at hK ⊢
      go_simp
      exact hK.out _ _ (Below.refl _ _) (by simp [WkR, WkD])
    · intro vs W K hbW hR hK
      clear hR
      simp only [WkD, WkS, putsD, Act.put, List.setIfInBounds_toArray, List.set_cons_zero, List.set_cons_succ] at hK ⊢
      go_simp
      exact hK.out _ _ (Below.refl _ _) (by simp [WkR, WkD])
  · intro vs W hbW hR
    obtain ⟨y1, e1, r1⟩ := hR 1 (by simp)
    obtain ⟨y2, e2, r2, q2⟩ := hR 2 (by simp)
    obtain ⟨y2', e3', A3, c3, e3, r3⟩ := hR 3 (by simp)
    obtain ⟨y4, c4, e4, r4⟩ := hR 10 (by simp)
    have e11 := hR 11 (by simp)
    have e12 := hR 12 (by simp)
    simp only [WkR, WkD, List.map_cons, List.map_nil, List.headD_cons] at e11 e12
    simp only [WkD, List.map_cons, List.map_nil, e2, List.cons.injEq, Value.slice.injEq, Option.some.injEq, Addr.mk.injEq, and_true] at e3'
    subst e3'
    simp only [setAll, WkD, WkS, putsD, Act.put, List.setIfInBounds_toArray, List.set_cons_zero, List.set_cons_succ]
    refine headH_tail (by kernel_rfl) ?_
    rw [e11, e12, e1, e3, e4]
    clear e1 e2 e4 e11 e12 hR hHeld
    rw [e3] at r3
    obtain ⟨Aw, cw, hvw, gw⟩ := r3.at_
    simp only [List.length_singleton, Value.slice.injEq, true_and] at hvw
    obtain ⟨e5, e6⟩ := hvw
    rw [e5, e6] at r3 ⊢
    clear e5 e6
    have hne : ∀ s ∈ [(⟨some ⟨y2, 0, none⟩, 0, []⟩ : Sl)], ∀ k, s.v.ownBlock = some k → (Value.slice (some ⟨y1, 0, none⟩) 1 1).ownBlock ≠ some k := fun s hs k hk hk' => by
      rw [List.mem_singleton.1 hs] at hk
      simp [Value.ownBlock, Sl.v] at hk hk'
      subst hk
      subst hk'
      obtain ⟨b, o, x, e, hx, q⟩ := r1.see'.at_ (k := 0) (by simp)
      simp only [Option.some.injEq, Addr.mk.injEq, and_true] at e
      obtain ⟨rfl, rfl⟩ := e
      rw [cell_of_row W _ _ _ _ (0, 0) q2] at q
      simp at q
    have hmt := (MetB.none (nm := nm)).2 S hS
    have hmc := r4.at_ hmt
    have met0 := r4.free
    go_wp2
    have mem0 : WkMem w.heap.size (.slice (some ⟨y1, 0, none⟩) 1 1) (.slice Aw 1 cw) (.slice (some ⟨y4, 0, none⟩) nm c4) [(S : Int)] [⟨some ⟨y2, 0, none⟩, 0, []⟩] ((List.replicate nm false).set S true) (W.setCell ⟨y4, S, none⟩ (.bool true)) :=
      WkMem.store ⟨r1, r3, r4, fun s hs => by rw [List.mem_singleton.1 hs]; exact r2, hne⟩
    have pur0 : WkPure nm [(S, [])] [(S : Int)] [⟨some ⟨y2, 0, none⟩, 0, []⟩] ((List.replicate nm false).set S true) := ⟨rfl, rfl, MetB.none.add hS⟩
    have bel0 : Below w.heap.size w (W.setCell ⟨y4, S, none⟩ (.bool true)) := Below.setCell (bdr hbW) (by have := (r4.lt y4 rfl).1; exact this) _
    clear r1 r2 r3 r4 gw hmc hmt met0 hbW q2 hne
    go_loopw [9, 6, 7] (fun at_ vp vw wr => ∃ (k : Nat) (ss : List Int) (ws : List Sl) (bs : List Bool), at_ = .int .i64 k ∧ k ≤ ss.length ∧ WkMem w.heap.size vp vw (.slice (some ⟨y4, 0, none⟩) nm c4) ss ws bs wr ∧ Hid (WkPure nm (gb (stB ms) ms.length S k) ss ws bs) ∧ Below w.heap.size w wr) (fun at_ _ _ _ => 1001 - (intOf at_).toNat)
    case atStart => exact ⟨0, _, _, _, rfl, Nat.zero_le _, mem0, pur0, bel0⟩
    case round =>
      clear mem0 pur0 bel0
      obtain ⟨k, ss, ws, bs, rfl, hk, mem, pur, hb⟩ := hrel
      obtain ⟨l1, l2⟩ := pur.out.len
      have hle := gb_length HU.out k
      rw [← l1] at hle
      have L1 := Lib.hid l1
      have L2 := Lib.hid l2
      clear l1 l2
      obtain ⟨As, cs, rfl, -⟩ := mem.os.see
      obtain ⟨Aw, cw, rfl, gw⟩ := mem.ow.at_
      by_cases hlt : k < ss.length
      · obtain ⟨now, hnow⟩ := el (xs := gb (stB ms) ms.length S k) (k := k) (by rw [← L1.out]; exact hlt)
        have hgq : gb (stB ms) ms.length S (k + 1) = gTo (stB ms) now (gb (stB ms) ms.length S k) ms.length := gb_succ hnow
        have HGQ := Lib.hid hgq
        have HN := Lib.hid hnow
        have nlt : now.1 < nm := List.mem_range.1 ((gb_fine HU.out k).mem now (List.mem_of_getElem? hnow))
        have l0 : (0 : Int) ≤ k := by omega
        have l0' : (k : Int) < ss.length := by omega
        have k1000 : k < 1000 := by omega
        clear hgq hnow gw
        go_wp2
        go_loopw [10, 6, 7] (fun i vp vw wr => ∃ (j : Nat) (ss ws : _) (bs : List Bool), i = .int .i64 j ∧ j ≤ ms.length ∧ WkMem w.heap.size vp vw (.slice (some ⟨y4, 0, none⟩) nm c4) ss ws bs wr ∧ Hid (WkPure nm (gTo (stB ms) now (gb (stB ms) ms.length S k) j) ss ws bs) ∧ Below w.heap.size w wr) (fun i _ _ _ => ms.length - (intOf i).toNat)
        case atStart => exact ⟨0, ss, ws, bs, rfl, Nat.zero_le _, mem, pur, hb⟩
        case round =>
          clear mem pur hb hlt hle hk L1 L2 l0'
          obtain ⟨j, ss, ws, bs, rfl, hj, mem, pur, hb⟩ := hrel
          have hpl := pur.out.len
          by_cases hlj : j < ms.length
          · obtain ⟨b1, o1, f, e1, hf, gf⟩ := (HH.out.below hb).at_ hlj
            simp only [Option.some.injEq, Addr.mk.injEq, and_true] at e1
            obtain ⟨rfl, rfl⟩ := e1
            have hfn : MpN f n := HR.out.all f (List.mem_of_getElem? hf)
            have hst : stB ms j now.1 = movedB f now.1 := by
              unfold stB
              rw [List.getD_eq_getElem?_getD, hf]
              rfl
            have hml := movedB_lt hfn now.1
            rw [← HNM.out] at hml
            obtain ⟨x, hx⟩ : ∃ x, x = movedB f now.1 := ⟨_, rfl⟩
            rw [← hx] at hst hml
            have HST := Lib.hid hst
            have HX := Lib.hid hx
            have HFN := Lib.hid hfn
            have hmt := pur.out.met.2 x hml
            have hmc := mem.om.at_ hmt
            have hmf := mem.om.free
            have hin0 : (gTo (stB ms) now (gb (stB ms) ms.length S k) j)[k]? = some now := by
              obtain ⟨t, ht⟩ := gTo_prefix (st := stB ms) now (gb (stB ms) ms.length S k) j
              rw [ht, List.getElem?_append_left (List.getElem?_eq_some_iff.1 HN.out).1]
              exact HN.out
            obtain ⟨hs1, sw1, hsw1, hswx1⟩ := pur.out.get hin0
            have hql := FineG.length (gTo_fine (st := stB ms) (now := now) (gb_fine HU.out k) j (fun i hi => HU.out.step i (by omega) _ ((gb_fine HU.out k).mem now (List.mem_of_getElem? HN.out))))
            have hul := HU.out.len
            have ss1 : ss.length ≤ 1000 := by rw [hpl.1]; exact Nat.le_trans hql hul
            have ws1 : ws.length ≤ 1000 := by rw [hpl.2]; exact Nat.le_trans hql hul
            have lk : k < ss.length := (List.getElem?_eq_some_iff.1 hs1).1
            have lk' : (k : Int) < ss.length := by omega
            have lw : k < ws.length := (List.getElem?_eq_some_iff.1 hsw1).1
            have lw' : (k : Int) < ws.length := by omega
            have lj0 : (0 : Int) ≤ j := by omega
            have lj1 : (j : Int) < ms.length := by omega
            have x0 : (0 : Int) ≤ x := by omega
            have x1 : (x : Int) < nm := by omega
            have HPL := Lib.hid hpl
            have sw1l : sw1.xs.length ≤ 1000 := by rw [hswx1]; have := gb_words (st := stB ms) (L := ms.length) (start := S) k now (List.mem_of_getElem? HN.out); omega
            have HSW1 := Lib.hid hsw1
            have HSWX1 := Lib.hid hswx1
            have hstep : ∀ (ss' : List Int) (ws' : List Sl) (bs' : List Bool), ((gTo (stB ms) now (gb (stB ms) ms.length S k) j).any (fun m => decide (m.1 = x)) = true → ss' = ss ∧ ws' = ws ∧ bs' = bs) → ((gTo (stB ms) now (gb (stB ms) ms.length S k) j).any (fun m => decide (m.1 = x)) = false → ∃ s' : Sl, s'.xs = now.2 ++ [(j : Int)] ∧ ss' = ss ++ [(x : Int)] ∧ ws' = ws ++ [s'] ∧ bs' = bs.set x true) → WkPure nm (gTo (stB ms) now (gb (stB ms) ms.length S k) (j + 1)) ss' ws' bs' := fun ss' ws' bs' h1 h2 => by
              show WkPure nm (g1 (stB ms) now (gTo (stB ms) now (gb (stB ms) ms.length S k) j) j) ss' ws' bs'
              cases hin : (gTo (stB ms) now (gb (stB ms) ms.length S k) j).any (fun m => decide (m.1 = x))
              · obtain ⟨s', e2, rfl, rfl, rfl⟩ := h2 hin
                rw [g1_new (by rw [HST.out]; exact hin), HST.out]
                exact ⟨by rw [List.map_append, pur.out.sq]; simp, by rw [List.map_append, List.map_append, pur.out.wq]; simp [e2], pur.out.met.add (by omega)⟩
              · obtain ⟨rfl, rfl, rfl⟩ := h1 hin
                rw [g1_hit (by rw [HST.out]; exact hin)]
                exact pur.out
            have HSTEP := Lib.hid hstep
            obtain ⟨As, cs, rfl, hss⟩ := mem.os.see
            obtain ⟨Aw, cw, rfl, gw⟩ := mem.ow.at_
            obtain ⟨bs0, os0, xs0, rfl, hxs0, qs0⟩ := hss.at_ lk
            rw [hs1] at hxs0
            obtain rfl := Option.some.inj hxs0
            obtain ⟨bw1, rfl, _⟩ := gw k sw1 hsw1
            obtain ⟨f0, f1, f2, f3, f4, f5⟩ := gf.bw
            have QS := bwcell qs0
            have HMOV := Lib.hid (fun W => (show Calls Try.prog 68 #[.agg #[.int .i64 f.p, .int .i64 f.a, .int .i64 f.b, .int .i64 f.c, .int .i64 f.d, .int .i64 f.e], .int .i64 (now.1 : Int)] W fun e w' => e = .returned (.int .i64 (x : Int)) ∧ Below W.heap.size W w' by rw [hx]; exact l01Moved_c f n now.1 W hfn (by omega)))
            clear hst hx hf gf hmt hin0 hs1 hsw1 hswx1 hql hul hstep hfn hss gw qs0 hpl
            cases hin : (gTo (stB ms) now (gb (stB ms) ms.length S k) j).any (fun m => decide (m.1 = x))
            · rw [hin] at hmc
              have HIN := Lib.hid hin
              clear hin
              go_wp2
              refine wp_region_bw (by kernel_rfl) (by kernel_rfl) ?_
              repeat go_big_quiet_step ((go_at_call 68; exact Calls.bw _ (HMOV.out _)))
              refine wpQuiet_nil ?_
              rintro w6 ⟨⟨w6x, hb6⟩, rfl⟩
              have mem6 := mem.below hb6
              have hmc6 := bcell hb6 hmc
              have hmf6 := mem6.om.free
              have hb7 := btrans hb hb6
              clear QS f0 f1 f2 f3 f4 f5 hmf hmc
              have mem8 := (mem6.store (k := x)).below (kbelow _ (.cells #[.int .i64 (x : Int)] 2))
              have hb8 : Below w.heap.size w ((w6.setCell ⟨y4, x, none⟩ (.bool true)).alloc (.cells #[.int .i64 (x : Int)] 2)) := btrans (Below.setCell hb7 (by have := (mem6.om.lt y4 rfl).1; exact this) _) (kbelow _ _)
              have hz8 := hb7.size
              go_wp2_with (at_builtin; refine wpList_push_int _ rfl (.tmp 54) (.tmp 56) rfl w.heap.size _ ss rfl mem8.os ⟨w6.heap.size, 0, none⟩ (x : Int) rfl (by simp [go_sem]) (by omega) hb8.size ?_; intro v9 w9 hown9 hgrow9 hv9; have mem9 := mem8.pushS hgrow9 hown9 hv9; obtain ⟨A9, c9, rfl, _⟩ := hown9.see; have cw9 := OwnSls.cell mem9.ow HSW1.out)
              have es9 := mem9.ew sw1 (List.mem_of_getElem? HSW1.out)
              unfold Sl.v at es9
              have hb9 : Below w.heap.size w w9 := hb8.grown hgrow9 hb8.size (fun i hi => (mem8.os.lt i hi).1)
              have z9 := hb9.size
              refine (l01Own_c sw1.A sw1.c sw1.xs w9 es9.see' es9.nilok (by omega)).mono ?_
              rintro e w10 ⟨v10, rfl, hown10, hb10⟩
              obtain ⟨A10, c10, rfl, _⟩ := hown10.see
              have z10 := hb10.size
              obtain ⟨wd, hwd⟩ : ∃ wd, wd = sw1.xs ++ [(j : Int)] := ⟨_, rfl⟩
              have HWD := Lib.hid hwd
              clear hwd
              go_wp2_with (first
                | (at_builtin; refine wpList_push_int _ rfl (.tmp 63) (.tmp 65) rfl w9.heap.size _ sw1.xs rfl (hown10.below (kbelow _ _)) ⟨w10.heap.size, 0, none⟩ (j : Int) rfl (by simp [go_sem]) (by omega) (Nat.le_trans z10 (kbelow w10 _).size) ?_; intro v11 w11 hown11 hgrow11 hv11; rw [← HWD.out] at hown11; obtain ⟨A11, c11, rfl, _⟩ := hown11.see; have hb11 : Below w9.heap.size w9 w11 := Below.grown (w := w10.alloc (.cells #[.int .i64 (j : Int)] 2)) (btrans hb10 (kbelow _ _)) hgrow11 (Nat.le_trans z10 (kbelow w10 _).size) (fun i hi => (hown10.lt i hi).1); have mem12 := (mem9.below hb11).below (kbelow w11 (.cells #[.slice A11 wd.length c11] 23)); have el12 := (hown11.below (kbelow w11 (.cells #[.slice A11 wd.length c11] 23))); have z11 := hb11.size)
                | (at_builtin; refine wpList_push_sl _ rfl (.tmp 58) (.tmp 67) rfl w.heap.size _ ws rfl mem12.ow ⟨w11.heap.size, 0, none⟩ ⟨A11, c11, wd⟩ rfl (by simp [go_sem]) (by omega) (Nat.le_trans z9 (Nat.le_trans z11 (kbelow w11 _).size)) ?_; intro v13 w13 hown13 hgrow13 hv13; have mem13 := mem12.pushW hgrow13 hown13 (el12.mono z9) (fun i hi hp => by have h1 := (el12.lt i hi).1; have h2 := (hown9.lt i hp).2; omega); obtain ⟨A13, c13', rfl, _⟩ := hown13.at_))
              go_roundw
              case rel =>
                have hb13 : Below w.heap.size w w13 := Below.grown (w := w11.alloc (.cells #[.slice A11 wd.length c11] 23)) (btrans (btrans hb9 hb11) (kbelow _ _)) hgrow13 (Nat.le_trans (Nat.le_trans z9 z11) (kbelow w11 _).size) (fun i hi => (mem12.ow.lt i hi).1)
                simp only [List.length_append, List.length_cons, List.length_nil, Nat.zero_add] at mem13
                exact ⟨j + 1, _, _, _, by go_num, by omega, mem13, HSTEP.out _ _ _ (fun h => by rw [HIN.out] at h; cases h) (fun _ => ⟨⟨A11, c11, wd⟩, by show wd = _; rw [HWD.out, HSWX1.out], rfl, rfl, rfl⟩), hb13⟩
              case measure => simp [intOf]; omega
            · rw [hin] at hmc
              have HIN := Lib.hid hin
              clear hin
              go_wp2
              refine wp_region_bw (by kernel_rfl) (by kernel_rfl) ?_
              repeat go_big_quiet_step ((go_at_call 68; exact Calls.bw _ (HMOV.out _)))
              refine wpQuiet_nil ?_
              rintro w6 ⟨⟨w6x, hb6⟩, rfl⟩
              have hmc6 := bcell hb6 hmc
              clear QS f0 f1 f2 f3 f4 f5
              go_wp2
              go_roundw
              case rel => exact ⟨j + 1, ss, ws, bs, by go_num, by omega, mem.below hb6, HSTEP.out _ _ _ (fun _ => ⟨rfl, rfl, rfl⟩) (fun h => by rw [HIN.out] at h; cases h), btrans hb hb6⟩
              case measure => simp [intOf]; omega
          · obtain rfl : j = ms.length := by omega
            go_wp2
            go_roundw
            case rel =>
              refine ⟨k + 1, ss, ws, bs, by go_num, ?_, mem, by rw [HGQ.out]; exact pur, hb⟩
              have h1 := pur.out.len.1
              obtain ⟨t, ht⟩ := gTo_prefix (st := stB ms) now (gb (stB ms) ms.length S k) ms.length
              rw [ht, List.length_append] at h1
              have := (List.getElem?_eq_some_iff.1 HN.out).1
              omega
            case measure => simp [intOf]; omega
      · have hk' : ¬ (k : Int) < ss.length := by omega
        clear gw
        go_wp2
        go_returns
        have hn : (gb (stB ms) ms.length S k)[k]? = none := List.getElem?_eq_none (by rw [← L1.out]; omega)
        rw [gF_of_end HU.out hn]
        exact ⟨_, _, ws, rfl, pur.out.sq ▸ mem.os, mem.ow, mem.ew, pur.out.wq, hb⟩
end Go.Proofs.Ythadgdmooacccaa
