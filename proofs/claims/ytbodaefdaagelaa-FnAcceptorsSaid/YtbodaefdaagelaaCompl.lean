/- 'ComplementOf', on both sides. No condition. -/
import Derived.Test.YtbodaefdaagelaaDelL
import Derived.Test.YtbodaefdaagelaaAccMark
namespace Go.Proofs.Ytbodaefdaagelaa
set_option linter.unusedSimpArgs false
set_option linter.unusedVariables false
set_option linter.unusedSectionVars false
open Go.RowKit
noncomputable def RComplementOf (ms : List Mp) (f : Int) (ls : List Int) : (List Mp × Int × List Int) × Int := if accB ms f ls = true then ((ms, f, keptL ls (ptsN (ms.headD Mp.z).p.toNat)), 0) else (([], 0, []), 1)
theorem keptL_len (ls xs : List Int) : (keptL ls xs).length ≤ xs.length := List.length_filter_le _ _
theorem RComplementOf_len (ms : List Mp) (f : Int) (ls : List Int) : (RComplementOf ms f ls).1.1.length ≤ 1000 ∧ (RComplementOf ms f ls).1.2.2.length ≤ 1000 := by
  unfold RComplementOf
  split
  · rename_i h
    have ra := RightA.of h
    have h6 := ra.list.six
    have hb := ra.list.bounds
    refine ⟨by show ms.length ≤ 1000; omega, ?_⟩
    have := keptL_len ls (ptsN (ms.headD Mp.z).p.toNat)
    rw [ptsN_length] at this
    show (keptL ls _).length ≤ 1000
    omega
  · exact ⟨Nat.zero_le _, Nat.zero_le _⟩
def AccPost (r : (List Mp × Int × List Int) × Int) (w : World) (e : Ending) (w' : World) : Prop := ∃ v v', e = .returned (.tuple #[.agg #[v, .int .i64 r.1.2.1, v'], .int .i64 r.2]) ∧ OwnMaps w' w.heap.size v r.1.1 ∧ OwnInts w' w.heap.size v' r.1.2.2 ∧ Below w.heap.size w w'
theorem RightL.first {ms : List Mp} {n : Int} (h : RightL ms n) : ∃ m, ms[0]? = some m ∧ m.p = n := by
  have hp := h.pos
  obtain ⟨m, hm⟩ := el hp
  exact ⟨m, hm, (h.all m (List.mem_of_getElem? hm)).2⟩
theorem see_lt {w : World} {A : Option Addr} {xs : List Int} (h : SeeInts w A xs) : xs = [] ∨ InS (fun k => k < w.heap.size) A := by
  cases xs with
  | nil => exact .inl rfl
  | cons x xs =>
    refine .inr fun a ha => ?_
    obtain ⟨b, o, y, e, _, q⟩ := h.at_ (k := 0) (by simp)
    rw [ha] at e
    obtain rfl := Option.some.inj e
    exact World.block_lt_of_cell? w _ q
theorem OwnMaps.nil (w : World) (base : Nat) : OwnMaps w base (.slice none 0 0) [] := ⟨[], World.ownsRow_nil _ _ _ _, ⟨rfl, fun k m hk => by simp at hk⟩⟩
set_option maxHeartbeats 400000 in
set_option maxRecDepth 100000 in
theorem implComplementOf_l {A A' : Option Addr} {c c' : Nat} {ms : List Mp} {f : Int} {ls : List Int} {w : World} (h : SeeMaps w A ms) (hn : ms.length ≤ 2097152) (hA : NilOk A c) (h' : SeeInts w A' ls) (hn' : ls.length ≤ 2097152) (hA' : NilOk A' c') :
    Calls Try.prog 42 #[.agg #[.slice A ms.length c, .int .i64 f, .slice A' ls.length c']] w fun e w' => ∃ v v', e = .returned (.tuple #[.agg #[v, .int .i64 (RComplementOf ms f ls).1.2.1, v'], .int .i64 (RComplementOf ms f ls).2]) ∧ OwnMaps w' w.heap.size v (RComplementOf ms f ls).1.1 ∧ OwnInts w' w.heap.size v' (RComplementOf ms f ls).1.2.2 ∧ Below w.heap.size w w' := by
  obtain ⟨W1, hW1⟩ : ∃ W1, W1 = (w.alloc (Obj.cells #[Value.slice A ms.length c, .int .i64 f, Value.slice A' ls.length c'] 30)).alloc (Obj.cells #[Value.slice none 0 0, .int .i64 0, Value.slice none 0 0] 30) := ⟨_, rfl⟩
  have k0 : Below w.heap.size w W1 := by rw [hW1]; go_grown
  have hz : W1.heap.size = w.heap.size + 2 := by rw [hW1]; simp
  have b0 : W1.cell? ⟨w.heap.size, 0, none⟩ = some (.slice A ms.length c) := by rw [hW1]; simp [go_sem]
  have b1 : W1.cell? ⟨w.heap.size, 1, none⟩ = some (.int .i64 f) := by rw [hW1]; simp [go_sem]
  have b2 : W1.cell? ⟨w.heap.size, 2, none⟩ = some (.slice A' ls.length c') := by rw [hW1]; simp [go_sem]
  have r0 : W1.cell? ⟨w.heap.size + 1, 0, none⟩ = some (.slice none 0 0) := by rw [hW1]; simp [go_sem]
  have r1 : W1.cell? ⟨w.heap.size + 1, 1, none⟩ = some (.int .i64 0) := by rw [hW1]; simp [go_sem]
  have r2 : W1.cell? ⟨w.heap.size + 1, 2, none⟩ = some (.slice none 0 0) := by rw [hW1]; simp [go_sem]
  have fz : ∀ j, W1.frozen? ⟨w.heap.size + 1, j, none⟩ = false := fun j => by rw [hW1]; simp [go_sem]
  have hacc := IsAcceptor_c A A' c c' ms f ls W1 (h.below k0) hn hA (h'.below k0) hn'
  obtain ⟨r, hr⟩ : ∃ r, r = RComplementOf ms f ls := ⟨_, rfl⟩
  rw [← hr]
  have HR := Lib.hid hr
  have HK0 := Lib.hid k0
  have HS := Lib.hid (h.below k0)
  have HS' := Lib.hid (h'.below k0)
  have HM := Lib.hid hA
  clear hr k0 h h' hA
  cases hac : accB ms f ls
  · rw [hac] at hacc
    have HACC := Lib.hid hacc
    have E1 := Lib.hid (show r = (([], 0, []), 1) by rw [HR.out]; unfold RComplementOf; rw [if_neg (by rw [hac]; decide)])
    clear hacc hac HR
    go_enter Try.func42, Try.ntmps42
    go_wp2_with fail
    rw [← hW1]
    clear hW1
    refine HACC.out.mono ?_
    rintro e w1 ⟨rfl, hb1⟩
    have rz := bcell hb1 r0
    have ry := bcell hb1 r1
    have rx := bcell hb1 r2
    have fy : ∀ j, w1.frozen? ⟨w.heap.size + 1, j, none⟩ = false := fun j => by rw [(brules hb1).2 _ _ (by omega)]; exact fz j
    have hb := btrans HK0.out hb1
    go_wp2
    refine bodyPost_ret (v := .tuple #[.agg #[.slice none 0 0, .int .i64 0, .slice none 0 0], .int .i64 1]) (by simp [results, Try.results42, go_sem, rz, ry, rx]) rfl ?_
    rw [E1.out]
    exact ⟨_, _, rfl, OwnMaps.nil _ _, OwnInts.nil _ _, by go_grown⟩
  · rw [hac] at hacc
    have HACC := Lib.hid hacc
    have ra := RightA.of hac
    obtain ⟨n, hn0⟩ : ∃ n, n = (ms.headD Mp.z).p := ⟨_, rfl⟩
    rw [← hn0] at ra
    obtain ⟨m0, hm0, hmp⟩ := ra.list.first
    have hbd := ra.list.bounds
    have E1 := Lib.hid (show r = ((ms, f, keptL ls (ptsN n.toNat)), 0) by rw [HR.out, hn0]; unfold RComplementOf; rw [if_pos hac])
    have hlt := see_lt HS'.out
    obtain ⟨bA, oA, m1, rfl, hm1, gm⟩ := HS.out.at_ ra.list.pos
    rw [hm0] at hm1
    obtain rfl := Option.some.inj hm1
    have pm : W1.cell? ⟨bA, oA, none⟩ = some (.int .i64 n) := by rw [← hmp]; simpa using gm.h0
    have hmm := ra.list.pos
    have six := ra.list.six
    have lm : (0 : Int) < ms.length := by omega
    have HACC := Lib.hid hacc
    have HLT := Lib.hid hlt
    clear hacc hac HR hn0 hm0 hmp gm hm1 hlt ra
    go_enter Try.func42, Try.ntmps42
    go_wp2_with fail
    rw [← hW1]
    clear hW1
    refine HACC.out.mono ?_
    rintro e w1 ⟨rfl, hb1⟩
    have c0 := bcell hb1 b0
    have pm1 := bcell hb1 pm
    have hz1 := hb1.size
    go_wp2_with fail
    refine (points_c n w1 (by omega) (by omega)).mono ?_
    rintro e w2 ⟨v2, rfl, own2, hb2⟩
    have hz2 := hb2.size
    have hlen := ptsN_length n.toNat
    obtain ⟨A1, c1, rfl, hs⟩ := own2.see
    obtain ⟨y, o, x, rfl, _, _⟩ := hs.at_ (k := 0) (by omega)
    have ho : o = 0 := by
      rcases own2.2 with ⟨h2, _⟩ | ⟨g', cap, cur, h2, _⟩
      · cases h2
      · simp only [Value.slice.injEq, Option.some.injEq, Addr.mk.injEq, and_true] at h2; exact h2.1.2
    subst ho
    have hyl := own2.lt y rfl
    have k2 := btrans hb1 hb2
    have d2 := bcell k2 b2
    have hdel := DelLast_c w.heap.size y w1.heap.size c1 A' c' (ptsN n.toNat) ls w2 d2 (HS'.out.below k2) hn' own2 (by omega) (fun W hW => by
      rcases HLT.out with rfl | hi
      · exact fun h => absurd rfl h
      · exact (HS'.out.below k2).keep (hi.mono fun k hk => by show k ≠ y; omega) hW) (by omega)
    have HDEL := Lib.hid hdel
    have KL := Lib.hid (keptL_len ls (ptsN n.toNat))
    clear hdel hs own2 d2 c0 pm1 hlen
    go_wp2_with fail
    refine HDEL.out.mono ?_
    rintro e w3 ⟨rfl, own3, hk3⟩
    have k3 : Below W1.heap.size W1 w3 := k2.trans (hk3.below (by omega) (fun k hk => by show k ≠ y; omega))
    have b03 := bcell k3 b0
    have b13 := bcell k3 b1
    have rz := bcell k3 r0
    have ry := bcell k3 r1
    have rx := bcell k3 r2
    have hz3 := k3.size
    have fy : ∀ j, w3.frozen? ⟨w.heap.size + 1, j, none⟩ = false := fun j => by rw [(brules k3).2 _ _ (by omega)]; exact fz j
    have hcl := CloneM_c ⟨bA, oA, none⟩ c ms w3.drew ((HS.out.below k3).below (Below.drew (Below.refl _ _))) hn
    have HCL := Lib.hid hcl
    have OW := Lib.hid own3
    clear hcl own3 hk3 k2 hb2 hyl
    go_wp2
    refine wp_region_headS 6 (fun w' => w'.cell? ⟨w.heap.size, 0, none⟩ = some (.slice (some ⟨bA, oA, none⟩) ms.length c) ∧ w'.cell? ⟨w.heap.size, 1, none⟩ = some (.int .i64 f)) (by kernel_rfl) (by kernel_rfl) ⟨b03, b13⟩ (fun hHeld => ?_)
    simp only [List.drop]
    refine headH_takeS (i := 0) (v := ?_) 17 rfl (by kernel_rfl) (by kernel_rfl) (fun _ _ _ h => h) (Or.inl ⟨by rfl, ?_⟩) hHeld ?_
    rotate_left
    · intro w hSw
      (try dsimp only at hSw)
      go_simp
      try with_reducible rfl
    try simp only [Act.put, List.setIfInBounds_toArray, List.set_cons_zero, List.set_cons_succ]
    refine headH_takeS (i := 1) (v := ?_) 18 rfl (by kernel_rfl) (by kernel_rfl) (fun _ _ _ h => h) (Or.inl ⟨by rfl, ?_⟩) hHeld ?_
    rotate_left
    · intro w hSw
      (try dsimp only at hSw)
      go_simp
      try with_reducible rfl
    try simp only [Act.put, List.setIfInBounds_toArray, List.set_cons_zero, List.set_cons_succ]
    refine headH_takeS (i := 3) (v := ?_) 20 rfl (by kernel_rfl) (by kernel_rfl) (fun _ _ _ h => h) (Or.inl ⟨by rfl, ?_⟩) hHeld ?_
    rotate_left
    · intro w hSw
      (try dsimp only at hSw)
      go_simp
      try with_reducible rfl
    try simp only [Act.put, List.setIfInBounds_toArray, List.set_cons_zero, List.set_cons_succ]
    refine headH_takeS (i := 4) (v := ?_) 21 rfl (by kernel_rfl) (by kernel_rfl) (fun _ _ _ h => h) (Or.inl ⟨by rfl, ?_⟩) hHeld ?_
    rotate_left
    · intro w hSw
      (try dsimp only at hSw)
      go_simp
      try with_reducible rfl
    try simp only [Act.put, List.setIfInBounds_toArray, List.set_cons_zero, List.set_cons_succ]
    refine headH_takeS (i := 5) (v := ?_) 22 rfl (by kernel_rfl) (by kernel_rfl) (fun _ _ _ h => h) (Or.inl ⟨by rfl, ?_⟩) hHeld ?_
    rotate_left
    · intro w hSw
      (try dsimp only at hSw)
      go_simp
      try with_reducible rfl
    try simp only [Act.put, List.setIfInBounds_toArray, List.set_cons_zero, List.set_cons_succ]
    refine headH_all (rs := [2]) (by kernel_rfl) (by kernel_rfl) (headH_cons rfl (fun K hK => ?_) headH_nil)
    go_simp
    refine HCL.out.mono ?_
    rintro e w4 ⟨v4, rfl, own4, hb4⟩
    obtain ⟨B4, c4, rfl, _⟩ := own4.see
    refine hK.out _ _ ⟨bcell hb4 b03, bcell hb4 b13⟩ (fun hHeldn => ?_)
    clear hK K hHeld
    have hHeld := hHeldn
    clear hHeldn
    try simp only [Act.put, List.setIfInBounds_toArray, List.set_cons_zero, List.set_cons_succ]
    refine headH_tail (by kernel_rfl) ?_
    clear hHeld
    replace hb4 := bdr hb4
    have hz4 := hb4.size
    have rz := bcell hb4 rz
    have ry := bcell hb4 ry
    have rx := bcell hb4 rx
    have fy : ∀ j, w4.frozen? ⟨w.heap.size + 1, j, none⟩ = false := fun j => by rw [(brules hb4).2 _ _ (by omega)]; exact fy j
    have hb := btrans HK0.out (btrans k3 hb4)
    have hsz3 : W1.heap.size ≤ w3.heap.size := k3.size
    have zz : w.heap.size + 1 < w4.heap.size := by omega
    go_wp2
    refine bodyPost_ret (v := .tuple #[.agg #[.slice B4 ms.length c4, .int .i64 f, .slice (some ⟨y, 0, none⟩) (keptL ls (ptsN n.toNat)).length c1], .int .i64 0]) (by simp [results, Try.results42, go_sem, rz, ry, rx, zz]) rfl ?_
    rw [E1.out]
    refine ⟨_, _, rfl, ?_, ?_, by go_grown⟩
    · refine OwnMaps.mono ?_ (show w.heap.size ≤ w3.drew.heap.size by simp; omega)
      iterate 3 refine OwnMaps.setBelow ?_ (by simp; omega) _
      exact own4
    · refine OwnInts.mono ?_ (show w.heap.size ≤ w1.heap.size by omega)
      iterate 3 refine OwnInts.setBelow ?_ (by simp; omega) _
      exact OW.out.below hb4
theorem bits_in {ls : List Int} {n : Nat} (h : ∀ x ∈ ls, 0 ≤ x ∧ x < n) (i : Nat) : (bitsN ls).testBit i = decide ((i : Int) ∈ ls) := bitsN_test (fun x hx => (h x hx).1) i
theorem compl_pts {ls : List Int} {n : Nat} (hn : n ≤ 5) (h : ∀ x ∈ ls, 0 ≤ x ∧ x < n) : ptsOf (2 ^ n - 1 - bitsN ls) = keptL ls (ptsN n) := by
  have hlt : bitsN ls < 2 ^ n := bitsN_lt h
  have e : 2 ^ n - 1 - bitsN ls = 2 ^ n - (bitsN ls + 1) := by omega
  have ht : ∀ i, (2 ^ n - 1 - bitsN ls).testBit i = (decide (i < n) && !decide ((i : Int) ∈ ls)) := fun i => by
    rw [e, Nat.testBit_two_pow_sub_succ hlt, bits_in h]
  unfold ptsOf keptL ptsN
  rw [List.filter_map]
  congr 1
  have e5 : (List.range 5).filter (fun i => decide (i < n)) = List.range n := by
    have : ∀ n, n ≤ 5 → (List.range 5).filter (fun i => decide (i < n)) = List.range n := by decide
    exact this n hn
  rw [← e5, List.filter_filter]
  refine List.filter_congr fun i _ => ?_
  rw [ht]
  exact Bool.and_comm _ _
theorem step_cat_map (w : World) {ops : Array Oper} {o : Oper} {a : Act} {K : Act → World → Prop} {Q : Exit → Act → World → Prop} {E : Prop} (hgd : o.guard = none) (s x : Operand)
    (ho : o.op = .call { callee := .builtin .append, args := #[s, x], argTypes := #[28, 28] })
    (base : Nat) (v : Value) (xs ys : List Mp) (hs : a.eval s = v) (hown : OwnMaps w base v xs) (ad : Addr) (c : Nat) (hx : a.eval x = .slice (some ad) ys.length c) (hy : SeeMaps w (some ad) ys)
    (hn : xs.length + ys.length ≤ 2097152) (hbase : base ≤ w.heap.size)
    (hK : ∀ v' w', OwnMaps w' base v' (xs ++ ys) → w.grownBy w' v.ownBlock → (v'.ownBlock = v.ownBlock ∨ v'.ownBlock = some w.heap.size) → K (a.put o.dst v') w') : if Region.wanted o (yielded ops a.tmps) = true then Oper.wp Try.prog o a w K Q else E := by
  obtain ⟨i0, hi, hz0, hz1, hz2⟩ := info_parts info_map
  obtain ⟨zs, h1, h2⟩ := hown
  have hc := hy.cells (c := c) (fun h => by cases h)
  refine step_append_see w hgd s x 28 ho base 67 i0 _ 6 48 Try.underlying28 hi hz0 hz1 hz2 rfl (by decide) v xs.length zs hs h1 (some ad) ys.length c (cellsOf ys) hx (repCells ys).len
    hc (cellsOf_one _) (by unfold maxLen; omega) (by omega) hbase (fun v' w' h3 h4 h5 => hK v' w' ⟨_, by rw [List.length_append]; exact h3, h2.append (repCells ys)⟩ h4 h5)
theorem own_across {W W2 : World} {base base' b n c n' c' : Nat} {A' : Option Addr} {ms : List Mp} {xs : List Int} (h : OwnInts W base (.slice A' n' c') xs) (h0 : OwnMaps W base' (.slice (some ⟨b, 0, none⟩) n c) ms) (hg : W.grownBy W2 (Value.slice (some ⟨b, 0, none⟩) n c).ownBlock) : OwnInts W2 base (.slice A' n' c') xs := by
  obtain ⟨ys, g1, _⟩ := h0
  exact OwnInts.keep h (S := NotOf (some ⟨b, 0, none⟩)) (own_types g1 h (by decide)) (keep_grown hg (fun k hk hn => hn _ rfl (by simpa [Value.ownBlock] using hk.symm)))
set_option maxHeartbeats 4000000 in
set_option maxRecDepth 100000 in
theorem specComplementOf_l {A A' : Option Addr} {c c' : Nat} {ms : List Mp} {f : Int} {ls : List Int} {w : World} (h : SeeMaps w A ms) (hn : ms.length ≤ 2097152) (hA : NilOk A c) (h' : SeeInts w A' ls) (hn' : ls.length ≤ 2097152) (hA' : NilOk A' c') :
    Calls Try.prog 41 #[.agg #[.slice A ms.length c, .int .i64 f, .slice A' ls.length c']] w fun e w' => ∃ v v', e = .returned (.tuple #[.agg #[v, .int .i64 (RComplementOf ms f ls).1.2.1, v'], .int .i64 (RComplementOf ms f ls).2]) ∧ OwnMaps w' w.heap.size v (RComplementOf ms f ls).1.1 ∧ OwnInts w' w.heap.size v' (RComplementOf ms f ls).1.2.2 ∧ Below w.heap.size w w' := by
  obtain ⟨W1, hW1⟩ : ∃ W1, W1 = (w.alloc (Obj.cells #[Value.slice A ms.length c, .int .i64 f, Value.slice A' ls.length c'] 30)).alloc (Obj.cells #[Value.slice none 0 0, .int .i64 0, Value.slice none 0 0] 30) := ⟨_, rfl⟩
  have k0 : Below w.heap.size w W1 := by rw [hW1]; go_grown
  have hz : W1.heap.size = w.heap.size + 2 := by rw [hW1]; simp
  have b0 : W1.cell? ⟨w.heap.size, 0, none⟩ = some (.slice A ms.length c) := by rw [hW1]; simp [go_sem]
  have b1 : W1.cell? ⟨w.heap.size, 1, none⟩ = some (.int .i64 f) := by rw [hW1]; simp [go_sem]
  have b2 : W1.cell? ⟨w.heap.size, 2, none⟩ = some (.slice A' ls.length c') := by rw [hW1]; simp [go_sem]
  have r0 : W1.cell? ⟨w.heap.size + 1, 0, none⟩ = some (.slice none 0 0) := by rw [hW1]; simp [go_sem]
  have r1 : W1.cell? ⟨w.heap.size + 1, 1, none⟩ = some (.int .i64 0) := by rw [hW1]; simp [go_sem]
  have r2 : W1.cell? ⟨w.heap.size + 1, 2, none⟩ = some (.slice none 0 0) := by rw [hW1]; simp [go_sem]
  have fz : ∀ j, W1.frozen? ⟨w.heap.size + 1, j, none⟩ = false := fun j => by rw [hW1]; simp [go_sem]
  have hacc := l07Is_c A A' c c' ms f ls W1 (h.below k0) hn (h'.below k0) hn'
  obtain ⟨r, hr⟩ : ∃ r, r = RComplementOf ms f ls := ⟨_, rfl⟩
  rw [← hr]
  have HR := Lib.hid hr
  have HK0 := Lib.hid k0
  have HS := Lib.hid (h.below k0)
  have HS' := Lib.hid (h'.below k0)
  clear hr k0 h h'
  cases hac : accB ms f ls
  · rw [hac] at hacc
    have HACC := Lib.hid hacc
    have E1 := Lib.hid (show r = (([], 0, []), 1) by rw [HR.out]; unfold RComplementOf; rw [if_neg (by rw [hac]; decide)])
    clear hacc hac HR
    go_enter Try.func41, Try.ntmps41
    go_wp2_with fail
    rw [← hW1]
    clear hW1
    refine HACC.out.mono ?_
    rintro e w1 ⟨rfl, hb1⟩
    have rz := bcell hb1 r0
    have ry := bcell hb1 r1
    have rx := bcell hb1 r2
    have fy : ∀ j, w1.frozen? ⟨w.heap.size + 1, j, none⟩ = false := fun j => by rw [(brules hb1).2 _ _ (by omega)]; exact fz j
    have hb := btrans HK0.out hb1
    go_wp2
    refine bodyPost_ret (v := .tuple #[.agg #[.slice none 0 0, .int .i64 0, .slice none 0 0], .int .i64 1]) (by simp [results, Try.results41, go_sem, rz, ry, rx]) rfl ?_
    rw [E1.out]
    exact ⟨_, _, rfl, OwnMaps.nil _ _, OwnInts.nil _ _, by go_grown⟩
  · rw [hac] at hacc
    have ra := RightA.of hac
    obtain ⟨n, hn0⟩ : ∃ n, n = (ms.headD Mp.z).p := ⟨_, rfl⟩
    rw [← hn0] at ra
    obtain ⟨m0, hm0, hmp⟩ := ra.list.first
    have hbd := ra.list.bounds
    have E1 := Lib.hid (show r = ((ms, f, keptL ls (ptsN n.toNat)), 0) by rw [HR.out, hn0]; unfold RComplementOf; rw [if_pos hac])
    obtain ⟨bA, oA, m1, rfl, hm1, gm⟩ := HS.out.at_ ra.list.pos
    rw [hm0] at hm1
    obtain rfl := Option.some.inj hm1
    have pm : W1.cell? ⟨bA, oA, none⟩ = some (.int .i64 n) := by rw [← hmp]; simpa using gm.h0
    have hmm := ra.list.pos
    have six := ra.list.six
    have lm : (0 : Int) < ms.length := by omega
    have HACC := Lib.hid hacc
    have hin : ∀ x ∈ ls, 0 ≤ x ∧ x < (n.toNat : Int) := fun x hx => by
      obtain ⟨j, hj, rfl⟩ := List.mem_iff_getElem.1 hx
      have := ra.set.range (List.getElem?_eq_getElem hj)
      omega
    have hp6 := ra.pts
    have hpts := compl_pts (n := n.toNat) (by omega) hin
    have hbl : bitsN ls < 2 ^ n.toNat := bitsN_lt hin
    have h32 : 2 ^ n.toNat ≤ 32 := Nat.pow_le_pow_right (by decide) (by omega : n.toNat ≤ 5)
    obtain ⟨bv, hbv⟩ : ∃ bv : Int, bv = (bitsN ls : Int) := ⟨_, rfl⟩
    obtain ⟨dv, hdv⟩ : ∃ dv : Int, dv = ((2 ^ n.toNat - 1 - bitsN ls : Nat) : Int) := ⟨_, rfl⟩
    have hB : ∀ W, SeeInts W A' ls → Calls Try.prog 86 #[.slice A' ls.length c'] W fun e w' => e = .returned (.int .i64 bv) ∧ Below W.heap.size W w' := fun W hW => by
      rw [hbv]
      exact l01Bits_c A' c' ls W hW hp6 hn'
    have hPT : ∀ W, Calls Try.prog 85 #[.int .i64 dv] W fun e w' => ∃ v, e = .returned v ∧ OwnInts w' W.heap.size v (keptL ls (ptsN n.toNat)) ∧ Below W.heap.size W w' := fun W => by
      rw [hdv, ← hpts]
      exact l01Points_c _ W (by omega)
    have HB := Lib.hid hB
    have HPT := Lib.hid hPT
    have pws : wrap64 (2 ^ min n.toNat 64) = wrap64 (2 ^ n.toNat) := by rw [Nat.min_eq_left (by omega)]
    obtain ⟨pv, hpv⟩ : ∃ pv : Int, pv = ((2 ^ n.toNat : Nat) : Int) := ⟨_, rfl⟩
    have pw : wrap64 (2 ^ n.toNat) = pv := by rw [hpv, pow_of (by omega) (by omega), Nat.one_shiftLeft]
    have pv1 : 1 ≤ pv := by omega
    have pv2 : pv ≤ 32 := by omega
    have bv0 : 0 ≤ bv := by omega
    have bv1 : bv ≤ pv - 1 := by omega
    have hsub0 : IntKind.i64.wrap (pv - 1 - bv) = dv := by
      have e : pv - 1 - bv = dv := by omega
      rw [e]
      exact IntWalk.i64_in _ (by omega)
    have HSUB := Lib.hid hsub0
    clear hsub0 hpv hbv hdv h32 hbl
    clear hacc hac HR hn0 hm0 hmp gm hm1 ra hB hPT hpts hin hp6
    go_enter Try.func41, Try.ntmps41
    go_wp2_with fail
    rw [← hW1]
    clear hW1
    refine HACC.out.mono ?_
    rintro e w1 ⟨rfl, hb1⟩
    have c0 := bcell hb1 b0
    have c1 := bcell hb1 b1
    have c2 := bcell hb1 b2
    have pm1 := bcell hb1 pm
    have hz1 := hb1.size
    go_wp2
    clear pws pw pm1
    have SM := Lib.hid (HS.out.below hb1)
    have SL := Lib.hid (HS'.out.below hb1)
    obtain ⟨w2, rfl⟩ : ∃ w2, w2 = w1 := ⟨_, rfl⟩
    have kb : Below w2.heap.size w2 w2.drew := bdr (Below.refl _ _)
    have hsub := HSUB.out
    refine wp_region_headS 12 (fun w' => w'.cell? ⟨w.heap.size, 0, none⟩ = some (.slice (some ⟨bA, oA, none⟩) ms.length c) ∧ w'.cell? ⟨w.heap.size, 1, none⟩ = some (.int .i64 f) ∧ w'.cell? ⟨w.heap.size, 2, none⟩ = some (.slice A' ls.length c')) (by kernel_rfl) (by kernel_rfl) ⟨c0, c1, c2⟩ (fun hHeld => ?_)
    simp only [List.drop]
    refine headH_takeS (i := 1) (v := ?_) 18 rfl (by kernel_rfl) (by kernel_rfl) (fun _ _ _ h => h) (Or.inl ⟨by rfl, ?_⟩) hHeld ?_
    rotate_left
    · intro w hSw
      (try dsimp only at hSw)
      go_simp
      try with_reducible rfl
    try simp only [Act.put, List.setIfInBounds_toArray, List.set_cons_zero, List.set_cons_succ]
    refine headH_takeS (i := 2) (v := ?_) 19 rfl (by kernel_rfl) (by kernel_rfl) (fun _ _ _ h => h) (Or.inl ⟨by rfl, ?_⟩) hHeld ?_
    rotate_left
    · intro w hSw
      (try dsimp only at hSw)
      go_simp
      try with_reducible rfl
    try simp only [Act.put, List.setIfInBounds_toArray, List.set_cons_zero, List.set_cons_succ]
    refine headH_takeS (i := 4) (v := ?_) 21 rfl (by kernel_rfl) (by kernel_rfl) (fun _ _ _ h => h) (Or.inl ⟨by rfl, ?_⟩) hHeld ?_
    rotate_left
    · intro w hSw
      (try dsimp only at hSw)
      go_simp
      try with_reducible rfl
    try simp only [Act.put, List.setIfInBounds_toArray, List.set_cons_zero, List.set_cons_succ]
    refine headH_takeS (i := 5) (v := ?_) 22 rfl (by kernel_rfl) (by kernel_rfl) (fun _ _ _ h => h) (Or.inl ⟨by rfl, ?_⟩) hHeld ?_
    rotate_left
    · intro w hSw
      (try dsimp only at hSw)
      go_simp
      try with_reducible rfl
    try simp only [Act.put, List.setIfInBounds_toArray, List.set_cons_zero, List.set_cons_succ]
    refine headH_takeS (i := 6) (v := ?_) 23 rfl (by kernel_rfl) (by kernel_rfl) (fun _ _ _ h => h) (Or.inl ⟨by rfl, ?_⟩) hHeld ?_
    rotate_left
    · intro w hSw
      (try dsimp only at hSw)
      go_simp
      try with_reducible rfl
    try simp only [Act.put, List.setIfInBounds_toArray, List.set_cons_zero, List.set_cons_succ]
    refine headH_takeS (i := 7) (v := ?_) 24 rfl (by kernel_rfl) (by kernel_rfl) (fun _ _ _ h => h) (Or.inl ⟨by rfl, ?_⟩) hHeld ?_
    rotate_left
    · intro w hSw
      (try dsimp only at hSw)
      go_simp
      try with_reducible rfl
    try simp only [Act.put, List.setIfInBounds_toArray, List.set_cons_zero, List.set_cons_succ]
    refine headH_takeS (i := 8) (v := ?_) 25 rfl (by kernel_rfl) (by kernel_rfl) (fun _ _ _ h => h) (Or.inl ⟨by rfl, ?_⟩) hHeld ?_
    rotate_left
    · intro w hSw
      (try dsimp only at hSw)
      go_simp
      try with_reducible rfl
    try simp only [Act.put, List.setIfInBounds_toArray, List.set_cons_zero, List.set_cons_succ]
    refine headH_all (rs := [0]) (by kernel_rfl) (by kernel_rfl) (headH_cons rfl (fun K hK => ?_) headH_nil)
    go_simp
    have kkx := kbelow w2.drew (.cells #[] 67)
    have kbx : Below w2.heap.size w2 (w2.drew.alloc (.cells #[] 67)) := btrans kb kkx
    have own0_x : OwnMaps (w2.drew.alloc (.cells #[] 67)) w2.heap.size (.slice (some ⟨w2.heap.size, 0, none⟩) 0 0) [] := by
      have h1 := World.ownsRow_made (e := 67) (size := 6) w2.drew #[] 0 (Nat.le_refl _) (by decide) rfl
      have h2 : (w2.drew.alloc (.cells #[] 67)).ownsRow w2.drew.heap.size 67 6 (.slice (some ⟨w2.heap.size, 0, none⟩) 0 0) 0 [] := by first | exact h1 | simpa using h1
      exact ⟨[], own_mono h2 (by first | exact Nat.le_refl _ | exact kb.size), ⟨rfl, fun k m hk => by simp at hk⟩⟩
    refine hK.out _ _ ⟨bcell kbx c0, bcell kbx c1, bcell kbx c2⟩ (fun hHeldn => ?_)
    clear hK K hHeld
    have hHeld := hHeldn
    clear hHeldn
    try simp only [Act.put, List.setIfInBounds_toArray, List.set_cons_zero, List.set_cons_succ]
    refine headH_all (rs := [3]) (by kernel_rfl) (by kernel_rfl) (headH_cons rfl (fun K hK => ?_) headH_nil)
    refine step_cat_map _ rfl (.tmp 17) (.tmp 19) rfl w2.heap.size _ [] ms rfl own0_x ⟨bA, oA, none⟩ c (by rfl) ((SM.out.below kbx)) (by simp; omega) kbx.size ?_
    intro v3 w3xx own3_xx hgxx _
    rw [List.nil_append] at own3_xx
    have kbxx : Below w2.heap.size w2 w3xx := Below.grown kbx hgxx kbx.size (fun q hq => (own0_x.lt q hq).1)
    obtain ⟨B3, c3, rfl, _⟩ := own3_xx.see
    refine hK.out _ _ ⟨bcell kbxx c0, bcell kbxx c1, bcell kbxx c2⟩ (fun hHeldn => ?_)
    clear hK K hHeld
    have hHeld := hHeldn
    clear hHeldn
    try simp only [Act.put, List.setIfInBounds_toArray, List.set_cons_zero, List.set_cons_succ]
    refine headH_all (rs := [9]) (by kernel_rfl) (by kernel_rfl) (headH_cons rfl (fun K hK => ?_) headH_nil)
    go_simp
    refine (HB.out w3xx (SL.out.below kbxx)).mono ?_
    rintro e w9xxx ⟨rfl, hbxxx⟩
    have kbxxx : Below w2.heap.size w2 w9xxx := btrans kbxx hbxxx
    have own3_xxx := own3_xx.below hbxxx
    refine hK.out _ _ ⟨bcell kbxxx c0, bcell kbxxx c1, bcell kbxxx c2⟩ (fun hHeldn => ?_)
    clear hK K hHeld
    have hHeld := hHeldn
    clear hHeldn
    try simp only [Act.put, List.setIfInBounds_toArray, List.set_cons_zero, List.set_cons_succ]
    refine headH_takeS (i := 10) (v := ?_) 27 rfl (by kernel_rfl) (by kernel_rfl) (fun _ _ _ h => h) (Or.inl ⟨by rfl, ?_⟩) hHeld ?_
    rotate_left
    · intro w hSw
      (try dsimp only at hSw)
      go_simp
      try with_reducible rfl
    try simp only [Act.put, List.setIfInBounds_toArray, List.set_cons_zero, List.set_cons_succ]
    refine headH_all (rs := [11]) (by kernel_rfl) (by kernel_rfl) (headH_cons rfl (fun K hK => ?_) headH_nil)
    go_simp
    refine (HPT.out w9xxx).mono ?_
    rintro e w11xxxx ⟨v11, rfl, own11_xxxx, hbxxxx⟩
    obtain ⟨B11, c11, rfl, _⟩ := own11_xxxx.see
    replace own11_xxxx := own11_xxxx.mono kbxxx.size
    have kbxxxx : Below w2.heap.size w2 w11xxxx := btrans kbxxx hbxxxx
    have own3_xxxx := own3_xxx.below hbxxxx
    refine hK.out _ _ ⟨bcell kbxxxx c0, bcell kbxxxx c1, bcell kbxxxx c2⟩ (fun hHeldn => ?_)
    clear hK K hHeld
    have hHeld := hHeldn
    clear hHeldn
    try simp only [Act.put, List.setIfInBounds_toArray, List.set_cons_zero, List.set_cons_succ]
    refine headH_tail (by kernel_rfl) ?_
    clear hHeld
    have ownA := own3_xxxx
    have ownB := own11_xxxx
    have kE := kbxxxx
    have rz := bcell (btrans hb1 kE) r0
    have ry := bcell (btrans hb1 kE) r1
    have rx := bcell (btrans hb1 kE) r2
    have hzE := kE.size
    obtain ⟨wE, rfl⟩ : ∃ wE, wE = w11xxxx := ⟨_, rfl⟩
    have fy : ∀ j, wE.frozen? ⟨w.heap.size + 1, j, none⟩ = false := fun j => by rw [(brules (btrans hb1 kE)).2 _ _ (by omega)]; exact fz j
    have hb := btrans HK0.out (btrans hb1 kE)
    have zz : w.heap.size + 1 < wE.heap.size := by omega
    go_wp2
    refine bodyPost_ret (v := .tuple #[.agg #[.slice B3 ms.length c3, .int .i64 f, .slice B11 (keptL ls (ptsN n.toNat)).length c11], .int .i64 0]) (by simp [results, Try.results41, go_sem, rz, ry, rx, zz]) rfl ?_
    rw [E1.out]
    refine ⟨_, _, rfl, ?_, ?_, by go_grown⟩
    · refine OwnMaps.mono ?_ (show w.heap.size ≤ w2.heap.size by omega)
      iterate 3 refine OwnMaps.setBelow ?_ (by simp; omega) _
      exact ownA
    · refine OwnInts.mono ?_ (show w.heap.size ≤ w2.heap.size by omega)
      iterate 3 refine OwnInts.setBelow ?_ (by simp; omega) _
      exact ownB
end Go.Proofs.Ytbodaefdaagelaa
