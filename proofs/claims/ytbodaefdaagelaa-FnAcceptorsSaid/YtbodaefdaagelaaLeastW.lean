/- 'least', the program's side: not finished. No condition. -/
import Derived.Test.YtbodaefdaagelaaLeastQ
import Derived.Test.YtbodaefdaagelaaPushM
import Derived.Test.YtbodaefdaagelaaAccCopy
namespace Go.Proofs.Ytbodaefdaagelaa
set_option linter.unusedSimpArgs false
set_option linter.unusedVariables false
set_option linter.unusedSectionVars false
open Go.RowKit
/-- a variable that holds an acceptor -/
def OBox (w : World) (b : Nat) (v : Value) (i : Int) (v' : Value) : Prop := ∃ t, w.heap[b]? = some (.cells #[v, .int .i64 i, v'] t (0, 0))
theorem OBox.lt {w : World} {b : Nat} {v v' : Value} {i : Int} (h : OBox w b v i v') : b < w.heap.size := by
  obtain ⟨t, h⟩ := h
  exact (Array.getElem?_eq_some_iff.1 h).1
theorem OBox.cells {w : World} {b : Nat} {v v' : Value} {i : Int} (h : OBox w b v i v') : w.cell? ⟨b, 0, none⟩ = some v ∧ w.cell? ⟨b, 1, none⟩ = some (.int .i64 i) ∧ w.cell? ⟨b, 2, none⟩ = some v' := by
  obtain ⟨t, h⟩ := h
  refine ⟨?_, ?_, ?_⟩ <;> (rw [cell_of_row w b _ _ t (0, 0) h]; rfl)
theorem OBox.free {w : World} {b : Nat} {v v' : Value} {i : Int} (h : OBox w b v i v') : ∀ j, w.frozen? ⟨b, j, none⟩ = false := fun j => by
  obtain ⟨t, h⟩ := h
  exact frozen_of_row w b j _ t h
theorem OBox.keepS {S : Nat → Prop} {w w' : World} {b : Nat} {v v' : Value} {i : Int} (h : OBox w b v i v') (hk : Keep S w w') (hs : S b) : OBox w' b v i v' := by
  have hl := h.lt
  obtain ⟨t, h⟩ := h
  exact ⟨t, (hk.block b hl hs).trans h⟩
theorem OBox.below {w w' : World} {b : Nat} {v v' : Value} {i : Int} (h : OBox w b v i v') (hb : Below w.heap.size w w') : OBox w' b v i v' := h.keepS (S := fun _ => True) (kb hb) trivial
theorem OBox.grow {w w' : World} {b : Nat} {v v' : Value} {i : Int} {row : Option Nat} (h : OBox w b v i v') (hg : w.grownBy w' row) (hr : row ≠ some b) : OBox w' b v i v' := by
  have hl := h.lt
  obtain ⟨t, h⟩ := h
  exact ⟨t, (hg.block b hl (Ne.symm hr)).trans h⟩
theorem OBox.new {w : World} {b : Nat} (v v' : Value) (i : Int) (t : TypeId) (hb : b = w.heap.size) : OBox (w.alloc (.cells #[v, .int .i64 i, v'] t)) b v i v' := by
  subst hb
  exact ⟨t, heap_alloc_new w _⟩
theorem OBox.set0 {w : World} {b : Nat} {v v' : Value} {i : Int} (h : OBox w b v i v') (u : Value) : OBox (w.setCell ⟨b, 0, none⟩ u) b u i v' := by
  obtain ⟨t, h⟩ := h
  exact ⟨t, heap_setCell_same w b 0 _ t u h⟩
theorem OBox.set2 {w : World} {b : Nat} {v v' : Value} {i : Int} (h : OBox w b v i v') (u : Value) : OBox (w.setCell ⟨b, 2, none⟩ u) b v i u := by
  obtain ⟨t, h⟩ := h
  exact ⟨t, heap_setCell_same w b 2 _ t u h⟩
theorem OwnMaps.none (w : World) (base : Nat) : OwnMaps w base (.slice none 0 0) [] := ⟨[], World.ownsRow_nil _ _ _ _, ⟨rfl, fun k m hk => by simp at hk⟩⟩
/-- one image of a map of the least acceptor -/
theorem least_step {ms : List Mp} {f n : Int} {ls : List Int} (ra : RightA ms f ls n) {m : Mp} (hm : m ∈ ms) {k : Nat} (hk : k < leastQ ms f ls) : ∃ (x y : Nat) (o t z : Int),
    fidx (fun v => decide ((k : Int) = v)) (clsL ms ls (reachL ms f)) = (x : Int) ∧ x < (reachL ms f).length ∧ cls (reachL ms f) x = o ∧ 0 ≤ o ∧ o < 5 ∧ m.to o.toNat = t ∧
    fidx (fun v => decide (t = v)) (reachL ms f) = (y : Int) ∧ y < (reachL ms f).length ∧ cls (clsL ms ls (reachL ms f)) y = z ∧
    (leastTo (clsL ms ls (reachL ms f)) (reachL ms f) (leastQ ms f ls) m k).set k z = leastTo (clsL ms ls (reachL ms f)) (reachL ms f) (leastQ ms f ls) m (k + 1) := by
  have hq := leastQ_spec (ls := ls) ra.list ra.f0 ra.f1
  have h5 := ra.list.bounds.2
  obtain ⟨e1, l1, _⟩ := fx_spec (clsL_can (ms := ms) (ls := ls) (order := reachL ms f)).1 hq.1 (v := k) (by omega)
  have hmem : cls (reachL ms f) (fxOf (clsL ms ls (reachL ms f)) k) ∈ reachL ms f := List.mem_of_getElem? (cls_get l1)
  have hr := reach_rng ra.list ra.f0 ra.f1 hmem
  obtain ⟨y, e2, l2, _⟩ := idx_spec (reach_nodup ra.list ra.f0 ra.f1) (reach_next ra.list ra.f0 ra.f1 hmem hm)
  refine ⟨_, y, _, _, _, e1, l1, rfl, hr.1, by omega, rfl, e2, l2, rfl, ?_⟩
  have := leastTo_succ (clsL ms ls (reachL ms f)) (reachL ms f) (leastQ ms f ls) m (k := k) (by omega)
  rw [e2, Int.toNat_natCast] at this
  exact this
theorem least_lastS {ms : List Mp} {f n : Int} {ls : List Int} (ra : RightA ms f ls n) {k : Nat} (hk : k < leastQ ms f ls) : ∃ (x : Nat) (o : Int),
    fidx (fun v => decide ((k : Int) = v)) (clsL ms ls (reachL ms f)) = (x : Int) ∧ x < (reachL ms f).length ∧ cls (reachL ms f) x = o ∧
    leastLast (clsL ms ls (reachL ms f)) (reachL ms f) ls (k + 1) = leastLast (clsL ms ls (reachL ms f)) (reachL ms f) ls k ++ (if o ∈ ls then [(k : Int)] else []) := by
  have hq := leastQ_spec (ls := ls) ra.list ra.f0 ra.f1
  obtain ⟨e1, l1, _⟩ := fx_spec (clsL_can (ms := ms) (ls := ls) (order := reachL ms f)).1 hq.1 (v := k) (by omega)
  exact ⟨_, _, e1, l1, rfl, leastLast_succ _ _ _ _⟩
theorem leastLast_le (cl order ls : List Int) (k : Nat) : (leastLast cl order ls k).length ≤ k := by
  unfold leastLast
  rw [List.length_map]
  have := List.length_filter_le (fun c => decide (cls order (fxOf cl c) ∈ ls)) (List.range k)
  rwa [List.length_range] at this
set_option maxHeartbeats 8000000 in
set_option maxRecDepth 100000 in
theorem least_c {B cA c' : Nat} {A A' : Option Addr} {ms : List Mp} {f n : Int} {ls : List Int} {w : World} (ra : RightA ms f ls n) (acc : AccAt w B A A' cA c' ms f ls) (hl : ls.length ≤ 2097152) (hn : ms.length ≤ 2097152) :
    Calls Try.prog 92 #[.pointer (some ⟨B, 0, none⟩)] w fun e w' => ∃ v v', e = .returned (.agg #[v, .int .i64 0, v']) ∧ OwnMaps w' w.heap.size v (leastA ms f ls).1 ∧ OwnInts w' w.heap.size v' (leastA ms f ls).2.2 ∧ Below w.heap.size w w' := by
  obtain ⟨W1, hW1⟩ : ∃ W1, W1 = (w.alloc (.cells #[.pointer (some ⟨B, 0, none⟩)] 107)).alloc (Obj.cells #[Value.slice none 0 0, .int .i64 0, Value.slice none 0 0] 30) := ⟨_, rfl⟩
  have k1 : Below w.heap.size w W1 := by rw [hW1]; go_grown
  have z1 : W1.heap.size = w.heap.size + 2 := by rw [hW1]; simp
  have q1 : W1.cell? ⟨w.heap.size, 0, none⟩ = some (.pointer (some ⟨B, 0, none⟩)) := by rw [hW1]; simp [go_sem]
  have acc1 := acc.below k1
  have rb1 : OBox W1 (w.heap.size + 1) (.slice none 0 0) 0 (.slice none 0 0) := by rw [hW1]; exact OBox.new _ _ _ _ (by simp)
  have vv1 : VBox W1 w.heap.size (.pointer (some ⟨B, 0, none⟩)) := by rw [hW1]; exact (VBox.new _ _ rfl).keep _
  have hAl : InS (fun k => k < w.heap.size) A := fun a ha => by
    obtain ⟨b, o, m, e, _, g⟩ := acc.sm.at_ ra.list.pos
    rw [e] at ha
    obtain rfl := Option.some.inj ha
    exact World.block_lt_of_cell? w _ g.h0
  have HRE := Lib.hid (fun W (hW : Below W1.heap.size W1 W) => reached_c (c := cA) W (acc1.sm.below hW) (hAl.mono fun k hk => by have := (btrans k1 hW).size; show k < W.heap.size; omega) ra.list ra.f0 ra.f1)
  obtain ⟨order, ho⟩ : ∃ order, order = reachL ms f := ⟨_, rfl⟩
  rw [← ho] at HRE
  have HO := Lib.hid ho
  obtain ⟨r, hr⟩ : ∃ r, r = leastA ms f ls := ⟨_, rfl⟩
  rw [← hr]
  have HR := Lib.hid hr
  clear hr
  have Z1 := Lib.hid z1
  clear ho z1
  have c0 := acc1.c0
  have c1 := acc1.c1
  go_enter Try.func92, Try.ntmps92
  go_upto_region 1 with fail
  rw [← hW1]
  clear hW1
  go_cut [3] from 13 to 21 (fun d wx => ∃ b3 co Ao, d = .pointer (some ⟨b3, 0, none⟩) ∧ VBox wx b3 (.slice Ao order.length co) ∧ SeeInts wx Ao order ∧ Below W1.heap.size W1 wx ∧ W1.heap.size ≤ b3)
  case first =>
    refine wp_region_headS 10 (fun w' => w'.cell? ⟨w.heap.size, 0, none⟩ = some (.pointer (some ⟨B, 0, none⟩)) ∧ w'.cell? ⟨B, 0, none⟩ = some (.slice A ms.length cA) ∧ w'.cell? ⟨B, 1, none⟩ = some (.int .i64 f)) (by kernel_rfl) (by kernel_rfl) ⟨q1, c0, c1⟩ (fun hHeld => ?_)
    simp only [List.drop]
    refine headH_takeS (i := 0) (v := ?_) 13 rfl (by kernel_rfl) (by kernel_rfl) (fun _ _ _ h => h) (Or.inl ⟨by rfl, ?_⟩) hHeld ?_
    rotate_left
    · intro w hSw
      (try dsimp only at hSw)
      go_simp
      try with_reducible rfl
    try simp only [Act.put, List.setIfInBounds_toArray, List.set_cons_zero, List.set_cons_succ]
    refine headH_takeS (i := 1) (v := ?_) 14 rfl (by kernel_rfl) (by kernel_rfl) (fun _ _ _ h => h) (Or.inl ⟨by rfl, ?_⟩) hHeld ?_
    rotate_left
    · intro w hSw
      (try dsimp only at hSw)
      go_simp
      try with_reducible rfl
    try simp only [Act.put, List.setIfInBounds_toArray, List.set_cons_zero, List.set_cons_succ]
    refine headH_takeS (i := 2) (v := ?_) 15 rfl (by kernel_rfl) (by kernel_rfl) (fun _ _ _ h => h) (Or.inl ⟨by rfl, ?_⟩) hHeld ?_
    rotate_left
    · intro w hSw
      (try dsimp only at hSw)
      go_simp
      try with_reducible rfl
    try simp only [Act.put, List.setIfInBounds_toArray, List.set_cons_zero, List.set_cons_succ]
    refine headH_takeS (i := 3) (v := ?_) 16 rfl (by kernel_rfl) (by kernel_rfl) (fun _ _ _ h => h) (Or.inl ⟨by rfl, ?_⟩) hHeld ?_
    rotate_left
    · intro w hSw
      (try dsimp only at hSw)
      go_simp
      try with_reducible rfl
    try simp only [Act.put, List.setIfInBounds_toArray, List.set_cons_zero, List.set_cons_succ]
    refine headH_takeS (i := 4) (v := ?_) 17 rfl (by kernel_rfl) (by kernel_rfl) (fun _ _ _ h => h) (Or.inl ⟨by rfl, ?_⟩) hHeld ?_
    rotate_left
    · intro w hSw
      (try dsimp only at hSw)
      go_simp
      try with_reducible rfl
    try simp only [Act.put, List.setIfInBounds_toArray, List.set_cons_zero, List.set_cons_succ]
    refine headH_takeS (i := 5) (v := ?_) 18 rfl (by kernel_rfl) (by kernel_rfl) (fun _ _ _ h => h) (Or.inl ⟨by rfl, ?_⟩) hHeld ?_
    rotate_left
    · intro w hSw
      (try dsimp only at hSw)
      go_simp
      try with_reducible rfl
    try simp only [Act.put, List.setIfInBounds_toArray, List.set_cons_zero, List.set_cons_succ]
    refine headH_takeS (i := 6) (v := ?_) 19 rfl (by kernel_rfl) (by kernel_rfl) (fun _ _ _ h => h) (Or.inl ⟨by rfl, ?_⟩) hHeld ?_
    rotate_left
    · intro w hSw
      (try dsimp only at hSw)
      go_simp
      try with_reducible rfl
    try simp only [Act.put, List.setIfInBounds_toArray, List.set_cons_zero, List.set_cons_succ]
    refine headH_takeS (i := 7) (v := ?_) 20 rfl (by kernel_rfl) (by kernel_rfl) (fun _ _ _ h => h) (Or.inl ⟨by rfl, ?_⟩) hHeld ?_
    rotate_left
    · intro w hSw
      (try dsimp only at hSw)
      go_simp
      try with_reducible rfl
    try simp only [Act.put, List.setIfInBounds_toArray, List.set_cons_zero, List.set_cons_succ]
    refine headH_all (rs := [8, 9]) (by kernel_rfl) (by kernel_rfl) (headH_cons rfl (fun K hK => ?_) (headH_cons rfl (fun K hK => ?_) headH_nil))
    · go_simp
      refine (HRE.out W1.drew (Below.drew (Below.refl _ _))).mono ?_
      rintro e w2 ⟨v2, rfl, own2, hb2⟩
      obtain ⟨A2, c2, rfl, s2⟩ := own2.see
      replace hb2 := bdr hb2
      refine hK.out _ _ ⟨bcell hb2 q1, bcell hb2 c0, bcell hb2 c1⟩ (fun hHeldn => ?_)
      clear hK K hHeld
      have hHeld := hHeldn
      clear hHeldn
      try simp only [Act.put, List.setIfInBounds_toArray, List.set_cons_zero, List.set_cons_succ]
      refine headH_all (rs := [9]) (by kernel_rfl) (by kernel_rfl) (headH_cons rfl (fun K hK => ?_) headH_nil)
      go_simp
      have kk := kbelow w2 (.cells #[.slice none 0 0] 23)
      have vb := VBox.new (w := w2) (.slice none 0 0) 23 rfl
      have hb3 := btrans hb2 kk
      refine hK.out _ _ ⟨bcell hb3 q1, bcell hb3 c0, bcell hb3 c1⟩ (fun hHeldn => ?_)
      clear hK K hHeld
      have hHeld := hHeldn
      clear hHeldn
      try simp only [Act.put, List.setIfInBounds_toArray, List.set_cons_zero, List.set_cons_succ]
      refine headH_tail (by kernel_rfl) ?_
      clear hHeld
      have vc := vb.cell
      have vf := vb.free
      go_wp2
      go_meet
      case rel =>
        exact ⟨w2.heap.size, c2, A2, rfl, VBox.new (w := w2) _ _ rfl, (own2.below (kbelow w2 _)).see', btrans hb2 (kbelow w2 _), hb2.size⟩
    · go_simp
      have kk := kbelow W1.drew (.cells #[.slice none 0 0] 23)
      have vb := VBox.new (w := W1.drew) (.slice none 0 0) 23 rfl
      have hb1 : Below W1.heap.size W1 (W1.drew.alloc (.cells #[.slice none 0 0] 23)) := bdr kk
      refine hK.out _ _ ⟨bcell hb1 q1, bcell hb1 c0, bcell hb1 c1⟩ (fun hHeldn => ?_)
      clear hK K hHeld
      have hHeld := hHeldn
      clear hHeldn
      try simp only [Act.put, List.setIfInBounds_toArray, List.set_cons_zero, List.set_cons_succ]
      refine headH_all (rs := [8]) (by kernel_rfl) (by kernel_rfl) (headH_cons rfl (fun K hK => ?_) headH_nil)
      go_simp
      refine (HRE.out _ hb1).mono ?_
      rintro e w2 ⟨v2, rfl, own2, hb2⟩
      obtain ⟨A2, c2, rfl, s2⟩ := own2.see
      have hb3 := btrans hb1 hb2
      refine hK.out _ _ ⟨bcell hb3 q1, bcell hb3 c0, bcell hb3 c1⟩ (fun hHeldn => ?_)
      clear hK K hHeld
      have hHeld := hHeldn
      clear hHeldn
      try simp only [Act.put, List.setIfInBounds_toArray, List.set_cons_zero, List.set_cons_succ]
      refine headH_tail (by kernel_rfl) ?_
      clear hHeld
      have vb2 := vb.below hb2
      have vc := vb2.cell
      have vf := vb2.free
      have e0 : W1.drew.heap.size = W1.heap.size := rfl
      rw [e0] at vb2 vc vf
      go_wp2
      go_meet
      case rel =>
        have s3 := (own2.keep (S := fun k => k ≠ W1.heap.size) (fun k hk e => by have := (own2.lt k hk).1; rw [World.size_alloc, e0] at this; omega) (Keep.set (Keep.refl _ _) (a := ⟨W1.heap.size, 0, none⟩) (by simp) (.slice A2 order.length c2))).see'
        exact ⟨W1.heap.size, c2, A2, rfl, vb2.set _, s3, Below.setCell hb3 (Nat.le_refl _) _, Nat.le_refl _⟩
  case rest =>
    obtain ⟨b3, co, Ao, rfl, vb3, so, hb, hz3⟩ := hcut
    have hcan := clsL_can (ms := ms) (ls := ls) (order := order)
    have hrg : ∀ i, i < order.length → 0 ≤ cls order i ∧ cls order i < n := fun i hi => by
      refine reach_rng ra.list ra.f0 ra.f1 ?_
      rw [← HO.out]
      exact List.mem_of_getElem? (cls_get hi)
    have hol : order.length ≤ 5 := by rw [HO.out]; exact reach_five ra.list ra.f0 ra.f1
    have hop : 0 < order.length := by rw [HO.out]; exact reach_pos ra.list ra.f0 ra.f1
    have hQ := leastQ_spec (ls := ls) ra.list ra.f0 ra.f1
    rw [← HO.out] at hQ
    have v1 := vv1.below hb
    have hnum := numbered_c 122 #[.pointer (some ⟨w.heap.size, 0, none⟩), .pointer (some ⟨b3, 0, none⟩)] _ (enters_of Try.func122 (by kernel_rfl) rfl) order.length _ (by omega) (least1_same ra.list hrg (acc1.below hb) hl v1 vb3 so)
    have hmany := fun W A4 c4 (s4 : SeeInts W A4 (clsL ms ls order)) => many_c A4 c4 order.length (clsL ms ls order) (leastQ ms f ls) W s4 hcan hQ.1 hop (by omega)
    have HNUM := Lib.hid hnum
    have HMANY := Lib.hid hmany
    have q3 := vb3.cell
    clear hnum hmany
    go_wp2_with fail
    refine HNUM.out.mono ?_
    rintro e w4 ⟨v4, rfl, own4, hb4⟩
    obtain ⟨A4, c4, rfl, s4⟩ := own4.see
    have hcl : clsL ms ls order = numL (eqS ms ls order) order.length := rfl
    rw [← hcl] at own4 s4 ⊢
    have hcn : (clsL ms ls order).length = order.length := hcan.1
    have HM4 := Lib.hid (HMANY.out w4 A4 c4 s4)
    rw [hcn] at own4 ⊢
    clear hcl hcn
    go_wp2_with fail
    refine HM4.out.mono ?_
    rintro e w5 ⟨rfl, hb5⟩
    have hb45 := btrans hb4 hb5
    have own5 := own4.below hb5
    have s5 := s4.below hb5
    have so5 := so.below hb45
    have rb5 := Lib.hid ((rb1.below hb).below hb45)
    clear rb1
    have acc5 := (acc1.below hb).below hb45
    have x1 := bcell hb45 v1.cell
    have x3 := bcell hb45 vb3.cell
    have xa := acc5.c0
    have hzw : w.heap.size ≤ w5.heap.size := (btrans k1 (btrans hb hb45)).size
    have hbW : Below w.heap.size w w5 := btrans k1 (btrans hb hb45)
    have LST := Lib.hid (fun (m : Mp) (hm : m ∈ ms) (k : Nat) (hk : k < leastQ ms f ls) => HO.out ▸ least_step ra hm hk)
    have LLS := Lib.hid (fun (k : Nat) (hk : k < leastQ ms f ls) => HO.out ▸ least_lastS ra hk)
    have LA := Lib.hid (show r = (ms.map fun m => leastTo (clsL ms ls order) order (leastQ ms f ls) m (leastQ ms f ls), 0, leastLast (clsL ms ls order) order ls (leastQ ms f ls)) by rw [HR.out, HO.out]; rfl)
    have q5 : leastQ ms f ls ≤ 5 := hQ.2.1
    have hcl : (clsL ms ls order).length = order.length := hcan.1
    have h6 := ra.list.six
    obtain ⟨b4, o4, rfl, g4⟩ := s5.cls (by omega)
    obtain ⟨bo, oo, rfl, go⟩ := so5.cls hop
    have G4 := Lib.hid g4
    have GO := Lib.hid go
    have S5 := Lib.hid s5
    have SO5 := Lib.hid so5
    have SM5 := Lib.hid acc5.sm
    have AC5 := Lib.hid acc5
    have HBW := Lib.hid hbW
    have HCL := Lib.hid hcl
    have ZW := Lib.hid hzw
    rw [hcl] at g4
    generalize leastQ ms f ls = q at *
    generalize clsL ms ls order = cl at *
    clear HNUM HMANY HM4 HRE HR hQ hcan hrg g4 go s5 so5 acc5 own5 own4 s4 hb4 hb5 hb45 vb3 so hb vv1 v1 acc1 q1 c0 c1 q3 HO Z1 hAl acc ra hbW hcl k1 hz3 hzw
    have kk5 := kbelow w5 (.cells #[.slice none 0 0, .int .i64 0, .slice none 0 0] 30)
    have ob := OBox.new (w := w5) (.slice none 0 0) (.slice none 0 0) 0 30 rfl
    have z5 : w5.heap.size + 1 ≤ (w5.alloc (.cells #[.slice none 0 0, .int .i64 0, .slice none 0 0] 30)).heap.size := by simp
    have y1 := bcell kk5 x1
    have ya := bcell kk5 xa
    go_wp2
    go_loopw [34] (fun iv wr => ∃ (i : Nat) (v : Value), i ≤ ms.length ∧ iv = .int .i64 i ∧ OBox wr w5.heap.size v 0 (.slice none 0 0) ∧ OwnMaps wr (w5.heap.size + 1) v ((ms.take i).map fun m => leastTo cl order q m q) ∧ Below w5.heap.size w5 wr ∧ w5.heap.size + 1 ≤ wr.heap.size) (fun iv _ => ms.length - (intOf iv).toNat)
    case atStart => exact ⟨0, _, Nat.zero_le _, rfl, ob, OwnMaps.none _ _, kk5, z5⟩
    case round =>
      clear ob kk5 z5 y1 ya
      obtain ⟨i, v, hi, rfl, ob, own, hb, zr⟩ := hrel
      obtain ⟨xs, hxs⟩ : ∃ xs, xs = (ms.take i).map fun m => leastTo cl order q m q := ⟨_, rfl⟩
      rw [← hxs] at own
      obtain ⟨Aw, cw, rfl, _⟩ := own.see
      by_cases hilt : i < ms.length
      · obtain ⟨W0, rfl⟩ : ∃ W0, W0 = wr := ⟨_, rfl⟩
        obtain ⟨bA, oA, m, rfl, hm, gm⟩ := (SM5.out.below hb).at_ hilt
        have LS := Lib.hid (LST.out m (List.mem_of_getElem? hm))
        have HSN := Lib.hid (show (ms.take (i + 1)).map (fun m => leastTo cl order q m q) = xs ++ [leastTo cl order q m q] by rw [hxs, List.take_add_one, hm, List.map_append]; rfl)
        have hxl : xs.length ≤ 6 := by rw [hxs, List.length_map, List.length_take]; omega
        clear hxs
        have i0 : (0 : Int) ≤ i := by omega
        have i1 : (i : Int) < ms.length := by omega
        obtain ⟨g0, g1, g2, g3, g4, g5⟩ := gm
        have ki1 := kbelow W0 (.cells #[.int .i64 m.p, .int .i64 m.a, .int .i64 m.b, .int .i64 m.c, .int .i64 m.d, .int .i64 m.e] 67)
        have ki2 := btrans ki1 (kbelow _ (.cells #[.int .i64 (q : Int), .int .i64 0, .int .i64 0, .int .i64 0, .int .i64 0, .int .i64 0] 67))
        have bf := (MpBox.new (w := W0) m 67 rfl).keep (.cells #[.int .i64 (q : Int), .int .i64 0, .int .i64 0, .int .i64 0, .int .i64 0, .int .i64 0] 67)
        have bg : MpBox _ (W0.heap.size + 1) (leastTo cl order q m 0) := MpBox.new (w := W0.alloc (.cells #[.int .i64 m.p, .int .i64 m.a, .int .i64 m.b, .int .i64 m.c, .int .i64 m.d, .int .i64 m.e] 67)) (⟨(q : Int), 0, 0, 0, 0, 0⟩ : Mp) 67 (by simp)
        clear hm ki1
        go_wp2
        go_loopw [41] (fun kv wr2 => ∃ k : Nat, k ≤ q ∧ kv = .int .i64 k ∧ MpBox wr2 W0.heap.size m ∧ MpBox wr2 (W0.heap.size + 1) (leastTo cl order q m k) ∧ Below W0.heap.size W0 wr2) (fun kv _ => q - (intOf kv).toNat)
        case atStart => exact ⟨0, Nat.zero_le _, rfl, bf, bg, ki2⟩
        case round =>
          clear bf bg ki2 g0 g1 g2 g3 g4 g5
          obtain ⟨k, hk, rfl, bf, bg, hbk⟩ := hrel
          have zk := hbk.size
          have hbb := btrans hb hbk
          by_cases hkq : k < q
          · obtain ⟨x, y, o, t, z, ea, lx, eo, o0, o5, et, eb, ly, ez, hset⟩ := LS.out k hkq
            have HSET := Lib.hid hset
            have hol2 : order.length ≤ 5 := hol
            have ix1 := fun W (hW : Below wr.heap.size wr W) => IndexI_c (some ⟨b4, o4, none⟩) c4 cl (k : Int) W ((S5.out.below hbb).below hW) (by have := HCL.out; omega)
            have ix2 := fun W (hW : Below wr.heap.size wr W) => IndexI_c (some ⟨bo, oo, none⟩) co order t W ((SO5.out.below hbb).below hW) (by omega)
            simp only [ea, HCL.out] at ix1
            simp only [eb] at ix2
            have HX1 := Lib.hid ix1
            have HX2 := Lib.hid ix2
            have q3 := bcell hbb x3
            have qo := bcell hbb (GO.out x lx)
            have qz := bcell hbb (G4.out y (by have := HCL.out; omega))
            have qf := bf.at.to' (i := o.toNat) (by omega)
            rw [eo] at qo
            rw [ez] at qz
            rw [et] at qf
            have k0 : (0 : Int) ≤ k := by omega
            have k1 : (k : Int) < q := by omega
            have k5 : k < 5 := by omega
            have k5' : (k : Int) < 5 := by omega
            have x0 : (0 : Int) ≤ x := by omega
            have x1' : (x : Int) < order.length := by omega
            have y0 : (0 : Int) ≤ y := by omega
            have y1' : (y : Int) < order.length := by omega
            clear ix1 ix2 ea eb eo ez et hset
            go_wp2
            refine wp_region_headS 9 (fun w' => w'.cell? ⟨b3, 0, none⟩ = some (.slice (some ⟨bo, oo, none⟩) order.length co) ∧ w'.cell? ⟨bo, oo + x, none⟩ = some (.int .i64 o) ∧ w'.cell? ⟨W0.heap.size, 1 + o.toNat, none⟩ = some (.int .i64 t)) (by kernel_rfl) (by kernel_rfl) ⟨q3, qo, qf⟩ (fun hHeld => ?_)
            simp only [List.drop]
            refine headH_takeS (i := 0) (v := ?_) 44 rfl (by kernel_rfl) (by kernel_rfl) (fun _ _ _ h => h) (Or.inl ⟨by rfl, ?_⟩) hHeld ?_
            rotate_left
            · intro w hSw
              (try dsimp only at hSw)
              go_simp
              try with_reducible rfl
            try simp only [Act.put, List.setIfInBounds_toArray, List.set_cons_zero, List.set_cons_succ]
            refine headH_takeS (i := 1) (v := ?_) 45 rfl (by kernel_rfl) (by kernel_rfl) (fun _ _ _ h => h) (Or.inl ⟨by rfl, ?_⟩) hHeld ?_
            rotate_left
            · intro w hSw
              (try dsimp only at hSw)
              go_simp
              try with_reducible rfl
            try simp only [Act.put, List.setIfInBounds_toArray, List.set_cons_zero, List.set_cons_succ]
            refine headH_takeS (i := 2) (v := ?_) 46 rfl (by kernel_rfl) (by kernel_rfl) (fun _ _ _ h => h) (Or.inl ⟨by rfl, ?_⟩) hHeld ?_
            rotate_left
            · intro w hSw
              (try dsimp only at hSw)
              go_simp
              try with_reducible rfl
            try simp only [Act.put, List.setIfInBounds_toArray, List.set_cons_zero, List.set_cons_succ]
            refine headH_takeS (i := 6) (v := ?_) 50 rfl (by kernel_rfl) (by kernel_rfl) (fun _ _ _ h => h) (Or.inl ⟨by rfl, ?_⟩) hHeld ?_
            rotate_left
            · intro w hSw
              (try dsimp only at hSw)
              go_simp
              try with_reducible rfl
            try simp only [Act.put, List.setIfInBounds_toArray, List.set_cons_zero, List.set_cons_succ]
            refine headH_all (rs := [3]) (by kernel_rfl) (by kernel_rfl) (headH_cons rfl (fun K hK => ?_) headH_nil)
            go_simp
            refine (HX1.out wr.drew (Below.drew (Below.refl _ _))).mono ?_
            rintro e w6 ⟨rfl, hb6⟩
            refine hK.out _ _ ⟨bcell hb6 q3, bcell hb6 qo, bcell hb6 qf⟩ (fun hHeldn => ?_)
            clear hK K hHeld
            have hHeld := hHeldn
            clear hHeldn
            try simp only [Act.put, List.setIfInBounds_toArray, List.set_cons_zero, List.set_cons_succ]
            refine headH_takeS (i := 4) (v := ?_) 48 rfl (by kernel_rfl) (by kernel_rfl) (fun _ _ _ h => h) (Or.inl ⟨by rfl, ?_⟩) hHeld ?_
            rotate_left
            · intro w hSw
              (try dsimp only at hSw)
              go_simp
              try with_reducible rfl
            try simp only [Act.put, List.setIfInBounds_toArray, List.set_cons_zero, List.set_cons_succ]
            refine headH_takeS (i := 5) (v := ?_) 49 rfl (by kernel_rfl) (by kernel_rfl) (fun _ _ _ h => h) (Or.inl ⟨by rfl, ?_⟩) hHeld ?_
            rotate_left
            · intro w hSw
              (try dsimp only at hSw)
              go_simp
              try with_reducible rfl
            try simp only [Act.put, List.setIfInBounds_toArray, List.set_cons_zero, List.set_cons_succ]
            refine headH_takeS (i := 7) (v := ?_) 51 rfl (by kernel_rfl) (by kernel_rfl) (fun _ _ _ h => h) (Or.inl ⟨by rfl, ?_⟩) hHeld ?_
            rotate_left
            · intro w hSw
              (try dsimp only at hSw)
              go_simp
              try with_reducible rfl
            try simp only [Act.put, List.setIfInBounds_toArray, List.set_cons_zero, List.set_cons_succ]
            refine headH_takeS (i := 8) (v := ?_) 52 rfl (by kernel_rfl) (by kernel_rfl) (fun _ _ _ h => h) (Or.inl ⟨by rfl, ?_⟩) hHeld ?_
            rotate_left
            · intro w hSw
              (try dsimp only at hSw)
              go_simp
              try with_reducible rfl
            try simp only [Act.put, List.setIfInBounds_toArray, List.set_cons_zero, List.set_cons_succ]
            refine headH_tail (by kernel_rfl) ?_
            clear hHeld
            replace hb6 := bdr hb6
            have q36 := bcell hb6 q3
            go_wp2_with (go_at_call 119; refine (HX2.out w6 hb6).mono ?_; rintro e w7 ⟨rfl, hb7⟩; have hb67 := btrans hb6 hb7; have qz7 := bcell hb67 qz; have bg7 := bg.below hb67; have bf7 := bf.below hb67; have gc7 := bg7.at.to' k5; have fr7 := bg7.free)
            go_roundw
            case rel => exact ⟨k + 1, by omega, by go_num, bf7.far (by simp) _, by rw [← HSET.out]; exact bg7.set k5 _, Below.setCell (btrans hbk hb67) (by simp) _⟩
            case measure => simp [intOf]; omega
          · have ek : k = q := by omega
            rw [ek] at bg ⊢
            obtain ⟨g, hg⟩ : ∃ g, g = leastTo cl order q m q := ⟨_, rfl⟩
            rw [← hg] at bg HSN
            have ob3 := ob.below hbk
            have own3 := own.below hbk
            obtain ⟨o0, o1, o2⟩ := ob3.cells
            obtain ⟨g0, g1, g2, g3, g4, g5⟩ := bg.at.cells0
            have nlt : ¬ (k : Int) < q := by omega
            have nlt2 : ¬ (q : Int) < q := by omega
            have ZR := Lib.hid zr
            clear hg ek hkq ob own bf
            go_wp2_with (at_builtin; refine wpList_push_map _ rfl (.tmp 64) (.tmp 66) rfl (w5.heap.size + 1) _ xs rfl (own3.below (kbelow _ _)) _ g rfl (MpBox.new g 67 rfl) (by omega) (by have := ZR.out; simp; omega) ?_; intro v8 w8 hown8 hg8 hv8; obtain ⟨A8, c8, rfl, _⟩ := hown8.see; have ob8 := (ob3.below (kbelow wr (.cells #[.int .i64 g.p, .int .i64 g.a, .int .i64 g.b, .int .i64 g.c, .int .i64 g.d, .int .i64 g.e] 67))).grow hg8 (fun e => by have := (own3.lt _ e).1; omega); obtain ⟨o80, o81, o82⟩ := ob8.cells; have fr8 := ob8.free)
            have hb8 : Below w5.heap.size w5 w8 := (btrans hbb (kbelow wr (.cells #[.int .i64 g.p, .int .i64 g.a, .int .i64 g.b, .int .i64 g.c, .int .i64 g.d, .int .i64 g.e] 67))).grown hg8 (btrans hbb (kbelow wr (.cells #[.int .i64 g.p, .int .i64 g.a, .int .i64 g.b, .int .i64 g.c, .int .i64 g.d, .int .i64 g.e] 67))).size (fun q hq => by have := (own3.lt q hq).1; omega)
            have z8 : w5.heap.size + 1 ≤ w8.heap.size := Nat.le_trans ZR.out (Nat.le_trans zk (Nat.le_trans (kbelow wr (.cells #[.int .i64 g.p, .int .i64 g.a, .int .i64 g.b, .int .i64 g.c, .int .i64 g.d, .int .i64 g.e] 67)).size hg8.size))
            go_roundw
            case rel => exact ⟨i + 1, _, by omega, by go_num, ob8.set0 _, by rw [HSN.out]; have h := hown8.setBelow (a := ⟨w5.heap.size, 0, none⟩) (Nat.lt_succ_self _) (.slice A8 (xs.length + 1) c8); simp only [List.length_append, List.length_cons, List.length_nil, Nat.zero_add] at h; exact h, Below.setCell hb8 (Nat.le_refl _) _, by simpa using z8⟩
            case measure => simp [intOf]; omega
      · have ei : i = ms.length := by omega
        rw [ei, List.take_length] at hxs
        rw [ei]
        rw [← hxs] at LA
        have nlt : ¬ (ms.length : Int) < ms.length := by omega
        obtain ⟨W0, rfl⟩ : ∃ W0, W0 = wr := ⟨_, rfl⟩
        clear hxs ei hilt LST
        have HB := Lib.hid hb
        have OWN := Lib.hid own
        have ZR := Lib.hid zr
        have OB := Lib.hid ob
        clear own ob hb zr
        go_wp2
        go_loopw [71] (fun kv wr2 => ∃ (k : Nat) (v' : Value), k ≤ q ∧ kv = .int .i64 k ∧ OBox wr2 w5.heap.size (.slice Aw xs.length cw) 0 v' ∧ OwnInts wr2 W0.heap.size v' (leastLast cl order ls k) ∧ Keep (fun k => k < W0.heap.size ∧ k ≠ w5.heap.size) W0 wr2) (fun kv _ => q - (intOf kv).toNat)
        case atStart => exact ⟨0, _, Nat.zero_le _, rfl, OB.out, OwnInts.nil _ _, Keep.refl _ _⟩
        case round =>
          obtain ⟨k, v', hk, rfl, ob, own, hkp⟩ := hrel
          have zk := hkp.size
          obtain ⟨ys, hys⟩ : ∃ ys, ys = leastLast cl order ls k := ⟨_, rfl⟩
          rw [← hys] at own
          obtain ⟨Av, cv, rfl, _⟩ := own.see
          have hbb : Below w5.heap.size w5 wr := HB.out.trans (hkp.below (by have := ZR.out; omega) (fun k hk => ⟨by have := ZR.out; omega, by omega⟩))
          by_cases hkq : k < q
          · obtain ⟨x, o, ea, lx, eo, hset⟩ := LLS.out k hkq
            rw [← hys] at hset
            have hyl : ys.length ≤ 5 := by rw [hys]; have := leastLast_le cl order ls k; omega
            have HSET := Lib.hid hset
            have hol2 : order.length ≤ 5 := hol
            have ix1 := fun W (hW : Below wr.heap.size wr W) => IndexI_c (some ⟨b4, o4, none⟩) c4 cl (k : Int) W ((S5.out.below hbb).below hW) (by have := HCL.out; omega)
            simp only [ea, HCL.out] at ix1
            have HX1 := Lib.hid ix1
            have acc := AC5.out.below hbb
            have HIL := Lib.hid (fun W (hW : Below wr.heap.size wr W) => isLast_c B A' c' ls o W (acc.below hW).c2 (acc.below hW).sl hl)
            have q1 := bcell hbb x1
            have q3 := bcell hbb x3
            have qo := bcell hbb (GO.out x lx)
            rw [eo] at qo
            have k0 : (0 : Int) ≤ k := by omega
            have k1 : (k : Int) < q := by omega
            have x0 : (0 : Int) ≤ x := by omega
            have x1' : (x : Int) < order.length := by omega
            obtain ⟨bl, hbl⟩ : ∃ bl, bl = decide (o ∈ ls) := ⟨_, rfl⟩
            rw [← hbl] at HIL
            clear ix1 ea eo hset acc hys
            go_wp2
            refine wp_region_headS 7 (fun w' => w'.cell? ⟨w.heap.size, 0, none⟩ = some (.pointer (some ⟨B, 0, none⟩)) ∧ w'.cell? ⟨b3, 0, none⟩ = some (.slice (some ⟨bo, oo, none⟩) order.length co) ∧ w'.cell? ⟨bo, oo + x, none⟩ = some (.int .i64 o)) (by kernel_rfl) (by kernel_rfl) ⟨q1, q3, qo⟩ (fun hHeld => ?_)
            simp only [List.drop]
            refine headH_takeS (i := 0) (v := ?_) 74 rfl (by kernel_rfl) (by kernel_rfl) (fun _ _ _ h => h) (Or.inl ⟨by rfl, ?_⟩) hHeld ?_
            rotate_left
            · intro w hSw
              (try dsimp only at hSw)
              go_simp
              try with_reducible rfl
            try simp only [Act.put, List.setIfInBounds_toArray, List.set_cons_zero, List.set_cons_succ]
            refine headH_takeS (i := 1) (v := ?_) 75 rfl (by kernel_rfl) (by kernel_rfl) (fun _ _ _ h => h) (Or.inl ⟨by rfl, ?_⟩) hHeld ?_
            rotate_left
            · intro w hSw
              (try dsimp only at hSw)
              go_simp
              try with_reducible rfl
            try simp only [Act.put, List.setIfInBounds_toArray, List.set_cons_zero, List.set_cons_succ]
            refine headH_takeS (i := 2) (v := ?_) 76 rfl (by kernel_rfl) (by kernel_rfl) (fun _ _ _ h => h) (Or.inl ⟨by rfl, ?_⟩) hHeld ?_
            rotate_left
            · intro w hSw
              (try dsimp only at hSw)
              go_simp
              try with_reducible rfl
            try simp only [Act.put, List.setIfInBounds_toArray, List.set_cons_zero, List.set_cons_succ]
            refine headH_takeS (i := 3) (v := ?_) 77 rfl (by kernel_rfl) (by kernel_rfl) (fun _ _ _ h => h) (Or.inl ⟨by rfl, ?_⟩) hHeld ?_
            rotate_left
            · intro w hSw
              (try dsimp only at hSw)
              go_simp
              try with_reducible rfl
            try simp only [Act.put, List.setIfInBounds_toArray, List.set_cons_zero, List.set_cons_succ]
            refine headH_all (rs := [4]) (by kernel_rfl) (by kernel_rfl) (headH_cons rfl (fun K hK => ?_) headH_nil)
            go_simp
            refine (HX1.out wr.drew (Below.drew (Below.refl _ _))).mono ?_
            rintro e w6 ⟨rfl, hb6⟩
            refine hK.out _ _ ⟨bcell hb6 q1, bcell hb6 q3, bcell hb6 qo⟩ (fun hHeldn => ?_)
            clear hK K hHeld
            have hHeld := hHeldn
            clear hHeldn
            try simp only [Act.put, List.setIfInBounds_toArray, List.set_cons_zero, List.set_cons_succ]
            refine headH_takeS (i := 5) (v := ?_) 79 rfl (by kernel_rfl) (by kernel_rfl) (fun _ _ _ h => h) (Or.inl ⟨by rfl, ?_⟩) hHeld ?_
            rotate_left
            · intro w hSw
              (try dsimp only at hSw)
              go_simp
              try with_reducible rfl
            try simp only [Act.put, List.setIfInBounds_toArray, List.set_cons_zero, List.set_cons_succ]
            refine headH_takeS (i := 6) (v := ?_) 80 rfl (by kernel_rfl) (by kernel_rfl) (fun _ _ _ h => h) (Or.inl ⟨by rfl, ?_⟩) hHeld ?_
            rotate_left
            · intro w hSw
              (try dsimp only at hSw)
              go_simp
              try with_reducible rfl
            try simp only [Act.put, List.setIfInBounds_toArray, List.set_cons_zero, List.set_cons_succ]
            refine headH_tail (by kernel_rfl) ?_
            clear hHeld
            replace hb6 := bdr hb6
            have HIL6 := Lib.hid (HIL.out w6 hb6)
            cases bl
            · have HS2 := Lib.hid (show leastLast cl order ls (k + 1) = ys by rw [HSET.out, if_neg (of_decide_eq_false hbl.symm), List.append_nil])
              clear hbl
              go_wp2_with (go_at_call 67; refine HIL6.out.mono ?_; rintro e w7 ⟨rfl, hb7⟩)
              have hb67 := btrans hb6 hb7
              go_roundw
              case rel => exact ⟨k + 1, _, by omega, by go_num, ob.below hb67, by rw [HS2.out]; exact own.below hb67, hkp.trans (kb hb67)⟩
              case measure => simp [intOf]; omega
            · have HS2 := Lib.hid (show leastLast cl order ls (k + 1) = ys ++ [(k : Int)] by rw [HSET.out, if_pos (of_decide_eq_true hbl.symm)])
              clear hbl
              go_wp2_with (first | (go_at_call 67; refine HIL6.out.mono ?_; rintro e w7 ⟨rfl, hb7⟩; have hb67 := btrans hb6 hb7; have ob7 := ob.below hb67; have own7 := own.below hb67; obtain ⟨o70, o71, o72⟩ := ob7.cells) | (at_builtin; refine wpList_push_int _ rfl (.tmp 83) (.tmp 85) rfl W0.heap.size _ ys rfl (own7.below (kbelow _ _)) ⟨w7.heap.size, 0, none⟩ (k : Int) rfl (by simp [go_sem]) (by omega) (by have := hb67.size; simp; omega) ?_; intro v8 w8 hown8 hg8 hv8; obtain ⟨A8, c8, rfl, _⟩ := hown8.see; have ob8 := (ob7.below (kbelow w7 (.cells #[.int .i64 (k : Int)] 2))).grow hg8 (fun e => by have := (own7.lt _ e).1; have := ZR.out; omega); obtain ⟨o80, o81, o82⟩ := ob8.cells; have fr8 := ob8.free))
              have hk8 : Keep (fun k => k < W0.heap.size ∧ k ≠ w5.heap.size) W0 w8 := (hkp.trans (kb (btrans hb67 (kbelow w7 (.cells #[.int .i64 (k : Int)] 2))))).trans (keep_grown hg8 fun q hq hs => by have := (own7.lt q hq).1; omega)
              go_roundw
              case rel => exact ⟨k + 1, _, by omega, by go_num, ob8.set2 _, by rw [HS2.out]; have h := hown8.setBelow (a := ⟨w5.heap.size, 2, none⟩) (by have := ZR.out; show w5.heap.size < W0.heap.size; omega) (.slice A8 (ys.length + 1) c8); simp only [List.length_append, List.length_cons, List.length_nil, Nat.zero_add] at h; exact h, Keep.set hk8 (by simp) _⟩
              case measure => simp [intOf]; omega
          · have ek : k = q := by omega
            subst ek
            have HYS := Lib.hid hys
            clear hys
            have nlt2 : ¬ (k : Int) < k := by omega
            obtain ⟨o0, o1, o2⟩ := ob.cells
            have rb := rb5.out.below hbb
            obtain ⟨r0, r1, r2⟩ := rb.cells
            have rf := rb.free
            have hZ := ZR.out
            have hown := OWN.out.keep (fun k hk => by have := OWN.out.lt k hk; exact ⟨this.2, by omega⟩) hkp
            have hbz : Below w.heap.size w wr := HBW.out.trans (hbb.mono ZW.out)
            have hz1 := rb5.out.lt
            clear hkq
            go_wp2
            refine bodyPost_ret (v := .agg #[.slice Aw xs.length cw, .int .i64 0, .slice Av ys.length cv]) (by simp [results, Try.results92, go_sem, r0, r1, r2, o0, o1, o2, hz1]) rfl ?_
            rw [LA.out]
            refine ⟨_, _, rfl, ?_, ?_, ?_⟩
            · refine OwnMaps.mono ?_ (show w.heap.size ≤ w5.heap.size + 1 by have := ZW.out; omega)
              iterate 3 refine OwnMaps.setBelow ?_ (by simp; omega) _
              exact hown
            · refine OwnInts.mono ?_ (show w.heap.size ≤ W0.heap.size by have := ZW.out; omega)
              iterate 3 refine OwnInts.setBelow ?_ (by simp; omega) _
              rw [← HYS.out]
              exact own
            · iterate 3 refine Below.setCell ?_ (by simp) _
              exact hbz
end Go.Proofs.Ytbodaefdaagelaa
