/- Draws of lists of maps: 'l01Bad', 'l01DrawList', 'l01BadList'. No condition. -/
import Derived.Test.YtilfamenadaboaaGreatDrawM
import Derived.Lib.MinMax
namespace Go.Proofs.YtilfamenadaboaaGreat
set_option linter.unusedSimpArgs false
set_option linter.unusedVariables false
set_option linter.unusedSectionVars false
open Go.RowKit
/-- a literal row of numbers -/
theorem lit_see (w : World) (xs : List Int) : SeeInts (w.alloc (.cells (xs.map (Value.int .i64)).toArray 2)) (some ⟨w.heap.size, 0, none⟩) xs := fun _ => ⟨w.heap.size, 0, rfl, fun k x hk => by
  rw [cell_of_row _ w.heap.size (0 + k) _ 2 (0, 0) (heap_alloc_new w _)]
  simp [hk]⟩
theorem pick_lit {w : World} {b c : Nat} {A : Option Addr} {code : List Int} (xs : List Int) (h : SrcAt w b A c code) (h0 : 0 < xs.length) (h9 : xs.length ≤ 100) :
    Calls Tryz.prog 90 #[.pointer (some ⟨b, 0, none⟩), .slice (some ⟨w.heap.size, 0, none⟩) xs.length xs.length] (w.alloc (.cells (xs.map (Value.int .i64)).toArray 2)) fun e w' => ∃ x : Int, e = .returned (.int .i64 x) ∧ x ∈ xs ∧ Drawn w w' b A c code := by
  have kk := kbelow w (.cells (xs.map (Value.int .i64)).toArray 2)
  have hz := h.lt
  refine (l01Pick_c xs _ (h.below kk) (lit_see w xs) (fun a ha => by have := Option.some.inj ha; subst this; show w.heap.size ≠ b; omega) h0 h9).mono ?_
  rintro e w' ⟨x, rfl, hx, hd2⟩
  exact ⟨x, rfl, hx, ((Drawn.refl h).below kk).trans hd2⟩
set_option maxHeartbeats 8000000 in
set_option maxRecDepth 100000 in
theorem l01Bad_c {b c : Nat} {A : Option Addr} {code : List Int} (f : Mp) (w : World) (h : SrcAt w b A c code) :
    Calls Tryz.prog 98 #[.pointer (some ⟨b, 0, none⟩), .agg #[.int .i64 f.p, .int .i64 f.a, .int .i64 f.b, .int .i64 f.c, .int .i64 f.d, .int .i64 f.e]] w (MvPost (fun _ => True) w b A c code) := by
  unfold MvPost
  have hlt := h.lt
  obtain ⟨W1, hW1⟩ : ∃ W1, W1 = (w.alloc (.cells #[.int .i64 f.p, .int .i64 f.a, .int .i64 f.b, .int .i64 f.c, .int .i64 f.d, .int .i64 f.e] 27)).alloc (.cells #[.int .i64 0, .int .i64 0, .int .i64 0, .int .i64 0, .int .i64 0, .int .i64 0] 27) := ⟨_, rfl⟩
  have k1 : Below w.heap.size w W1 := by rw [hW1]; go_grown
  have bm : MpBox W1 w.heap.size f := by rw [hW1]; exact (MpBox.new f 27 rfl).keep _
  have bz : MpBox W1 (w.heap.size + 1) Mp.z := by rw [hW1]; exact MpBox.new Mp.z 27 (by rw [World.size_alloc])
  have d1 : Drawn w W1 b A c code := (Drawn.refl h).below k1
  have hnx := l01Next_c 40 W1 d1.src (by omega)
  have HNX := Lib.hid hnx
  clear hnx
  go_enter Tryz.func98, Tryz.ntmps98
  go_wp2_with fail
  rw [← hW1]
  clear hW1
  refine HNX.out.mono ?_
  rintro e w2 ⟨x, rfl, _, _, hd2⟩
  have hd := d1.trans hd2
  have bz2 := bz.drawn (by omega) hd2
  have bm2 := bm.drawn (by omega) hd2
  clear hd2 bz bm d1 HNX k1
  by_cases e0 : x = 0
  · subst e0
    obtain ⟨b0, b1, b2, b3, b4, b5⟩ := bm2.at.cells0
    have HPK := Lib.hid (pick_lit [0, 6, -1, wrap64 (f.p + 1)] hd.src (by simp) (by simp))
    go_wp2_with fail
    refine HPK.out.mono ?_
    rintro e w3 ⟨y, rfl, _, hd3⟩
    have bm3 := bm2.drawn (by omega) hd3
    have bz3 := bz2.drawn (by omega) hd3
    have hd' := hd.trans hd3
    have q0 := bm3.at.h0
    have fr := bm3.free
    obtain ⟨r, hr⟩ : ∃ r : Mp, r = { f with p := y } := ⟨_, rfl⟩
    have bmS : MpBox (w3.setCell ⟨w.heap.size, 0, none⟩ (.int .i64 y)) w.heap.size r := by
      obtain ⟨t, ht⟩ := bm3
      rw [hr]
      exact ⟨t, heap_setCell_same w3 w.heap.size 0 _ t _ ht⟩
    have bzS := bz3.far (a := ⟨w.heap.size, 0, none⟩) (by simp) (.int .i64 y)
    have hdS := hd'.set hlt (a := ⟨w.heap.size, 0, none⟩) (Nat.le_refl _) (.int .i64 y)
    clear hr b0 b1 b2 b3 b4 b5
    obtain ⟨m0, m1, m2, m3, m4, m5⟩ := bmS.at.cells0
    obtain ⟨z0, z1, z2, z3, z4, z5⟩ := bzS.at.cells0
    have frz := bzS.free
    have zlt := bzS.lt
    go_wp2
    refine bodyPost_ret (v := .agg #[.int .i64 r.p, .int .i64 r.a, .int .i64 r.b, .int .i64 r.c, .int .i64 r.d, .int .i64 r.e]) (by simp [results, Tryz.results98, go_sem, z0, z1, z2, z3, z4, z5]) rfl ⟨r, rfl, trivial, ?_⟩
    exact hdS.set6 hlt (Nat.le_succ _) _ _ _ _ _ _
  · have d0 : (x == 0) = false := beq_eq_false_iff_ne.2 e0
    by_cases e1 : x = 1
    · subst e1
      have q0 := bm2.at.h0
      have hn5 := fun W (hs : SrcAt W b A c code) => l01Next_c 5 W hs (by omega)
      have HN5 := Lib.hid hn5
      clear hn5
      go_wp2
      refine wp_region_headS 8 (fun w' => w'.cell? ⟨w.heap.size, 0, none⟩ = some (.int .i64 f.p)) (by kernel_rfl) (by kernel_rfl) q0 (fun hHeld => ?_)
      simp only [List.drop]
      refine headH_takeS (i := 0) (v := ?_) 18 rfl (by kernel_rfl) (by kernel_rfl) (fun _ _ _ h => h) (Or.inl ⟨by rfl, ?_⟩) hHeld ?_
      rotate_left
      · intro w hSw
        (try dsimp only at hSw)
        go_simp
        try with_reducible rfl
      try simp only [Act.put, List.setIfInBounds_toArray, List.set_cons_zero, List.set_cons_succ]
      refine headH_takeS (i := 2) (v := ?_) 20 rfl (by kernel_rfl) (by kernel_rfl) (fun _ _ _ h => h) (Or.inl ⟨by rfl, ?_⟩) hHeld ?_
      rotate_left
      · intro w hSw
        (try dsimp only at hSw)
        go_simp
        try with_reducible rfl
      try simp only [Act.put, List.setIfInBounds_toArray, List.set_cons_zero, List.set_cons_succ]
      refine headH_takeS (i := 3) (v := ?_) 21 rfl (by kernel_rfl) (by kernel_rfl) (fun _ _ _ h => h) (Or.inl ⟨by rfl, ?_⟩) hHeld ?_
      rotate_left
      · intro w hSw
        (try dsimp only at hSw)
        go_simp
        try with_reducible rfl
      try simp only [Act.put, List.setIfInBounds_toArray, List.set_cons_zero, List.set_cons_succ]
      refine headH_takeS (i := 4) (v := ?_) 22 rfl (by kernel_rfl) (by kernel_rfl) (fun _ _ _ h => h) (Or.inl ⟨by rfl, ?_⟩) hHeld ?_
      rotate_left
      · intro w hSw
        (try dsimp only at hSw)
        go_simp
        try with_reducible rfl
      try simp only [Act.put, List.setIfInBounds_toArray, List.set_cons_zero, List.set_cons_succ]
      refine headH_takeS (i := 7) (v := ?_) 25 rfl (by kernel_rfl) (by kernel_rfl) (fun _ _ _ h => h) (Or.inl ⟨by rfl, ?_⟩) hHeld ?_
      rotate_left
      · intro w hSw
        (try dsimp only at hSw)
        go_simp
        try with_reducible rfl
      try simp only [Act.put, List.setIfInBounds_toArray, List.set_cons_zero, List.set_cons_succ]
      have hs0 := 0
      have hd0 : Drawn w w2.drew b A c code := hd.below (Below.drew (Below.refl _ w2))
      have bm0 : MpBox w2.drew w.heap.size f := bm2.drew
      have bz0 : MpBox w2.drew (w.heap.size + 1) Mp.z := bz2.drew
      have k5 : Below w2.heap.size w2 (w2.alloc (.cells #[.int .i64 (-1), .int .i64 f.p, .int .i64 1099511627776] 2)).drew := by go_grown
      have HPI := Lib.hid (fun (W : World) (hs : SrcAt W b A c code) (q : Nat) (hse : SeeInts W (some ⟨q, 0, none⟩) [-1, f.p, 1099511627776]) (hq : q ≠ b) => l01Pick_c (L := some ⟨q, 0, none⟩) (cL := 3) [-1, f.p, 1099511627776] W hs hse (fun a ha => by have := Option.some.inj ha; subst this; exact hq) (by simp) (by simp))
      have hz2 : b < w2.heap.size := hd.src.lt
      clear hs0 q0
      refine headH_all (rs := [1, 5]) (by kernel_rfl) (by kernel_rfl) (headH_cons rfl (fun K hK => ?_) (headH_cons rfl (fun K hK => ?_) headH_nil))
      · go_simp
        refine (HN5.out _ hd0.src).mono ?_
        rintro e w3 ⟨y, rfl, hy, _, hd3⟩
        obtain ⟨y0, y5⟩ := hy (by omega)
        obtain ⟨i, rfl⟩ := Int.eq_ofNat_of_zero_le y0
        have hi5 : i < 5 := by omega
        have bm3 := bm0.drawn (by omega) hd3
        have bz3 := bz0.drawn (by omega) hd3
        have hd3' := hd0.trans hd3
        refine hK.out _ _ bm3.at.h0 (fun hHeldn => ?_)
        clear hK K hHeld
        have hHeld := hHeldn
        clear hHeldn
        try simp only [Act.put, List.setIfInBounds_toArray, List.set_cons_zero, List.set_cons_succ]
        refine headH_all (rs := [5]) (by kernel_rfl) (by kernel_rfl) (headH_cons rfl (fun K hK => ?_) headH_nil)
        go_simp
        have k5 : Below w3.heap.size w3 (w3.alloc (.cells #[.int .i64 (-1), .int .i64 f.p, .int .i64 1099511627776] 2)) := kbelow _ _
        have hse := lit_see w3 [-1, f.p, 1099511627776]
        have hz3 := hd3.src.lt
        obtain ⟨W5, hW5⟩ : ∃ W5, W5 = w3.alloc (.cells ([-1, f.p, 1099511627776].map (Value.int .i64)).toArray 2) := ⟨_, rfl⟩
        have hW6 : W5 = (w3.alloc (.cells #[.int .i64 (-1), .int .i64 f.p, .int .i64 1099511627776] 2)) := hW5
        rw [← hW5] at hse
        rw [← hW6] at k5 ⊢
        clear hW5 hW6
        have bm5 := bm3.below k5
        have bz5 := bz3.below k5
        have hd5 := hd3'.below k5
        refine hK.out _ _ bm5.at.h0 (fun hHeldn => ?_)
        clear hK K hHeld
        have hHeld := hHeldn
        clear hHeldn
        try simp only [Act.put, List.setIfInBounds_toArray, List.set_cons_zero, List.set_cons_succ]
        refine headH_all (rs := [6]) (by kernel_rfl) (by kernel_rfl) (headH_cons rfl (fun K hK => ?_) headH_nil)
        go_simp
        refine (HPI.out W5 hd5.src _ hse (by omega)).mono ?_
        rintro e w6 ⟨x, rfl, _, hd6⟩
        have bm6 := bm5.drawn (by omega) hd6
        have bz6 := bz5.drawn (by omega) hd6
        have hd7 := hd5.trans hd6
        refine hK.out _ _ bm6.at.h0 (fun hHeldn => ?_)
        clear hK K hHeld
        have hHeld := hHeldn
        clear hHeldn
        try simp only [Act.put, List.setIfInBounds_toArray, List.set_cons_zero, List.set_cons_succ]
        refine headH_tail (by kernel_rfl) ?_
        obtain ⟨r, hr⟩ : ∃ r, r = f.set i x := ⟨_, rfl⟩
        have bmS := bm6.set hi5 x
        rw [← hr] at bmS
        have bzS := bz6.far (a := ⟨w.heap.size, 1 + i, none⟩) (by simp) (.int .i64 x)
        have hdS := hd7.set hlt (a := ⟨w.heap.size, 1 + i, none⟩) (Nat.le_refl _) (.int .i64 x)
        have fr := bm6.free
        have qi := bm6.at.to' hi5
        have i0 : (0 : Int) ≤ i := by omega
        have i5 : (i : Int) < 5 := by omega
        clear hr hHeld
        obtain ⟨m0, m1, m2, m3, m4, m5⟩ := bmS.at.cells0
        obtain ⟨z0, z1, z2, z3, z4, z5⟩ := bzS.at.cells0
        have frz := bzS.free
        have zlt := bzS.lt
        go_wp2
        refine bodyPost_ret (v := .agg #[.int .i64 r.p, .int .i64 r.a, .int .i64 r.b, .int .i64 r.c, .int .i64 r.d, .int .i64 r.e]) (by simp [results, Tryz.results98, go_sem, z0, z1, z2, z3, z4, z5]) rfl ⟨r, rfl, trivial, ?_⟩
        exact hdS.set6 hlt (Nat.le_succ _) _ _ _ _ _ _
      · go_simp
        have hse := lit_see w2 [-1, f.p, 1099511627776]
        obtain ⟨W5, hW5⟩ : ∃ W5, W5 = (w2.alloc (.cells ([-1, f.p, 1099511627776].map (Value.int .i64)).toArray 2)).drew := ⟨_, rfl⟩
        have hW6 : W5 = (w2.alloc (.cells #[.int .i64 (-1), .int .i64 f.p, .int .i64 1099511627776] 2)).drew := hW5
        have hse' : SeeInts W5 (some ⟨w2.heap.size, 0, none⟩) [-1, f.p, 1099511627776] := by rw [hW5]; exact hse.below (Below.drew (Below.refl _ _))
        rw [← hW6] at k5 ⊢
        clear hW5 hW6 hse
        have bm5 := bm2.below k5
        have bz5 := bz2.below k5
        have hd5 := hd.below k5
        refine hK.out _ _ bm5.at.h0 (fun hHeldn => ?_)
        clear hK K hHeld
        have hHeld := hHeldn
        clear hHeldn
        try simp only [Act.put, List.setIfInBounds_toArray, List.set_cons_zero, List.set_cons_succ]
        refine headH_all (rs := [1]) (by kernel_rfl) (by kernel_rfl) (headH_cons rfl (fun K hK => ?_) headH_nil)
        go_simp
        refine (HN5.out W5 hd5.src).mono ?_
        rintro e w3 ⟨y, rfl, hy, _, hd3⟩
        obtain ⟨y0, y5⟩ := hy (by omega)
        obtain ⟨i, rfl⟩ := Int.eq_ofNat_of_zero_le y0
        have hi5 : i < 5 := by omega
        have bm3 := bm5.drawn (by omega) hd3
        have bz3 := bz5.drawn (by omega) hd3
        have hd3' := hd5.trans hd3
        have hse3 := hse'.keep (S := fun k => k ≠ b) (fun a ha => by have := Option.some.inj ha; subst this; show w2.heap.size ≠ b; omega) hd3.keep
        refine hK.out _ _ bm3.at.h0 (fun hHeldn => ?_)
        clear hK K hHeld
        have hHeld := hHeldn
        clear hHeldn
        try simp only [Act.put, List.setIfInBounds_toArray, List.set_cons_zero, List.set_cons_succ]
        refine headH_all (rs := [6]) (by kernel_rfl) (by kernel_rfl) (headH_cons rfl (fun K hK => ?_) headH_nil)
        go_simp
        refine (HPI.out w3 hd3'.src _ hse3 (by omega)).mono ?_
        rintro e w6 ⟨x, rfl, _, hd6⟩
        have bm6 := bm3.drawn (by omega) hd6
        have bz6 := bz3.drawn (by omega) hd6
        have hd7 := hd3'.trans hd6
        refine hK.out _ _ bm6.at.h0 (fun hHeldn => ?_)
        clear hK K hHeld
        have hHeld := hHeldn
        clear hHeldn
        try simp only [Act.put, List.setIfInBounds_toArray, List.set_cons_zero, List.set_cons_succ]
        refine headH_tail (by kernel_rfl) ?_
        obtain ⟨r, hr⟩ : ∃ r, r = f.set i x := ⟨_, rfl⟩
        have bmS := bm6.set hi5 x
        rw [← hr] at bmS
        have bzS := bz6.far (a := ⟨w.heap.size, 1 + i, none⟩) (by simp) (.int .i64 x)
        have hdS := hd7.set hlt (a := ⟨w.heap.size, 1 + i, none⟩) (Nat.le_refl _) (.int .i64 x)
        have fr := bm6.free
        have qi := bm6.at.to' hi5
        have i0 : (0 : Int) ≤ i := by omega
        have i5 : (i : Int) < 5 := by omega
        clear hr hHeld
        obtain ⟨m0, m1, m2, m3, m4, m5⟩ := bmS.at.cells0
        obtain ⟨z0, z1, z2, z3, z4, z5⟩ := bzS.at.cells0
        have frz := bzS.free
        have zlt := bzS.lt
        go_wp2
        refine bodyPost_ret (v := .agg #[.int .i64 r.p, .int .i64 r.a, .int .i64 r.b, .int .i64 r.c, .int .i64 r.d, .int .i64 r.e]) (by simp [results, Tryz.results98, go_sem, z0, z1, z2, z3, z4, z5]) rfl ⟨r, rfl, trivial, ?_⟩
        exact hdS.set6 hlt (Nat.le_succ _) _ _ _ _ _ _
    · have d1 : (x == 1) = false := beq_eq_false_iff_ne.2 e1
      obtain ⟨r, hr⟩ : ∃ r : Mp, r = f := ⟨_, rfl⟩
      rw [← hr] at bm2
      clear hr
      obtain ⟨m0, m1, m2, m3, m4, m5⟩ := bm2.at.cells0
      obtain ⟨z0, z1, z2, z3, z4, z5⟩ := bz2.at.cells0
      have frz := bz2.free
      have zlt := bz2.lt
      go_wp2
      refine bodyPost_ret (v := .agg #[.int .i64 r.p, .int .i64 r.a, .int .i64 r.b, .int .i64 r.c, .int .i64 r.d, .int .i64 r.e]) (by simp [results, Tryz.results98, go_sem, z0, z1, z2, z3, z4, z5]) rfl ⟨r, rfl, trivial, ?_⟩
      exact hd.set6 hlt (Nat.le_succ _) _ _ _ _ _ _
/-! Draws of maps: 'l01Draw', 'l01Spoil'. -/
set_option maxHeartbeats 4000000 in
set_option maxRecDepth 100000 in
theorem l01Draw_c {b c : Nat} {A : Option Addr} {code : List Int} (w : World) (h : SrcAt w b A c code) :
    Calls Tryz.prog 99 #[.pointer (some ⟨b, 0, none⟩)] w (MvPost (fun m => ∃ n : Nat, 1 ≤ n ∧ n ≤ 5 ∧ MpN m n) w b A c code) := by
  unfold MvPost
  have hlt := h.lt
  obtain ⟨W1, hW1⟩ : ∃ W1, W1 = w.alloc (.cells #[.int .i64 0, .int .i64 0, .int .i64 0, .int .i64 0, .int .i64 0, .int .i64 0] 27) := ⟨_, rfl⟩
  have k1 : Below w.heap.size w W1 := by rw [hW1]; go_grown
  have bz : MpBox W1 w.heap.size Mp.z := by rw [hW1]; exact MpBox.new Mp.z 27 rfl
  have d1 : Drawn w W1 b A c code := (Drawn.refl h).below k1
  have hz1 : W1.heap.size = w.heap.size + 1 := by rw [hW1, World.size_alloc]
  have HPI := Lib.hid (show ∀ (W : World) (hs : SrcAt W b A c code) (q : Nat) (hse : SeeInts W (some ⟨q, 0, none⟩) [1, 2, 3, 3, 4, 4, 5, 5]) (hq : q ≠ b), Calls Tryz.prog 90 #[.pointer (some ⟨b, 0, none⟩), .slice (some ⟨q, 0, none⟩) 8 8] W fun e w' => ∃ x : Int, e = .returned (.int .i64 x) ∧ x ∈ [1, 2, 3, 3, 4, 4, 5, 5] ∧ Drawn W w' b A c code from fun W hs q hse hq => l01Pick_c (L := some ⟨q, 0, none⟩) (cL := 8) [1, 2, 3, 3, 4, 4, 5, 5] W hs hse (fun a ha => by have := Option.some.inj ha; subst this; exact hq) (by simp) (by simp))
  have hse := lit_see W1 [1, 2, 3, 3, 4, 4, 5, 5]
  obtain ⟨W5, hW5⟩ : ∃ W5, W5 = W1.alloc (.cells ([1, 2, 3, 3, 4, 4, 5, 5].map (Value.int .i64)).toArray 2) := ⟨_, rfl⟩
  have hW6 : W5 = W1.alloc (.cells #[.int .i64 1, .int .i64 2, .int .i64 3, .int .i64 3, .int .i64 4, .int .i64 4, .int .i64 5, .int .i64 5] 2) := hW5
  rw [← hW5] at hse
  have k5 : Below W1.heap.size W1 W5 := by rw [hW6]; exact kbelow _ _
  have bz5 := bz.below k5
  have d5 := d1.below k5
  rw [hz1] at hse
  have HSE := Lib.hid hse
  clear hse hW5 bz d1 k5 k1
  go_enter Tryz.func99, Tryz.ntmps99
  go_wp2_with fail
  rw [← hW1, ← hW6]
  clear hW1 hW6
  refine (HPI.out W5 d5.src _ HSE.out (by omega)).mono ?_
  rintro e w2 ⟨x, rfl, hx, hd2⟩
  have hd := d5.trans hd2
  have bz2 := bz5.drawn (by omega) hd2
  obtain ⟨n, rfl, n1, n5⟩ : ∃ n : Nat, x = (n : Int) ∧ 1 ≤ n ∧ n ≤ 5 := by
    simp at hx
    refine ⟨x.toNat, ?_, ?_, ?_⟩ <;> omega
  have HD := Lib.hid (l01DrawOf_c n w2 hd.src n1 n5)
  unfold MvPost at HD
  clear hx hd2 HPI HSE bz5 d5
  go_wp2_with fail
  refine HD.out.mono ?_
  rintro e w3 ⟨r, rfl, hr, hd3⟩
  have bz3 := bz2.drawn (by omega) hd3
  have hd' := hd.trans hd3
  obtain ⟨z0, z1, z2, z3, z4, z5⟩ := bz3.at.cells0
  have frz := bz3.free
  have zlt := bz3.lt
  have HR := Lib.hid hr
  clear hr
  go_wp2
  refine bodyPost_ret (v := .agg #[.int .i64 r.p, .int .i64 r.a, .int .i64 r.b, .int .i64 r.c, .int .i64 r.d, .int .i64 r.e]) (by simp [results, Tryz.results99, go_sem, z0, z1, z2, z3, z4, z5]) rfl ⟨r, rfl, ⟨n, n1, n5, HR.out⟩, ?_⟩
  exact hd'.set6 hlt (Nat.le_refl _) _ _ _ _ _ _
set_option maxHeartbeats 4000000 in
set_option maxRecDepth 100000 in
theorem l01Spoil_c {b c : Nat} {A : Option Addr} {code : List Int} (w : World) (h : SrcAt w b A c code) :
    Calls Tryz.prog 73 #[.pointer (some ⟨b, 0, none⟩)] w (MvPost (fun _ => True) w b A c code) := by
  unfold MvPost
  have hlt := h.lt
  obtain ⟨W1, hW1⟩ : ∃ W1, W1 = w.alloc (.cells #[.int .i64 0, .int .i64 0, .int .i64 0, .int .i64 0, .int .i64 0, .int .i64 0] 27) := ⟨_, rfl⟩
  have k1 : Below w.heap.size w W1 := by rw [hW1]; go_grown
  have bz : MpBox W1 w.heap.size Mp.z := by rw [hW1]; exact MpBox.new Mp.z 27 rfl
  have d1 : Drawn w W1 b A c code := (Drawn.refl h).below k1
  have HDR := Lib.hid (l01Draw_c W1 d1.src)
  unfold MvPost at HDR
  go_enter Tryz.func73, Tryz.ntmps73
  go_wp2_with fail
  rw [← hW1]
  clear hW1
  refine HDR.out.mono ?_
  rintro e w2 ⟨m, rfl, _, hd2⟩
  have hd := d1.trans hd2
  have bz2 := bz.drawn (by omega) hd2
  have HD := Lib.hid (l01Bad_c m w2 hd.src)
  unfold MvPost at HD
  clear hd2 HDR bz d1 k1
  go_wp2_with fail
  refine HD.out.mono ?_
  rintro e w3 ⟨r, rfl, _, hd3⟩
  have bz3 := bz2.drawn (by omega) hd3
  have hd' := hd.trans hd3
  obtain ⟨z0, z1, z2, z3, z4, z5⟩ := bz3.at.cells0
  have frz := bz3.free
  have zlt := bz3.lt
  go_wp2
  refine bodyPost_ret (v := .agg #[.int .i64 r.p, .int .i64 r.a, .int .i64 r.b, .int .i64 r.c, .int .i64 r.d, .int .i64 r.e]) (by simp [results, Tryz.results73, go_sem, z0, z1, z2, z3, z4, z5]) rfl ⟨r, rfl, trivial, ?_⟩
  exact hd'.set6 hlt (Nat.le_refl _) _ _ _ _ _ _
/-! Draws of lists of maps: 'l01DrawList'. -/
theorem Drawn.grown {w W W' : World} {b c : Nat} {A : Option Addr} {code : List Int} (h : Drawn w W b A c code) (hb : b < w.heap.size) {row : Option Nat} (hg : W.grownBy W' row) (hr : ∀ k, row = some k → w.heap.size ≤ k) : Drawn w W' b A c code := by
  have hk : Keep (fun k => k < w.heap.size) W W' := keep_grown hg fun k hk hs => by have := hr k hk; omega
  refine ⟨h.src.keep (fun k hk => by omega) hk, ⟨hk.os.trans h.keep.os, hk.tape.trans h.keep.tape, hk.output.trans h.keep.output, Nat.le_trans h.keep.size hk.size, fun k hkw hkb => ?_⟩⟩
  exact (hk.block k (Nat.lt_of_lt_of_le hkw h.keep.size) hkw).trans (h.keep.block k hkw hkb)
theorem Drawn.farBox {w W W' : World} {b c : Nat} {A : Option Addr} {code : List Int} {q : Nat} (h : Drawn w W b A c code) (hb : b < w.heap.size) (hq : w.heap.size ≤ q) (hk : Keep (fun k => k ≠ q) W W') : Drawn w W' b A c code := by
  refine ⟨h.src.keep (fun k hk => by omega) hk, ⟨hk.os.trans h.keep.os, hk.tape.trans h.keep.tape, hk.output.trans h.keep.output, Nat.le_trans h.keep.size hk.size, fun k hkw hkb => ?_⟩⟩
  exact (hk.block k (Nat.lt_of_lt_of_le hkw h.keep.size) (by omega)).trans (h.keep.block k hkw hkb)
/-- what a draw of a list of maps hands back: a row of the call's own -/
def MlPost (R : List Mp → Prop) (w : World) (b : Nat) (A : Option Addr) (c : Nat) (code : List Int) (e : Ending) (w' : World) : Prop :=
  ∃ (v : Value) (ms : List Mp), e = .returned v ∧ OwnMaps w' w.heap.size v ms ∧ R ms ∧ Drawn w w' b A c code
theorem pick_any {b c : Nat} {A : Option Addr} {code : List Int} (xs : List Int) (n : Nat) (hn : xs.length = n) (h0 : 0 < n) (h9 : n ≤ 100) {W1 : World} (hs : SrcAt W1 b A c code) (q : Nat) (hq : q = W1.heap.size) (W : World) (hW : W = W1.alloc (.cells (xs.map (Value.int .i64)).toArray 2)) :
    Calls Tryz.prog 90 #[.pointer (some ⟨b, 0, none⟩), .slice (some ⟨q, 0, none⟩) n n] W fun e w' => ∃ x : Int, e = .returned (.int .i64 x) ∧ x ∈ xs ∧ Drawn W1 w' b A c code := by
  subst hq hn hW
  have hlt := hs.lt
  refine (l01Pick_c (L := some ⟨W1.heap.size, 0, none⟩) (cL := xs.length) xs _ (hs.below (kbelow _ _)) (lit_see W1 xs) (fun a ha => by have := Option.some.inj ha; subst this; show W1.heap.size ≠ b; omega) h0 h9).mono ?_
  rintro e w' ⟨x, rfl, hx, hd⟩
  exact ⟨x, rfl, hx, ((Drawn.refl hs).below (kbelow _ _)).trans hd⟩
set_option maxHeartbeats 8000000 in
set_option maxRecDepth 100000 in
theorem l01DrawList_c {b c : Nat} {A : Option Addr} {code : List Int} (n : Nat) (w : World) (h : SrcAt w b A c code) (h1 : 1 ≤ n) (h5 : n ≤ 5) :
    Calls Tryz.prog 89 #[.pointer (some ⟨b, 0, none⟩), .int .i64 (n : Int)] w (MlPost (fun ms => RightL ms n) w b A c code) := by
  unfold MlPost
  have hlt := h.lt
  have own0 : OwnMaps (w.alloc (.cells #[] 27)) w.heap.size (.slice (some ⟨w.heap.size, 0, none⟩) 0 0) [] := ⟨[], own_mono (World.ownsRow_made (e := 27) (size := 6) w #[] 0 (Nat.le_refl _) (by decide) rfl) (Nat.le_refl _), ⟨rfl, fun k m hk => by simp at hk⟩⟩
  have d0 : Drawn w (w.alloc (.cells #[] 27)) b A c code := (Drawn.refl h).below (kbelow w _)
  have z0 : (w.alloc (.cells #[] 27)).heap.size = w.heap.size + 1 := World.size_alloc _ _
  obtain ⟨W1, hW1⟩ : ∃ W1, W1 = w.alloc (.cells #[] 27) := ⟨_, rfl⟩
  rw [← hW1] at own0 d0 z0
  have hpk := pick_any [1, 2, 3, 6] 4 rfl (by omega) (by omega) d0.src (w.heap.size + 1) z0.symm _ rfl
  have HPK := Lib.hid hpk
  clear hpk
  go_enter Tryz.func89, Tryz.ntmps89
  go_wp2_with fail
  rw [← hW1]
  clear hW1
  obtain ⟨W2, hW2⟩ : ∃ W2, W2 = W1.alloc (.cells ([1, 2, 3, 6].map (Value.int .i64)).toArray 2) := ⟨_, rfl⟩
  have hW3 : W2 = W1.alloc (.cells #[.int .i64 1, .int .i64 2, .int .i64 3, .int .i64 6] 2) := hW2
  rw [← hW2] at HPK
  rw [← hW3]
  have own1 : OwnMaps W2 w.heap.size (.slice (some ⟨w.heap.size, 0, none⟩) 0 0) [] := by rw [hW2]; exact own0.below (kbelow _ _)
  clear hW2 hW3
  refine HPK.out.mono ?_
  rintro e w2 ⟨x, rfl, hx, hd2⟩
  have own2 := own0.drawn hlt hd2
  have hd := d0.trans hd2
  obtain ⟨x1, x6⟩ : 1 ≤ x ∧ x ≤ 6 := by simp at hx; omega
  have HNX := Lib.hid (l01Next_c x w2 hd.src (by omega))
  clear hx hd2 HPK own1 own0 d0 z0
  go_wp2_with fail
  refine HNX.out.mono ?_
  rintro e w3 ⟨y, rfl, hy, _, hd3⟩
  obtain ⟨y0, y5⟩ := hy (by omega)
  have own3 := own2.drawn hlt hd3
  have hd3' := hd.trans hd3
  have wy : wrap64 (1 + y) = 1 + y := by unfold wrap64; omega
  obtain ⟨K0, hK0, hK1, hK6⟩ : ∃ K0 : Nat, 1 + y = (K0 : Int) ∧ 1 ≤ K0 ∧ K0 ≤ 6 := ⟨(1 + y).toNat, by omega, by omega, by omega⟩
  rw [hK0] at wy
  clear hy hd3 own2 hd HNX
  go_wp2
  go_loopw [6, 5] (fun kv v wr => ∃ (k : Nat) (ms : List Mp), k ≤ K0 ∧ kv = .int .i64 k ∧ ms.length + k = K0 ∧ (∀ m ∈ ms, MpN m n) ∧ OwnMaps wr w.heap.size v ms ∧ Drawn w wr b A c code) (fun kv _ _ => (intOf kv).toNat)
  case atStart => exact ⟨K0, [], Nat.le_refl _, rfl, by simp, (fun m hm => by cases hm), own3, hd3'⟩
  case round =>
    clear own3 hd3'
    obtain ⟨k, ms, hk, rfl, hlen, hall, own, hd⟩ := hrel
    obtain ⟨Av, cv, rfl, _⟩ := own.see
    by_cases hk0 : 0 < k
    · have k1 : (0 : Int) < k := by omega
      have HDO := Lib.hid (l01DrawOf_c n wr hd.src h1 h5)
      unfold MvPost at HDO
      have HO := Lib.hid own
      have HA := Lib.hid hall
      have HL := Lib.hid hlen
      clear own hall hlen
      go_wp2_with fail
      refine HDO.out.mono ?_
      rintro e w4 ⟨m, rfl, hm, hd4⟩
      have own4 := HO.out.drawn hlt hd4
      have hd4' := hd.trans hd4
      have bx : MpBox (w4.alloc (.cells #[.int .i64 m.p, .int .i64 m.a, .int .i64 m.b, .int .i64 m.c, .int .i64 m.d, .int .i64 m.e] 27)) w4.heap.size m := MpBox.new m 27 rfl
      obtain ⟨W5, hW5⟩ : ∃ W5, W5 = w4.alloc (.cells #[.int .i64 m.p, .int .i64 m.a, .int .i64 m.b, .int .i64 m.c, .int .i64 m.d, .int .i64 m.e] 27) := ⟨_, rfl⟩
      have hol := fun j hj => (own4.lt j hj).2
      have kk5 : Below w4.heap.size w4 W5 := by rw [hW5]; go_grown
      have own5 := own4.below kk5
      have hd5 := hd4'.below kk5
      have hq4 := hd4'.keep.size
      have hb4 : b < w4.heap.size := hd4'.src.lt
      rw [← hW5] at bx
      have HM := Lib.hid hm
      have HW5 := Lib.hid hW5
      clear hd4 hd hm own4 hd4' hW5 HDO
      by_cases e5 : n = 5
      · have d5 : ((n : Int) == 5) = true := by rw [e5]; rfl
        have HNX := Lib.hid (l01Next_c 3 W5 hd5.src (by omega))
        have HE5 := Lib.hid e5
        clear e5
        go_wp2_with fail
        rw [← HW5.out]
        refine HNX.out.mono ?_
        rintro e w6 ⟨t, rfl, ht, _, hd6⟩
        obtain ⟨t0, t3⟩ := ht (by omega)
        have own6 := own5.drawn hlt hd6
        have bx6 := bx.drawn (by omega) hd6
        have hd6' := hd5.trans hd6
        have own5lt : ∀ j, (Value.slice Av ms.length cv).ownBlock = some j → j < w4.heap.size := hol
        clear own5 bx hd6 hd5 kk5 ht HNX
        by_cases et : 0 < t
        · go_wp2
          have FL := FillN.of HM.out
          clear HM
          obtain ⟨W0, rfl⟩ : ∃ W0, W0 = wr := ⟨_, rfl⟩
          go_loopw [8] (fun iv wj => ∃ (i : Nat) (g : Mp), i ≤ n ∧ iv = .int .i64 i ∧ FillN n g ∧ MpBox wj w4.heap.size g ∧ Keep (fun k => k ≠ w4.heap.size) w6 wj) (fun iv _ => n - (intOf iv).toNat)
          case atStart => exact ⟨0, m, Nat.zero_le _, rfl, FL, bx6, Keep.refl _ _⟩
          case round =>
            clear FL bx6
            obtain ⟨i, g, hi, rfl, FL, bxj, kj⟩ := hrel
            have i0 : (0 : Int) ≤ i := by omega
            by_cases hin : i < n
            · have i1 : (i : Int) < n := by omega
              have i5 : i < 5 := by omega
              have i5' : (i : Int) < 5 := by omega
              have qk := bxj.at.to' i5
              have fr := bxj.free
              have hto := (FL.2 i i5).1 hin
              have FL2 := FL.set hin h5 (x := min (g.to i) (i : Int)) (by omega) (by omega)
              have bxk := bxj.set i5 (min (g.to i) (i : Int))
              have kj2 := kj.set (a := ⟨w4.heap.size, 1 + i, none⟩) (fun h => h rfl) (.int .i64 (min (g.to i) (i : Int)))
              go_wp2
              go_roundw
              case rel => exact ⟨i + 1, _, by omega, by go_num, FL2, bxk, kj2⟩
              case measure => simp [intOf]; omega
            · have ei : i = n := by omega
              have nlt : ¬ (i : Int) < n := by omega
              have hmg := FL.mp h1 h5
              have ownj := own6.keep (S := fun k => k ≠ w4.heap.size) (fun j hj e => by have := (own5lt j hj); omega) kj
              have hdj := Drawn.farBox hd6' (q := w4.heap.size) hlt hq4 kj
              clear FL
              obtain ⟨c0, c1, c2, c3, c4, c5⟩ := bxj.at.cells0
              have wk : IntKind.i64.wrap ((k : Int) - 1) = ((k - 1 : Nat) : Int) := by rw [IntKind.wrap_i64]; omega
              have HMN := Lib.hid (hmg)
              have kk8 := kbelow wr (.cells #[.int .i64 g.p, .int .i64 g.a, .int .i64 g.b, .int .i64 g.c, .int .i64 g.d, .int .i64 g.e] 27)
              have hd8 := hdj.below kk8
              have own8 := ownj.below kk8
              have hml : ms.length ≤ 6 := by have := HL.out; omega
              go_wp2_with (at_builtin; go_must (refine wpList_push_map _ rfl (.tmp 44) (.tmp 46) rfl w.heap.size _ ms rfl own8 _ g rfl (MpBox.new g 27 (by first | (with_reducible rfl) | simp)) (by omega) hd8.keep.size ?_; intro v9 w9 hown9 hg9 hv9; have hs9 := hown9.see; obtain ⟨A9, c9, rfl, _⟩ := hs9))
              have hd9 := hd8.grown hlt hg9 (fun j hj => (own8.lt j hj).1)
              go_roundw
              case rel => exact ⟨k - 1, ms ++ [g], by omega, by go_num, by have := HL.out; rw [List.length_append, List.length_singleton]; omega, (fun x hx => by
                rcases List.mem_append.1 hx with hx | hx
                · exact HA.out x hx
                · rw [List.mem_singleton] at hx; subst hx; exact HMN.out), by simpa using hown9, hd9⟩
              case measure => simp [intOf]; omega
        · have et0 : t = 0 := by omega
          subst et0
          obtain ⟨c0, c1, c2, c3, c4, c5⟩ := bx6.at.cells0
          have wk : IntKind.i64.wrap ((k : Int) - 1) = ((k - 1 : Nat) : Int) := by rw [IntKind.wrap_i64]; omega
          have HMN := Lib.hid (HM.out)
          have kk8 := kbelow w6 (.cells #[.int .i64 m.p, .int .i64 m.a, .int .i64 m.b, .int .i64 m.c, .int .i64 m.d, .int .i64 m.e] 27)
          have hd8 := hd6'.below kk8
          have own8 := own6.below kk8
          have hml : ms.length ≤ 6 := by have := HL.out; omega
          go_wp2_with (at_builtin; go_must (refine wpList_push_map _ rfl (.tmp 44) (.tmp 46) rfl w.heap.size _ ms rfl own8 _ m rfl (MpBox.new m 27 (by first | (with_reducible rfl) | simp)) (by omega) hd8.keep.size ?_; intro v9 w9 hown9 hg9 hv9; have hs9 := hown9.see; obtain ⟨A9, c9, rfl, _⟩ := hs9))
          have hd9 := hd8.grown hlt hg9 (fun j hj => (own8.lt j hj).1)
          go_roundw
          case rel => exact ⟨k - 1, ms ++ [m], by omega, by go_num, by have := HL.out; rw [List.length_append, List.length_singleton]; omega, (fun x hx => by
            rcases List.mem_append.1 hx with hx | hx
            · exact HA.out x hx
            · rw [List.mem_singleton] at hx; subst hx; exact HMN.out), by simpa using hown9, hd9⟩
          case measure => simp [intOf]; omega
      · have d5 : ((n : Int) == 5) = false := beq_eq_false_iff_ne.2 (by omega)
        obtain rfl := HW5.out
        clear HW5
        obtain ⟨c0, c1, c2, c3, c4, c5⟩ := bx.at.cells0
        have wk : IntKind.i64.wrap ((k : Int) - 1) = ((k - 1 : Nat) : Int) := by rw [IntKind.wrap_i64]; omega
        have HMN := Lib.hid (HM.out)
        have kk8 := kbelow (w4.alloc (.cells #[.int .i64 m.p, .int .i64 m.a, .int .i64 m.b, .int .i64 m.c, .int .i64 m.d, .int .i64 m.e] 27)) (.cells #[.int .i64 m.p, .int .i64 m.a, .int .i64 m.b, .int .i64 m.c, .int .i64 m.d, .int .i64 m.e] 27)
        have hd8 := hd5.below kk8
        have own8 := own5.below kk8
        have hml : ms.length ≤ 6 := by have := HL.out; omega
        go_wp2_with (at_builtin; go_must (refine wpList_push_map _ rfl (.tmp 44) (.tmp 46) rfl w.heap.size _ ms rfl own8 _ m rfl (MpBox.new m 27 (by first | (with_reducible rfl) | simp)) (by omega) hd8.keep.size ?_; intro v9 w9 hown9 hg9 hv9; have hs9 := hown9.see; obtain ⟨A9, c9, rfl, _⟩ := hs9))
        have hd9 := hd8.grown hlt hg9 (fun j hj => (own8.lt j hj).1)
        go_roundw
        case rel => exact ⟨k - 1, ms ++ [m], by omega, by go_num, by have := HL.out; rw [List.length_append, List.length_singleton]; omega, (fun x hx => by
          rcases List.mem_append.1 hx with hx | hx
          · exact HA.out x hx
          · rw [List.mem_singleton] at hx; subst hx; exact HMN.out), by simpa using hown9, hd9⟩
        case measure => simp [intOf]; omega
    · have ek : k = 0 := by omega
      subst ek
      have HO := Lib.hid own
      have HA := Lib.hid hall
      clear own hall
      go_wp2
      go_returns
      exact ⟨_, _, rfl, HO.out, ⟨by omega, by omega, HA.out⟩, hd⟩
/-! Draws of lists of maps, seldom others: 'l01BadList'. -/
/-- a list of maps that a draw hands back: the call's own, or one that came in -/
def BlPost (AL : Option Addr) (R : List Mp → Prop) (w : World) (b : Nat) (A : Option Addr) (c : Nat) (code : List Int) (e : Ending) (w' : World) : Prop :=
  ∃ (A' : Option Addr) (c' : Nat) (ms : List Mp), e = .returned (.slice A' ms.length c') ∧ SeeMaps w' A' ms ∧ NilOk A' c' ∧ InS (fun k => k ≠ b) A' ∧ (A' = AL ∨ InS (fun k => w.heap.size ≤ k ∧ k < w'.heap.size) A') ∧ R ms ∧ Drawn w w' b A c code
def lenV : Value → Nat
  | .slice _ n _ => n
  | _ => 0
theorem OwnMaps.far {w : World} {base b n c : Nat} {A : Option Addr} {ms : List Mp} (h : OwnMaps w base (.slice A n c) ms) (hb : b < base) : InS (fun k => k ≠ b) A := fun a ha => by
  subst ha
  have := (h.lt a.block rfl).1
  show a.block ≠ b
  omega
theorem OwnMaps.inS {w : World} {base n c : Nat} {A : Option Addr} {ms : List Mp} (h : OwnMaps w base (.slice A n c) ms) : InS (fun k => base ≤ k ∧ k < w.heap.size) A := fun a ha => by
  subst ha
  exact h.lt a.block rfl
theorem SeeMaps.drawn {w w' : World} {b c : Nat} {A AL : Option Addr} {code : List Int} {ms : List Mp} (h : SeeMaps w AL ms) (hA : InS (fun k => k ≠ b) AL) (hd : Drawn w w' b A c code) : SeeMaps w' AL ms := h.keep hA hd.keep
set_option maxHeartbeats 8000000 in
set_option maxRecDepth 100000 in
theorem l01BadList_c {b c cL : Nat} {A AL : Option Addr} {code : List Int} {ms : List Mp} (w : World) (h : SrcAt w b A c code) (hs : SeeMaps w AL ms) (hA : NilOk AL cL) (hf : InS (fun k => k ≠ b) AL) (h0 : 0 < ms.length) (h6 : ms.length ≤ 6) :
    Calls Tryz.prog 117 #[.pointer (some ⟨b, 0, none⟩), .slice AL ms.length cL] w (BlPost AL (fun ms' => ms'.length ≤ 7) w b A c code) := by
  unfold BlPost
  have hlt := h.lt
  have own0 : OwnMaps (w.alloc (.cells #[] 27)) w.heap.size (.slice (some ⟨w.heap.size, 0, none⟩) 0 0) [] := ⟨[], own_mono (World.ownsRow_made (e := 27) (size := 6) w #[] 0 (Nat.le_refl _) (by decide) rfl) (Nat.le_refl _), ⟨rfl, fun k m hk => by simp at hk⟩⟩
  have d0 : Drawn w (w.alloc (.cells #[] 27)) b A c code := (Drawn.refl h).below (kbelow w _)
  have hs0 := hs.below (kbelow w (.cells #[] 27))
  obtain ⟨bL, oL, rfl, gL⟩ := hs (List.length_pos_iff.1 h0)
  obtain ⟨m0, hm0⟩ := el h0
  have hz0 := d0.keep.size
  have HS := Lib.hid hs
  have HA := Lib.hid hA
  have HM0 := Lib.hid hm0
  have HF := Lib.hid hf
  have hbL : bL ≠ b := hf ⟨bL, oL, none⟩ rfl
  clear hs hA gL hm0 hf
  go_enter Tryz.func117, Tryz.ntmps117
  go_wp2_with (at_builtin; go_must (refine wpList_cat_map _ rfl (.tmp 6) (.tmp 7) rfl w.heap.size _ [] ms rfl own0 ⟨bL, oL, none⟩ cL rfl hs0 (by simp; omega) hz0 ?_; intro v1 w1 hown1 hg1 hv1; have hs1 := hown1.see; obtain ⟨A1, c1, rfl, _⟩ := hs1))
  have hown2 : OwnMaps w1 w.heap.size (.slice A1 ms.length c1) ms := hown1
  have hd1 := d0.grown hlt hg1 (fun j hj => (own0.lt j hj).1)
  have HNX := Lib.hid (l01Next_c 40 w1 hd1.src (by omega))
  clear own0 d0 hs0 hown1 hg1 hv1
  refine HNX.out.mono ?_
  rintro e w2 ⟨x, rfl, _, _, hd2⟩
  have own := hown2.drawn hlt hd2
  have hd := hd1.trans hd2
  have hz2 := hd.keep.size
  clear HNX hd2 hd1 hown2
  by_cases e0 : x = 0
  · subst e0
    have hdd := hd.below (kbelow w2 (.cells #[] 27))
    go_wp2
    go_returns
    exact ⟨some ⟨w2.heap.size, 0, none⟩, 0, [], rfl, (fun hn => absurd rfl hn), (fun e => by cases e), (fun a ha => by have := Option.some.inj ha; subst this; show w2.heap.size ≠ b; omega), Or.inr (fun a ha => by have := Option.some.inj ha; subst this; exact ⟨hz2, by show w2.heap.size < _; rw [World.size_alloc]; omega⟩), by simp, hdd⟩
  · have d0 : (x == 0) = false := beq_eq_false_iff_ne.2 e0
    by_cases e1 : x = 1
    · subst e1
      have HSP := Lib.hid (l01Spoil_c w2 hd.src)
      unfold MvPost at HSP
      go_wp2_with fail
      refine HSP.out.mono ?_
      rintro e w3 ⟨m, rfl, _, hd3⟩
      have own3 := own.drawn hlt hd3
      have hd4 := hd.trans hd3
      have kk8 := kbelow w3 (.cells #[.int .i64 m.p, .int .i64 m.a, .int .i64 m.b, .int .i64 m.c, .int .i64 m.d, .int .i64 m.e] 27)
      have hd8 := hd4.below kk8
      have own8 := own3.below kk8
      clear HSP hd3 own own3 hd hd4
      go_wp2_with (at_builtin; go_must (refine wpList_push_map _ rfl (.tmp 16) (.tmp 19) rfl w.heap.size _ ms rfl own8 _ m rfl (MpBox.new m 27 (by first | (with_reducible rfl) | simp)) (by omega) hd8.keep.size ?_; intro v9 w9 hown9 hg9 hv9; have hs9 := hown9.see; obtain ⟨A9, c9, rfl, _⟩ := hs9))
      have hd9 := hd8.grown hlt hg9 (fun j hj => (own8.lt j hj).1)
      go_returns
      obtain ⟨A8, c8, e8, s8⟩ := hown9.see
      cases e8
      exact ⟨A9, c9, ms ++ [m], by simp, s8, hown9.nilok, hown9.far hlt, Or.inr hown9.inS, by simp; omega, hd9⟩
    · have d1 : (x == 1) = false := beq_eq_false_iff_ne.2 e1
      by_cases e2 : x = 2
      · subst e2
        go_wp2
        go_loopw [5] (fun v wr => ∃ (ns : List Mp), ns.length ≤ 7 ∧ OwnMaps wr w.heap.size v ns ∧ Drawn w wr b A c code) (fun v _ => 8 - lenV v)
        case atStart => exact ⟨ms, by omega, own, hd⟩
        case round =>
          clear own hd
          obtain ⟨ns, hns, own, hd⟩ := hrel
          obtain ⟨Av, cv, rfl, sv⟩ := own.see
          by_cases hl : ns.length ≤ 6
          · have hl1 : (ns.length : Int) ≤ 6 := by omega
            have hss := HS.out.drawn HF.out hd
            obtain ⟨bL', oL', e', gL⟩ := hss (List.length_pos_iff.1 h0)
            simp only [Option.some.injEq, Addr.mk.injEq] at e'
            obtain ⟨rfl, rfl, _⟩ := e'
            have hmt := gL 0 m0 HM0.out
            rw [Nat.zero_mul, Nat.add_zero] at hmt
            obtain ⟨q0, q1, q2, q3, q4, q5⟩ := hmt
            have kk8 := kbelow wr (.cells #[.int .i64 m0.p, .int .i64 m0.a, .int .i64 m0.b, .int .i64 m0.c, .int .i64 m0.d, .int .i64 m0.e] 27)
            have hd8 := hd.below kk8
            have own8 := own.below kk8
            clear own sv hss gL
            go_wp2_with (at_builtin; go_must (refine wpList_push_map _ rfl (.tmp 26) (.tmp 30) rfl w.heap.size _ ns rfl own8 _ m0 rfl (MpBox.new m0 27 (by first | (with_reducible rfl) | simp)) (by omega) hd8.keep.size ?_; intro v9 w9 hown9 hg9 hv9; have hs9 := hown9.see; obtain ⟨A9, c9, rfl, _⟩ := hs9))
            have hd9 := hd8.grown hlt hg9 (fun j hj => (own8.lt j hj).1)
            go_roundw
            case rel => exact ⟨ns ++ [m0], by simp; omega, by simpa using hown9, hd9⟩
            case measure => simp [lenV]; omega
          · have hl1 : ¬ (ns.length : Int) ≤ 6 := by omega
            have HO := Lib.hid own
            have hno := own.nilok
            have hfo := own.far hlt
            have hio := own.inS
            have HSV := Lib.hid sv
            clear own sv
            go_wp2
            go_returns
            exact ⟨_, _, ns, rfl, HSV.out, hno, hfo, Or.inr hio, hns, hd⟩
      · have d2 : (x == 2) = false := beq_eq_false_iff_ne.2 e2
        by_cases e3 : x = 3
        · subst e3
          have hss := HS.out.drawn HF.out hd
          obtain ⟨bL', oL', e', gL⟩ := hss (List.length_pos_iff.1 h0)
          simp only [Option.some.injEq, Addr.mk.injEq] at e'
          obtain ⟨rfl, rfl, _⟩ := e'
          have hmt := gL 0 m0 HM0.out
          rw [Nat.zero_mul, Nat.add_zero] at hmt
          obtain ⟨q0, q1, q2, q3, q4, q5⟩ := hmt
          obtain ⟨g1, rfl⟩ : ∃ g, A1 = some ⟨g, 0, none⟩ := by
            obtain ⟨zs, hz, _⟩ := own
            rcases hz.2 with ⟨e, _⟩ | ⟨g, cap, cur, e, _⟩
            · simp only [Value.slice.injEq] at e; omega
            · simp only [Value.slice.injEq] at e; exact ⟨g, e.1⟩
          have h01 : (0 : Int) < ms.length := by omega
          have hn7 := fun W (hs : SrcAt W b A c code) => l01Next_c (ms.length : Int) W hs (by omega)
          have HN7 := Lib.hid hn7
          have hbd := fun W (hs : SrcAt W b A c code) => l01Bad_c m0 W hs
          unfold MvPost at hbd
          have HBD := Lib.hid hbd
          have gk : ∀ W, Keep (fun k => k ≠ b) w2.drew W → W.cell? ⟨bL, oL, none⟩ = some (.int .i64 m0.p) ∧ W.cell? ⟨bL, oL + 1, none⟩ = some (.int .i64 m0.a) ∧ W.cell? ⟨bL, oL + 2, none⟩ = some (.int .i64 m0.b) ∧ W.cell? ⟨bL, oL + 3, none⟩ = some (.int .i64 m0.c) ∧ W.cell? ⟨bL, oL + 4, none⟩ = some (.int .i64 m0.d) ∧ W.cell? ⟨bL, oL + 5, none⟩ = some (.int .i64 m0.e) := fun W hk =>
            have kc := fun {o : Nat} {v : Value} (q : w2.cell? ⟨bL, o, none⟩ = some v) => hk.cell (p := ⟨bL, o, none⟩) (v := v) hbL (bcell (Below.drew (Below.refl _ w2)) q)
            ⟨kc q0, kc q1, kc q2, kc q3, kc q4, kc q5⟩
          clear hss gL hn7 hbd
          go_wp2
          refine wp_region_headS 10 (fun w' => w'.cell? ⟨bL, oL, none⟩ = some (.int .i64 m0.p) ∧ w'.cell? ⟨bL, oL + 1, none⟩ = some (.int .i64 m0.a) ∧ w'.cell? ⟨bL, oL + 2, none⟩ = some (.int .i64 m0.b) ∧ w'.cell? ⟨bL, oL + 3, none⟩ = some (.int .i64 m0.c) ∧ w'.cell? ⟨bL, oL + 4, none⟩ = some (.int .i64 m0.d) ∧ w'.cell? ⟨bL, oL + 5, none⟩ = some (.int .i64 m0.e)) (by kernel_rfl) (by kernel_rfl) ⟨q0, q1, q2, q3, q4, q5⟩ (fun hHeld => ?_)
          simp only [List.drop]
          refine headH_takeS (i := 0) (v := ?_) 35 rfl (by kernel_rfl) (by kernel_rfl) (fun _ _ _ h => h) (Or.inl ⟨by rfl, ?_⟩) hHeld ?_
          rotate_left
          · intro w hSw
            (try dsimp only at hSw)
            go_simp
            try with_reducible rfl
          try simp only [Act.put, List.setIfInBounds_toArray, List.set_cons_zero, List.set_cons_succ]
          refine headH_takeS (i := 1) (v := ?_) 36 rfl (by kernel_rfl) (by kernel_rfl) (fun _ _ _ h => h) (Or.inl ⟨by rfl, ?_⟩) hHeld ?_
          rotate_left
          · intro w hSw
            (try dsimp only at hSw)
            go_simp
            try with_reducible rfl
          try simp only [Act.put, List.setIfInBounds_toArray, List.set_cons_zero, List.set_cons_succ]
          refine headH_takeS (i := 2) (v := ?_) 37 rfl (by kernel_rfl) (by kernel_rfl) (fun _ _ _ h => h) (Or.inl ⟨by rfl, ?_⟩) hHeld ?_
          rotate_left
          · intro w hSw
            (try dsimp only at hSw)
            go_simp
            try with_reducible rfl
          try simp only [Act.put, List.setIfInBounds_toArray, List.set_cons_zero, List.set_cons_succ]
          refine headH_takeS (i := 3) (v := ?_) 38 rfl (by kernel_rfl) (by kernel_rfl) (fun _ _ _ h => h) (Or.inl ⟨by rfl, ?_⟩) hHeld ?_
          rotate_left
          · intro w hSw
            (try dsimp only at hSw)
            go_simp
            try with_reducible rfl
          try simp only [Act.put, List.setIfInBounds_toArray, List.set_cons_zero, List.set_cons_succ]
          refine headH_takeS (i := 5) (v := ?_) 40 rfl (by kernel_rfl) (by kernel_rfl) (fun _ _ _ h => h) (Or.inl ⟨by rfl, ?_⟩) hHeld ?_
          rotate_left
          · intro w hSw
            (try dsimp only at hSw)
            go_simp
            try with_reducible rfl
          try simp only [Act.put, List.setIfInBounds_toArray, List.set_cons_zero, List.set_cons_succ]
          refine headH_takeS (i := 6) (v := ?_) 41 rfl (by kernel_rfl) (by kernel_rfl) (fun _ _ _ h => h) (Or.inl ⟨by rfl, ?_⟩) hHeld ?_
          rotate_left
          · intro w hSw
            (try dsimp only at hSw)
            go_simp
            try with_reducible rfl
          try simp only [Act.put, List.setIfInBounds_toArray, List.set_cons_zero, List.set_cons_succ]
          refine headH_takeS (i := 7) (v := ?_) 42 rfl (by kernel_rfl) (by kernel_rfl) (fun _ _ _ h => h) (Or.inl ⟨by rfl, ?_⟩) hHeld ?_
          rotate_left
          · intro w hSw
            (try dsimp only at hSw)
            go_simp
            try with_reducible rfl
          try simp only [Act.put, List.setIfInBounds_toArray, List.set_cons_zero, List.set_cons_succ]
          refine headH_takeS (i := 8) (v := ?_) 43 rfl (by kernel_rfl) (by kernel_rfl) (fun _ _ _ h => h) (Or.inl ⟨by rfl, ?_⟩) hHeld ?_
          rotate_left
          · intro w hSw
            (try dsimp only at hSw)
            go_simp
            try with_reducible rfl
          try simp only [Act.put, List.setIfInBounds_toArray, List.set_cons_zero, List.set_cons_succ]
          refine headH_all (rs := [4]) (by kernel_rfl) (by kernel_rfl) (headH_cons rfl (fun K hK => ?_) headH_nil)
          go_simp
          have hd0 : Drawn w w2.drew b A c code := hd.below (Below.drew (Below.refl _ w2))
          have own0 := own.below (Below.drew (Below.refl _ w2))
          refine (HN7.out _ hd0.src).mono ?_
          rintro e w3 ⟨y, rfl, hy, _, hd3⟩
          obtain ⟨y0, y1⟩ := hy (by omega)
          obtain ⟨k, rfl⟩ := Int.eq_ofNat_of_zero_le y0
          have hkl : k < ms.length := by omega
          have own3 := own0.drawn hlt hd3
          have hmt3 := gk w3 hd3.keep
          refine hK.out _ _ hmt3 (fun hHeldn => ?_)
          clear hK K hHeld
          have hHeld := hHeldn
          clear hHeldn
          try simp only [Act.put, List.setIfInBounds_toArray, List.set_cons_zero, List.set_cons_succ]
          refine headH_all (rs := [9]) (by kernel_rfl) (by kernel_rfl) (headH_cons rfl (fun K hK => ?_) headH_nil)
          go_simp
          have hd3' := hd0.trans hd3
          refine (HBD.out _ hd3'.src).mono ?_
          rintro e w4 ⟨r, rfl, _, hd4⟩
          have own4 := own3.drawn hlt hd4
          have hd4' := hd3'.trans hd4
          have hmt4 := gk w4 (hd3.keep.trans hd4.keep)
          refine hK.out _ _ hmt4 (fun hHeldn => ?_)
          clear hK K hHeld
          have hHeld := hHeldn
          clear hHeldn
          try simp only [Act.put, List.setIfInBounds_toArray, List.set_cons_zero, List.set_cons_succ]
          refine headH_tail (by kernel_rfl) ?_
          obtain ⟨mk, hmk⟩ := el hkl
          obtain ⟨p0, p1, p2, p3, p4, p5⟩ := own4.at_ hmk
          have pf := own4.free
          have own5 := own4.put hkl r
          have hg := (own4.lt g1 rfl).1
          have hd5 := (((((hd4'.set hlt (a := ⟨g1, k * 6, none⟩) hg (.int .i64 r.p)).set hlt (a := ⟨g1, k * 6 + 1, none⟩) hg (.int .i64 r.a)).set hlt (a := ⟨g1, k * 6 + 2, none⟩) hg (.int .i64 r.b)).set hlt (a := ⟨g1, k * 6 + 3, none⟩) hg (.int .i64 r.c)).set hlt (a := ⟨g1, k * 6 + 4, none⟩) hg (.int .i64 r.d)).set hlt (a := ⟨g1, k * 6 + 5, none⟩) hg (.int .i64 r.e)
          have k0 : (0 : Int) ≤ k := by omega
          have k1 : (k : Int) < ms.length := by omega
          have HO := Lib.hid own5
          have HD := Lib.hid hd5
          clear own5 hd5 hHeld hmk own own0 own3 hmt3 hmt4 q0 q1 q2 q3 q4 q5 gk HN7 HBD
          go_wp2
          go_returns
          obtain ⟨A8, c8, e8, s8⟩ := HO.out.see
          have h5 : ms.length = (ms.set k r).length := List.length_set.symm
          simp only [Value.slice.injEq] at e8
          obtain ⟨rfl, _, rfl⟩ := e8
          exact ⟨some ⟨g1, 0, none⟩, c1, ms.set k r, by rw [← h5]; rfl, s8, HO.out.nilok, HO.out.far hlt, Or.inr HO.out.inS, by omega, HD.out⟩
        · have d3 : (x == 3) = false := beq_eq_false_iff_ne.2 e3
          have hss := HS.out.drawn HF.out hd
          go_wp2
          go_returns
          exact ⟨_, _, _, rfl, hss, HA.out, HF.out, Or.inl rfl, by omega, hd⟩
/-! Draws of lists of maps for words: 'l05DrawList'. -/
theorem MpBox.keepAt {w w' : World} {q q' : Nat} {m : Mp} (h : MpBox w q m) (hk : Keep (fun k => k ≠ q') w w') (hq : q ≠ q') : MpBox w' q m := by
  have hl := h.lt
  obtain ⟨t, h⟩ := h
  exact ⟨t, (hk.block q hl hq).trans h⟩
theorem two_maps (w : World) (f g : Mp) : OwnMaps (w.alloc (.cells #[.int .i64 f.p, .int .i64 f.a, .int .i64 f.b, .int .i64 f.c, .int .i64 f.d, .int .i64 f.e, .int .i64 g.p, .int .i64 g.a, .int .i64 g.b, .int .i64 g.c, .int .i64 g.d, .int .i64 g.e] 27)) w.heap.size (.slice (some ⟨w.heap.size, 0, none⟩) 2 2) [f, g] := by
  exact ⟨_, ⟨rfl, .inr ⟨w.heap.size, 2, _, rfl, Nat.le_refl _, heap_alloc_new w _, Nat.le_refl _, by decide, rfl, rfl⟩⟩, repCells [f, g]⟩
/-! Draws of words: 'l05DrawWord'. -/
end Go.Proofs.YtilfamenadaboaaGreat
