/- 'compare', and slices.SortFunc by it. No condition. -/
import Derived.Test.YtilfamenadaboaaGreatCmp
import Derived.Test.YtilfamenadaboaaGreatBase
namespace Go.Proofs.YtilfamenadaboaaGreat
set_option linter.unusedSimpArgs false
set_option linter.unusedVariables false
set_option linter.unusedSectionVars false
open Go.RowKit Go.Sort Go.Shelf
set_option maxHeartbeats 1000000 in
theorem OrI_c (b c : Nat) (x y : Int) (w : World) (hx : w.cell? ⟨b, 0, none⟩ = some (.int .i64 x)) (hy : w.cell? ⟨b, 1, none⟩ = some (.int .i64 y)) :
    Calls Tryz.prog 131 #[.slice (some ⟨b, 0, none⟩) 2 c] w fun e w' => e = .returned (.int .i64 (if x = 0 then y else x)) ∧ w' = w := by
  have h : SeeInts w (some ⟨b, 0, none⟩) [x, y] := fun _ => ⟨b, 0, rfl, fun k v hk => by
    match k, hk with
    | 0, hk => simp at hk; subst hk; exact hx
    | 1, hk => simp at hk; subst hk; exact hy⟩
  have hr : ∀ k, k ≤ 2 → (∀ j v, j < k → ([x, y] : List Int)[j]? = some v → v = 0) → ∀ v, ([x, y] : List Int)[k]? = some v → v ≠ 0 → v = if x = 0 then y else x := fun k hk hz v hv hn => by
    match k, hv with
    | 0, hv => simp at hv; subst hv; rw [if_neg hn]
    | 1, hv => simp at hv; subst hv; rw [if_pos (hz 0 x (by omega) rfl)]
  have hr2 : (∀ j v, j < 2 → ([x, y] : List Int)[j]? = some v → v = 0) → 0 = if x = 0 then y else x := fun hz => by
    rw [if_pos (hz 0 x (by omega) rfl), hz 1 y (by omega) rfl]
  have HR := Lib.hid hr
  have HR2 := Lib.hid hr2
  generalize (if x = 0 then y else x) = r at *
  have hl : ([x, y] : List Int).length = 2 := rfl
  generalize ([x, y] : List Int) = xs at *
  clear hr hr2 hx hy
  go_enter Tryz.func131, Tryz.ntmps131
  go_wp2
  go_loopw [8] (fun i wr => ∃ k : Nat, i = .int .i64 k ∧ k ≤ 2 ∧ Hid (∀ j v, j < k → xs[j]? = some v → v = 0) ∧ wr = w) (fun i _ => 2 - (intOf i).toNat)
  case atStart => exact ⟨0, rfl, Nat.zero_le _, Lib.hid fun j _ hj => absurd hj (Nat.not_lt_zero _), rfl⟩
  case round =>
    obtain ⟨k, rfl, hk, hz, rfl⟩ := hrel
    by_cases hlt : k < 2
    · obtain ⟨b1, o1, v, e1, hv, q⟩ := h.at_ (k := k) (by omega)
      simp only [Option.some.injEq, Addr.mk.injEq, and_true] at e1
      obtain ⟨rfl, rfl⟩ := e1
      rw [Nat.zero_add] at q
      have l0 : (0 : Int) ≤ k := by omega
      have l1 : (k : Int) < 2 := by omega
      have HV := Lib.hid hv
      clear hv
      by_cases hc : v = 0
      · have d : (v != 0) = false := by simpa using hc
        have HC := Lib.hid hc
        clear hc
        go_wp2
        go_roundw
        case rel =>
          refine ⟨k + 1, by go_num, by omega, Lib.hid fun j a hj ha => ?_, by first | rfl | trivial⟩
          rcases Nat.lt_succ_iff_lt_or_eq.1 hj with hj | rfl
          · exact hz.out j a hj ha
          · rw [HV.out] at ha
            obtain rfl := Option.some.inj ha
            exact HC.out
        case measure => simp [intOf]; omega
      · have d : (v != 0) = true := by simpa using hc
        have HC := Lib.hid hc
        clear hc
        go_wp2
        go_returns
        exact ⟨ret_int (HR.out k (by omega) hz.out v HV.out HC.out), rfl⟩
    · obtain rfl : k = 2 := by omega
      go_wp2
      go_returns
      exact ⟨ret_int (HR2.out hz.out), rfl⟩
/-- a map's cells -/
def encMp (f : Mp) : List Value := [.int .i64 f.p, .int .i64 f.a, .int .i64 f.b, .int .i64 f.c, .int .i64 f.d, .int .i64 f.e]
theorem cmpM_eq (f g : Mp) : cmpM f g = if cmpI f.p g.p = 0 then cmpLs f.imgs g.imgs else cmpI f.p g.p := rfl
theorem imgs_see {w : World} {b : Nat} {f : Mp} (h : MpAt w b 0 f) : SeeInts w (some ⟨b, 1, none⟩) f.imgs := fun _ => ⟨b, 1, rfl, fun k v hk => by
  obtain ⟨q0, q1, q2, q3, q4, q5⟩ := h.cells0
  match k, hk with
  | 0, hk => simp [Mp.imgs] at hk; subst hk; exact q1
  | 1, hk => simp [Mp.imgs] at hk; subst hk; exact q2
  | 2, hk => simp [Mp.imgs] at hk; subst hk; exact q3
  | 3, hk => simp [Mp.imgs] at hk; subst hk; exact q4
  | 4, hk => simp [Mp.imgs] at hk; subst hk; exact q5⟩
set_option maxHeartbeats 4000000 in
theorem compare_c (f g : Mp) (W : World) : Calls Tryz.prog 115 #[.agg #[.int .i64 f.p, .int .i64 f.a, .int .i64 f.b, .int .i64 f.c, .int .i64 f.d, .int .i64 f.e], .agg #[.int .i64 g.p, .int .i64 g.a, .int .i64 g.b, .int .i64 g.c, .int .i64 g.d, .int .i64 g.e]] W fun e w' => e = .returned (.int .i64 (cmpM f g)) ∧ ∃ q os', w' = grow (W.drewN q) os' := by
  obtain ⟨W1, hW1⟩ : ∃ W1, W1 = (W.alloc (Obj.cells #[.int .i64 f.p, .int .i64 f.a, .int .i64 f.b, .int .i64 f.c, .int .i64 f.d, .int .i64 f.e] 27)).alloc (Obj.cells #[.int .i64 g.p, .int .i64 g.a, .int .i64 g.b, .int .i64 g.c, .int .i64 g.d, .int .i64 g.e] 27) := ⟨_, rfl⟩
  have bf : MpBox W1 W.heap.size f := by rw [hW1]; exact (MpBox.new f 27 rfl).keep _
  have bg : MpBox W1 (W.heap.size + 1) g := by rw [hW1]; exact MpBox.new g 27 (by simp)
  obtain ⟨R, hR⟩ : ∃ R, R = cmpM f g := ⟨_, rfl⟩
  rw [← hR]
  rw [cmpM_eq] at hR
  go_enter Tryz.func115, Tryz.ntmps115
  go_wp2
  rw [← hW1]
  have HW1 := Lib.hid hW1
  clear hW1
  have sf := imgs_see bf.at
  have sg := imgs_see bg.at
  obtain ⟨f0, f1, f2, f3, f4, f5⟩ := bf.at.cells0
  obtain ⟨g0, g1, g2, g3, g4, g5⟩ := bg.at.cells0
  have lf : f.imgs.length = 5 := rfl
  have lg : g.imgs.length = 5 := rfl
  have hcs := CompareIs_c W.heap.size 1 (W.heap.size + 1) 1 5 5 f.imgs g.imgs
  rw [lf, lg] at hcs
  have HCS := Lib.hid hcs
  clear hcs
  have hor := OrI_c W1.heap.size 2 (cmpI f.p g.p) (cmpLs f.imgs g.imgs)
  rw [← hR] at hor
  have HOR := Lib.hid hor
  clear hor hR
  generalize hr : cmpLs f.imgs g.imgs = r at *
  refine wp_region_headS 10 (fun w' => w'.cell? ⟨W.heap.size, 0, none⟩ = some (.int .i64 f.p) ∧ w'.cell? ⟨W.heap.size + 1, 0, none⟩ = some (.int .i64 g.p)) (by kernel_rfl) (by kernel_rfl) ⟨f0, g0⟩ (fun hHeld => ?_)
  simp only [List.drop]
  refine headH_takeS (i := 0) (v := ?_) 5 rfl (by kernel_rfl) (by kernel_rfl) (fun _ _ _ h => h) (Or.inl ⟨by rfl, ?_⟩) hHeld ?_
  rotate_left
  · intro w hSw
    (try dsimp only at hSw)
    go_simp
    try with_reducible rfl
  try simp only [Act.put, List.setIfInBounds_toArray, List.set_cons_zero, List.set_cons_succ]
  refine headH_takeS (i := 1) (v := ?_) 6 rfl (by kernel_rfl) (by kernel_rfl) (fun _ _ _ h => h) (Or.inl ⟨by rfl, ?_⟩) hHeld ?_
  rotate_left
  · intro w hSw
    (try dsimp only at hSw)
    go_simp
    try with_reducible rfl
  try simp only [Act.put, List.setIfInBounds_toArray, List.set_cons_zero, List.set_cons_succ]
  refine headH_takeS (i := 2) (v := ?_) 7 rfl (by kernel_rfl) (by kernel_rfl) (fun _ _ _ h => h) (Or.inl ⟨by rfl, ?_⟩) hHeld ?_
  rotate_left
  · intro w hSw
    (try dsimp only at hSw)
    go_simp
    try with_reducible rfl
  try simp only [Act.put, List.setIfInBounds_toArray, List.set_cons_zero, List.set_cons_succ]
  refine headH_takeS (i := 3) (v := ?_) 8 rfl (by kernel_rfl) (by kernel_rfl) (fun _ _ _ h => h) (Or.inl ⟨by rfl, ?_⟩) hHeld ?_
  rotate_left
  · intro w hSw
    (try dsimp only at hSw)
    go_simp
    try with_reducible rfl
  try simp only [Act.put, List.setIfInBounds_toArray, List.set_cons_zero, List.set_cons_succ]
  refine headH_takeS (i := 5) (v := ?_) 10 rfl (by kernel_rfl) (by kernel_rfl) (fun _ _ _ h => h) (Or.inl ⟨by rfl, ?_⟩) hHeld ?_
  rotate_left
  · intro w hSw
    (try dsimp only at hSw)
    go_simp
    try with_reducible rfl
  try simp only [Act.put, List.setIfInBounds_toArray, List.set_cons_zero, List.set_cons_succ]
  refine headH_takeS (i := 6) (v := ?_) 11 rfl (by kernel_rfl) (by kernel_rfl) (fun _ _ _ h => h) (Or.inl ⟨by rfl, ?_⟩) hHeld ?_
  rotate_left
  · intro w hSw
    (try dsimp only at hSw)
    go_simp
    try with_reducible rfl
  try simp only [Act.put, List.setIfInBounds_toArray, List.set_cons_zero, List.set_cons_succ]
  refine headH_takeS (i := 7) (v := ?_) 12 rfl (by kernel_rfl) (by kernel_rfl) (fun _ _ _ h => h) (Or.inl ⟨by rfl, ?_⟩) hHeld ?_
  rotate_left
  · intro w hSw
    (try dsimp only at hSw)
    go_simp
    try with_reducible rfl
  try simp only [Act.put, List.setIfInBounds_toArray, List.set_cons_zero, List.set_cons_succ]
  refine headH_takeS (i := 8) (v := ?_) 13 rfl (by kernel_rfl) (by kernel_rfl) (fun _ _ _ h => h) (Or.inl ⟨by rfl, ?_⟩) hHeld ?_
  rotate_left
  · intro w hSw
    (try dsimp only at hSw)
    go_simp
    try with_reducible rfl
  try simp only [Act.put, List.setIfInBounds_toArray, List.set_cons_zero, List.set_cons_succ]
  refine headH_all (rs := [4]) (by kernel_rfl) (by kernel_rfl) (headH_cons rfl (fun K hK => ?_) headH_nil)
  go_simp
  go_at_call 132
  refine (CompareI_c _ _ _).mono ?_
  rintro e w2 ⟨rfl, rfl⟩
  try go_simp
  refine hK.out _ _ ⟨f0, g0⟩ (fun hHeldn => ?_)
  clear hK K hHeld
  have hHeld := hHeldn
  clear hHeldn
  try simp only [Act.put, List.setIfInBounds_toArray, List.set_cons_zero, List.set_cons_succ]
  refine headH_all (rs := [9]) (by kernel_rfl) (by kernel_rfl) (headH_cons rfl (fun K hK => ?_) headH_nil)
  go_simp
  go_at_call 133
  refine (HCS.out W1.drew sf sg rfl (by omega)).mono ?_
  rintro e w3 ⟨rfl, rfl⟩
  try go_simp
  refine hK.out _ _ ⟨f0, g0⟩ (fun hHeldn => ?_)
  clear hK K hHeld
  have hHeld := hHeldn
  clear hHeldn
  try simp only [Act.put, List.setIfInBounds_toArray, List.set_cons_zero, List.set_cons_succ]
  refine headH_tail (by kernel_rfl) ?_
  clear hHeld
  go_wp2_with fail
  refine (HOR.out _ (by simp [go_sem]) (by simp [go_sem])).mono ?_
  rintro e w4 ⟨rfl, rfl⟩
  go_wp2
  go_returns
  refine ⟨rfl, 1, #[Obj.cells #[.int .i64 f.p, .int .i64 f.a, .int .i64 f.b, .int .i64 f.c, .int .i64 f.d, .int .i64 f.e] 27] ++ #[Obj.cells #[.int .i64 g.p, .int .i64 g.a, .int .i64 g.b, .int .i64 g.c, .int .i64 g.d, .int .i64 g.e] 27] ++ #[Obj.cells #[.int .i64 (cmpI f.p g.p), .int .i64 r] 3], ?_⟩
  rw [HW1.out, alloc_eq_grow, alloc_eq_grow, alloc_eq_grow, grow_grow, grow_grow]
  rfl
/-- slices.SortFunc at rows of maps -/
theorem cmpLaysM (blk off size : Nat) (w : World) : CmpLays Tryz.prog 115 #[] encMp 6 cmpM blk off size w := fun _ _ _ _ x y => compare_c x y _
end Go.Proofs.YtilfamenadaboaaGreat
