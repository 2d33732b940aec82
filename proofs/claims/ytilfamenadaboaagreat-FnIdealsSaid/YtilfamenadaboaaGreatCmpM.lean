/- 'number': a map's images as digits. No condition. -/
import Derived.Test.YtilfamenadaboaaGreatMonP
import Derived.Test.YtilfamenadaboaaGreatMul
import Derived.Test.YtilfamenadaboaaGreatBase
import Derived.Shelf.SlSortCmp.WholeK
namespace Go.Proofs.YtilfamenadaboaaGreat
set_option linter.unusedSimpArgs false
set_option linter.unusedVariables false
set_option linter.unusedSectionVars false
open Go.RowKit
open Go.RowKit Go.Sort Go.Shelf
/-- the first k digits -/
def numTo (f : Mp) : Nat → Int
  | 0 => 0
  | k + 1 => numTo f k * 5 + f.to k
theorem numTo_five (f : Mp) : numTo f 5 = f.num := by
  unfold Mp.num
  simp [numTo, Mp.to]
theorem numTo_lt {f : Mp} {n : Int} (h : MpN f n) {k : Nat} (hk : k ≤ 5) : 0 ≤ numTo f k ∧ numTo f k < 3125 ∧ (k < 5 → numTo f k < 625) := by
  have h0 := h.to_lt 0
  have h1 := h.to_lt 1
  have h2 := h.to_lt 2
  have h3 := h.to_lt 3
  have h4 := h.to_lt 4
  rcases (by omega : k = 0 ∨ k = 1 ∨ k = 2 ∨ k = 3 ∨ k = 4 ∨ k = 5) with rfl | rfl | rfl | rfl | rfl | rfl <;> simp only [numTo] <;> omega
set_option maxHeartbeats 1000000 in
theorem number_c (f : Mp) (n : Int) (w : World) (hf : MpN f n) : Calls Tryz.prog 111 #[.agg #[.int .i64 f.p, .int .i64 f.a, .int .i64 f.b, .int .i64 f.c, .int .i64 f.d, .int .i64 f.e]] w fun e w' => e = .returned (.int .i64 f.num) ∧ Below w.heap.size w w' := by
  have hb1 := (MpBox.new f 27 (w := w) rfl).at
  obtain ⟨q0, q1, q2, q3, q4, q5⟩ := hb1.cells0
  have hfin := numTo_five f
  have HF := Lib.hid hfin
  have HN := Lib.hid hf
  clear hfin hb1
  go_enter Tryz.func111, Tryz.ntmps111
  go_wp2
  go_loopw [3, 8] (fun s i wr => ∃ k : Nat, k ≤ 5 ∧ i = .int .i64 k ∧ s = .int .i64 (numTo f k) ∧ Below w.heap.size w wr) (fun _ i _ => 5 - (intOf i).toNat)
  case atStart => exact ⟨0, by omega, rfl, rfl, by go_grown⟩
  case round =>
    obtain ⟨k, hk, rfl, rfl, hb⟩ := hrel
    by_cases hlt : k < 5
    · have hl := (numTo_lt HN.out (k := k) (by omega))
      have hl2 := (HN.out.to_lt k)
      have m1 : wrap64 (numTo f k * 5) = numTo f k * 5 := by unfold wrap64; omega
      have m2 : IntKind.i64.wrap (numTo f k * 5) = numTo f k * 5 := by rw [IntKind.wrap_i64]; omega
      have m3 : wrap64 (numTo f k * 5 + f.to k) = numTo f (k + 1) := by show _ = numTo f k * 5 + f.to k; unfold wrap64; omega
      have m4 : IntKind.i64.wrap (numTo f k * 5 + f.to k) = numTo f (k + 1) := by show _ = numTo f k * 5 + f.to k; rw [IntKind.wrap_i64]; omega
      have l5 : (k : Int) < 5 := by omega
      have g := index_arr f hlt
      clear hl hl2
      go_wp2
      go_roundw
      case rel => exact ⟨k + 1, by omega, by go_num, rfl, hb⟩
      case measure => simp [intOf]; omega
    · obtain rfl : k = 5 := by omega
      go_wp2
      go_returns
      exact ⟨ret_int HF.out, hb⟩
/-! 'compare': the order of maps, by points and then by images; what it lays in memory is known to the block. -/
def cmpI (x y : Int) : Int := if x < y then -1 else if y < x then 1 else 0
def cmpLs : List Int → List Int → Int
  | x :: xs, y :: ys => if cmpI x y = 0 then cmpLs xs ys else cmpI x y
  | _, _ => 0
def Mp.imgs (f : Mp) : List Int := [f.a, f.b, f.c, f.d, f.e]
def cmpM (f g : Mp) : Int := if cmpI f.p g.p = 0 then cmpLs f.imgs g.imgs else cmpI f.p g.p
/-- the order, plainly -/
def lexM (f g : Mp) : Prop := f.p < g.p ∨ (f.p = g.p ∧ (f.a < g.a ∨ (f.a = g.a ∧ (f.b < g.b ∨ (f.b = g.b ∧ (f.c < g.c ∨ (f.c = g.c ∧ (f.d < g.d ∨ (f.d = g.d ∧ f.e < g.e)))))))))
theorem cmpI_lt {x y : Int} : cmpI x y < 0 ↔ x < y := by
  unfold cmpI
  split
  · omega
  · split <;> omega
theorem cmpI_eq {x y : Int} : cmpI x y = 0 ↔ x = y := by
  unfold cmpI
  split
  · omega
  · split <;> omega
theorem cmpM_lt {f g : Mp} : cmpM f g < 0 ↔ lexM f g := by
  have key : ∀ (x y : Int) (r : Int) (P : Prop), (r < 0 ↔ P) → ((if cmpI x y = 0 then r else cmpI x y) < 0 ↔ (x < y ∨ (x = y ∧ P))) := fun x y r P h => by
    by_cases e : cmpI x y = 0
    · rw [if_pos e]
      have := cmpI_eq.1 e
      constructor
      · exact fun hr => .inr ⟨this, h.1 hr⟩
      · rintro (hlt | ⟨_, hP⟩)
        · omega
        · exact h.2 hP
    · rw [if_neg e]
      have hne : x ≠ y := fun he => e (cmpI_eq.2 he)
      constructor
      · exact fun hr => .inl (cmpI_lt.1 hr)
      · rintro (hlt | ⟨he, _⟩)
        · exact cmpI_lt.2 hlt
        · exact absurd he hne
  unfold cmpM lexM
  refine key _ _ _ _ ?_
  show cmpLs [f.a, f.b, f.c, f.d, f.e] [g.a, g.b, g.c, g.d, g.e] < 0 ↔ _
  refine key _ _ _ _ (key _ _ _ _ (key _ _ _ _ (key _ _ _ _ ?_)))
  show (if cmpI f.e g.e = 0 then 0 else cmpI f.e g.e) < 0 ↔ f.e < g.e
  by_cases e : cmpI f.e g.e = 0
  · rw [if_pos e]
    have := cmpI_eq.1 e
    omega
  · rw [if_neg e]
    exact cmpI_lt
theorem lexM_num {f g : Mp} {n : Int} (hf : MpN f n) (hg : MpN g n) : lexM f g ↔ f.num < g.num := by
  have h1 := hf.digs
  have h2 := hg.digs
  have e1 := hf.2
  have e2 := hg.2
  unfold lexM Mp.num
  omega
instance (f g : Mp) : Decidable (lexM f g) := by unfold lexM; infer_instance
theorem ltOf_cmpM (f g : Mp) : ltOf cmpM f g = decide (lexM f g) := by unfold ltOf; exact decide_eq_decide.2 cmpM_lt
theorem lexM_swo : SWO (ltOf cmpM) := by
  refine ⟨fun x => ?_, fun x y z h1 h2 => ?_, fun x y z h1 h2 => ?_⟩
  · rw [ltOf_cmpM]; exact decide_eq_false (by unfold lexM; omega)
  · rw [ltOf_cmpM] at *; simp only [decide_eq_true_eq] at *; unfold lexM at *; omega
  · rw [ltOf_cmpM] at *; simp only [decide_eq_false_iff_not] at *; unfold lexM at *; omega
set_option maxHeartbeats 1000000 in
theorem isNaNI_c (x : Int) (w : World) : Calls Tryz.prog 148 #[.int .i64 x] w fun e w' => e = .returned (.bool false) ∧ w' = w := by
  go_enter Tryz.func148, Tryz.ntmps148
  go_wp2
  go_returns
  exact ⟨rfl, rfl⟩
set_option maxHeartbeats 1000000 in
theorem CompareI_c (x y : Int) (w : World) : Calls Tryz.prog 132 #[.int .i64 x, .int .i64 y] w fun e w' => e = .returned (.int .i64 (cmpI x y)) ∧ w' = w := by
  by_cases h : x < y
  · have e : cmpI x y = -1 := by unfold cmpI; rw [if_pos h]
    rw [e]
    clear e
    go_enter Tryz.func132, Tryz.ntmps132
    go_wp2_with (go_at_call 148; refine (isNaNI_c _ _).mono ?_; rintro e w' ⟨rfl, rfl⟩)
    go_returns
    exact ⟨rfl, rfl⟩
  · by_cases h2 : y < x
    · have e : cmpI x y = 1 := by unfold cmpI; rw [if_neg h, if_pos h2]
      rw [e]
      clear e
      go_enter Tryz.func132, Tryz.ntmps132
      go_wp2_with (go_at_call 148; refine (isNaNI_c _ _).mono ?_; rintro e w' ⟨rfl, rfl⟩)
      go_returns
      exact ⟨rfl, rfl⟩
    · have e : cmpI x y = 0 := by unfold cmpI; rw [if_neg h, if_neg h2]
      rw [e]
      clear e
      go_enter Tryz.func132, Tryz.ntmps132
      go_wp2_with (go_at_call 148; refine (isNaNI_c _ _).mono ?_; rintro e w' ⟨rfl, rfl⟩)
      go_returns
      exact ⟨rfl, rfl⟩
/-- the first difference from place k on -/
theorem cmpLs_skip : ∀ (xs ys : List Int) (k : Nat), xs.length = ys.length → (∀ j x y, j < k → xs[j]? = some x → ys[j]? = some y → cmpI x y = 0) → cmpLs xs ys = cmpLs (xs.drop k) (ys.drop k)
  | [], [], k, _, _ => by simp
  | x :: xs, y :: ys, 0, _, _ => rfl
  | x :: xs, y :: ys, k + 1, hl, h => by
    have h0 := h 0 x y (by omega) rfl rfl
    show (if cmpI x y = 0 then cmpLs xs ys else cmpI x y) = _
    rw [if_pos h0]
    exact cmpLs_skip xs ys k (by simpa using hl) fun j a b hj ha hb => h (j + 1) a b (by omega) (by simpa using ha) (by simpa using hb)
set_option maxHeartbeats 1000000 in
theorem CompareIs_c (b o b' o' c c' : Nat) (xs ys : List Int) (w : World) (h : SeeInts w (some ⟨b, o, none⟩) xs) (h' : SeeInts w (some ⟨b', o', none⟩) ys) (hl : xs.length = ys.length) (hn : xs.length ≤ 2097152) :
    Calls Tryz.prog 133 #[.slice (some ⟨b, o, none⟩) xs.length c, .slice (some ⟨b', o', none⟩) ys.length c'] w fun e w' => e = .returned (.int .i64 (cmpLs xs ys)) ∧ w' = w := by
  obtain ⟨r, hr⟩ : ∃ r, r = cmpLs xs ys := ⟨_, rfl⟩
  rw [← hr]
  have HR := Lib.hid hr
  have HL := Lib.hid hl
  rw [← hl]
  clear hr hl
  go_enter Tryz.func133, Tryz.ntmps133
  go_wp2
  go_loopw [11] (fun i wr => ∃ k : Nat, i = .int .i64 k ∧ k ≤ xs.length ∧ Hid (∀ j x y, j < k → xs[j]? = some x → ys[j]? = some y → cmpI x y = 0) ∧ wr = w) (fun i _ => xs.length - (intOf i).toNat)
  case atStart => exact ⟨0, rfl, Nat.zero_le _, Lib.hid fun j _ _ hj => absurd hj (Nat.not_lt_zero _), rfl⟩
  case round =>
    obtain ⟨k, rfl, hk, hz, rfl⟩ := hrel
    by_cases hlt : k < xs.length
    · obtain ⟨b1, o1, x, e1, hx, q⟩ := h.at_ hlt
      obtain ⟨b2, o2, y, e2, hy, q'⟩ := h'.at_ (k := k) (by rw [← HL.out]; exact hlt)
      simp only [Option.some.injEq, Addr.mk.injEq, and_true] at e1 e2
      obtain ⟨rfl, rfl⟩ := e1
      obtain ⟨rfl, rfl⟩ := e2
      have l0 : (0 : Int) ≤ k := by omega
      have l1 : (k : Int) < xs.length := by omega
      have l2 : decide ((xs.length : Int) ≤ k) = false := decide_eq_false (by omega)
      have HX := Lib.hid hx
      have HY := Lib.hid hy
      clear hx hy
      by_cases hc : cmpI x y = 0
      · have d : (cmpI x y != 0) = false := by simpa using hc
        have HC := Lib.hid hc
        clear hc
        go_wp2_with (go_at_call 132; refine (CompareI_c _ _ _).mono ?_; rintro e w' ⟨rfl, rfl⟩)
        go_roundw
        case rel =>
          refine ⟨k + 1, by go_num, by omega, Lib.hid fun j a a' hj ha ha' => ?_, by first | rfl | trivial⟩
          rcases Nat.lt_succ_iff_lt_or_eq.1 hj with hj | rfl
          · exact hz.out j a a' hj ha ha'
          · rw [HX.out] at ha; rw [HY.out] at ha'
            obtain rfl := Option.some.inj ha
            obtain rfl := Option.some.inj ha'
            exact HC.out
        case measure => simp [intOf]; omega
      · have d : (cmpI x y != 0) = true := by simpa using hc
        have HC := Lib.hid hc
        clear hc
        go_wp2_with (go_at_call 132; refine (CompareI_c _ _ _).mono ?_; rintro e w' ⟨rfl, rfl⟩)
        go_returns
        refine ⟨ret_int ?_, rfl⟩
        rw [HR.out, cmpLs_skip xs ys k HL.out hz.out]
        obtain ⟨k1, e1⟩ := List.getElem?_eq_some_iff.1 HX.out
        obtain ⟨k2, e2⟩ := List.getElem?_eq_some_iff.1 HY.out
        rw [List.drop_eq_getElem_cons k1, List.drop_eq_getElem_cons k2, e1, e2]
        show _ = if cmpI x y = 0 then _ else _
        rw [if_neg HC.out]
    · obtain rfl : k = xs.length := by omega
      go_wp2
      go_returns
      refine ⟨ret_int ?_, rfl⟩
      rw [HR.out, cmpLs_skip xs ys xs.length HL.out hz.out, List.drop_length, HL.out, List.drop_length]
      rfl
/-! 'compare', and slices.SortFunc by it. -/
set_option maxHeartbeats 1000000 in
theorem OrI_c (b c : Nat) (x y : Int) (w : World) (hx : w.cell? ⟨b, 0, none⟩ = some (.int .i64 x)) (hy : w.cell? ⟨b, 1, none⟩ = some (.int .i64 y)) :
    Calls Tryz.prog 131 #[.slice (some ⟨b, 0, none⟩) 2 c] w fun e w' => e = .returned (.int .i64 (if x = 0 then y else x)) ∧ w' = w := by
  have h : SeeInts w (some ⟨b, 0, none⟩) [x, y] := fun _ => ⟨b, 0, rfl, fun k v hk => by
    match k, hk with
    | 0, hk => simp at hk; subst hk; exact hx
    | 1, hk => simp at hk; subst hk; exact hy⟩
  have hr : ∀ k, k ≤ 2 → (∀ j v, j < k → ([x, y] : List Int)[j]? = some v → v = 0) → ∀ v, ([x, y] : List Int)[k]? = some v → v ≠ 0 → v = if x = 0 then y else x := fun k hk hz v hv hn => by
    match k, hv with
    | 0, hv => simp at hv; subst hv; rw [if_neg hn]
    | 1, hv => simp at hv; subst hv; rw [if_pos (hz 0 x (by omega) rfl)]
  have hr2 : (∀ j v, j < 2 → ([x, y] : List Int)[j]? = some v → v = 0) → 0 = if x = 0 then y else x := fun hz => by
    rw [if_pos (hz 0 x (by omega) rfl), hz 1 y (by omega) rfl]
  have HR := Lib.hid hr
  have HR2 := Lib.hid hr2
  generalize (if x = 0 then y else x) = r at *
  have hl : ([x, y] : List Int).length = 2 := rfl
  generalize ([x, y] : List Int) = xs at *
  clear hr hr2 hx hy
  go_enter Tryz.func131, Tryz.ntmps131
  go_wp2
  go_loopw [8] (fun i wr => ∃ k : Nat, i = .int .i64 k ∧ k ≤ 2 ∧ Hid (∀ j v, j < k → xs[j]? = some v → v = 0) ∧ wr = w) (fun i _ => 2 - (intOf i).toNat)
  case atStart => exact ⟨0, rfl, Nat.zero_le _, Lib.hid fun j _ hj => absurd hj (Nat.not_lt_zero _), rfl⟩
  case round =>
    obtain ⟨k, rfl, hk, hz, rfl⟩ := hrel
    by_cases hlt : k < 2
    · obtain ⟨b1, o1, v, e1, hv, q⟩ := h.at_ (k := k) (by omega)
      simp only [Option.some.injEq, Addr.mk.injEq, and_true] at e1
      obtain ⟨rfl, rfl⟩ := e1
      rw [Nat.zero_add] at q
      have l0 : (0 : Int) ≤ k := by omega
      have l1 : (k : Int) < 2 := by omega
      have HV := Lib.hid hv
      clear hv
      by_cases hc : v = 0
      · have d : (v != 0) = false := by simpa using hc
        have HC := Lib.hid hc
        clear hc
        go_wp2
        go_roundw
        case rel =>
          refine ⟨k + 1, by go_num, by omega, Lib.hid fun j a hj ha => ?_, by first | rfl | trivial⟩
          rcases Nat.lt_succ_iff_lt_or_eq.1 hj with hj | rfl
          · exact hz.out j a hj ha
          · rw [HV.out] at ha
            obtain rfl := Option.some.inj ha
            exact HC.out
        case measure => simp [intOf]; omega
      · have d : (v != 0) = true := by simpa using hc
        have HC := Lib.hid hc
        clear hc
        go_wp2
        go_returns
        exact ⟨ret_int (HR.out k (by omega) hz.out v HV.out HC.out), rfl⟩
    · obtain rfl : k = 2 := by omega
      go_wp2
      go_returns
      exact ⟨ret_int (HR2.out hz.out), rfl⟩
/-- a map's cells -/
def encMp (f : Mp) : List Value := [.int .i64 f.p, .int .i64 f.a, .int .i64 f.b, .int .i64 f.c, .int .i64 f.d, .int .i64 f.e]
theorem cmpM_eq (f g : Mp) : cmpM f g = if cmpI f.p g.p = 0 then cmpLs f.imgs g.imgs else cmpI f.p g.p := rfl
theorem imgs_see {w : World} {b : Nat} {f : Mp} (h : MpAt w b 0 f) : SeeInts w (some ⟨b, 1, none⟩) f.imgs := fun _ => ⟨b, 1, rfl, fun k v hk => by
  obtain ⟨q0, q1, q2, q3, q4, q5⟩ := h.cells0
  match k, hk with
  | 0, hk => simp [Mp.imgs] at hk; subst hk; exact q1
  | 1, hk => simp [Mp.imgs] at hk; subst hk; exact q2
  | 2, hk => simp [Mp.imgs] at hk; subst hk; exact q3
  | 3, hk => simp [Mp.imgs] at hk; subst hk; exact q4
  | 4, hk => simp [Mp.imgs] at hk; subst hk; exact q5⟩
set_option maxHeartbeats 4000000 in
theorem compare_c (f g : Mp) (W : World) : Calls Tryz.prog 115 #[.agg #[.int .i64 f.p, .int .i64 f.a, .int .i64 f.b, .int .i64 f.c, .int .i64 f.d, .int .i64 f.e], .agg #[.int .i64 g.p, .int .i64 g.a, .int .i64 g.b, .int .i64 g.c, .int .i64 g.d, .int .i64 g.e]] W fun e w' => e = .returned (.int .i64 (cmpM f g)) ∧ ∃ q os', w' = grow (W.drewN q) os' := by
  obtain ⟨W1, hW1⟩ : ∃ W1, W1 = (W.alloc (Obj.cells #[.int .i64 f.p, .int .i64 f.a, .int .i64 f.b, .int .i64 f.c, .int .i64 f.d, .int .i64 f.e] 27)).alloc (Obj.cells #[.int .i64 g.p, .int .i64 g.a, .int .i64 g.b, .int .i64 g.c, .int .i64 g.d, .int .i64 g.e] 27) := ⟨_, rfl⟩
  have bf : MpBox W1 W.heap.size f := by rw [hW1]; exact (MpBox.new f 27 rfl).keep _
  have bg : MpBox W1 (W.heap.size + 1) g := by rw [hW1]; exact MpBox.new g 27 (by simp)
  obtain ⟨R, hR⟩ : ∃ R, R = cmpM f g := ⟨_, rfl⟩
  rw [← hR]
  rw [cmpM_eq] at hR
  go_enter Tryz.func115, Tryz.ntmps115
  go_wp2
  rw [← hW1]
  have HW1 := Lib.hid hW1
  clear hW1
  have sf := imgs_see bf.at
  have sg := imgs_see bg.at
  obtain ⟨f0, f1, f2, f3, f4, f5⟩ := bf.at.cells0
  obtain ⟨g0, g1, g2, g3, g4, g5⟩ := bg.at.cells0
  have lf : f.imgs.length = 5 := rfl
  have lg : g.imgs.length = 5 := rfl
  have hcs := CompareIs_c W.heap.size 1 (W.heap.size + 1) 1 5 5 f.imgs g.imgs
  rw [lf, lg] at hcs
  have HCS := Lib.hid hcs
  clear hcs
  have hor := OrI_c W1.heap.size 2 (cmpI f.p g.p) (cmpLs f.imgs g.imgs)
  rw [← hR] at hor
  have HOR := Lib.hid hor
  clear hor hR
  generalize hr : cmpLs f.imgs g.imgs = r at *
  refine wp_region_headS 10 (fun w' => w'.cell? ⟨W.heap.size, 0, none⟩ = some (.int .i64 f.p) ∧ w'.cell? ⟨W.heap.size + 1, 0, none⟩ = some (.int .i64 g.p)) (by kernel_rfl) (by kernel_rfl) ⟨f0, g0⟩ (fun hHeld => ?_)
  simp only [List.drop]
  refine headH_takeS (i := 0) (v := ?_) 5 rfl (by kernel_rfl) (by kernel_rfl) (fun _ _ _ h => h) (Or.inl ⟨by rfl, ?_⟩) hHeld ?_
  rotate_left
  · intro w hSw
    (try dsimp only at hSw)
    go_simp
    try with_reducible rfl
  try simp only [Act.put, List.setIfInBounds_toArray, List.set_cons_zero, List.set_cons_succ]
  refine headH_takeS (i := 1) (v := ?_) 6 rfl (by kernel_rfl) (by kernel_rfl) (fun _ _ _ h => h) (Or.inl ⟨by rfl, ?_⟩) hHeld ?_
  rotate_left
  · intro w hSw
    (try dsimp only at hSw)
    go_simp
    try with_reducible rfl
  try simp only [Act.put, List.setIfInBounds_toArray, List.set_cons_zero, List.set_cons_succ]
  refine headH_takeS (i := 2) (v := ?_) 7 rfl (by kernel_rfl) (by kernel_rfl) (fun _ _ _ h => h) (Or.inl ⟨by rfl, ?_⟩) hHeld ?_
  rotate_left
  · intro w hSw
    (try dsimp only at hSw)
    go_simp
    try with_reducible rfl
  try simp only [Act.put, List.setIfInBounds_toArray, List.set_cons_zero, List.set_cons_succ]
  refine headH_takeS (i := 3) (v := ?_) 8 rfl (by kernel_rfl) (by kernel_rfl) (fun _ _ _ h => h) (Or.inl ⟨by rfl, ?_⟩) hHeld ?_
  rotate_left
  · intro w hSw
    (try dsimp only at hSw)
    go_simp
    try with_reducible rfl
  try simp only [Act.put, List.setIfInBounds_toArray, List.set_cons_zero, List.set_cons_succ]
  refine headH_takeS (i := 5) (v := ?_) 10 rfl (by kernel_rfl) (by kernel_rfl) (fun _ _ _ h => h) (Or.inl ⟨by rfl, ?_⟩) hHeld ?_
  rotate_left
  · intro w hSw
    (try dsimp only at hSw)
    go_simp
    try with_reducible rfl
  try simp only [Act.put, List.setIfInBounds_toArray, List.set_cons_zero, List.set_cons_succ]
  refine headH_takeS (i := 6) (v := ?_) 11 rfl (by kernel_rfl) (by kernel_rfl) (fun _ _ _ h => h) (Or.inl ⟨by rfl, ?_⟩) hHeld ?_
  rotate_left
  · intro w hSw
    (try dsimp only at hSw)
    go_simp
    try with_reducible rfl
  try simp only [Act.put, List.setIfInBounds_toArray, List.set_cons_zero, List.set_cons_succ]
  refine headH_takeS (i := 7) (v := ?_) 12 rfl (by kernel_rfl) (by kernel_rfl) (fun _ _ _ h => h) (Or.inl ⟨by rfl, ?_⟩) hHeld ?_
  rotate_left
  · intro w hSw
    (try dsimp only at hSw)
    go_simp
    try with_reducible rfl
  try simp only [Act.put, List.setIfInBounds_toArray, List.set_cons_zero, List.set_cons_succ]
  refine headH_takeS (i := 8) (v := ?_) 13 rfl (by kernel_rfl) (by kernel_rfl) (fun _ _ _ h => h) (Or.inl ⟨by rfl, ?_⟩) hHeld ?_
  rotate_left
  · intro w hSw
    (try dsimp only at hSw)
    go_simp
    try with_reducible rfl
  try simp only [Act.put, List.setIfInBounds_toArray, List.set_cons_zero, List.set_cons_succ]
  refine headH_all (rs := [4]) (by kernel_rfl) (by kernel_rfl) (headH_cons rfl (fun K hK => ?_) headH_nil)
  go_simp
  go_at_call 132
  refine (CompareI_c _ _ _).mono ?_
  rintro e w2 ⟨rfl, rfl⟩
  try go_simp
  refine hK.out _ _ ⟨f0, g0⟩ (fun hHeldn => ?_)
  clear hK K hHeld
  have hHeld := hHeldn
  clear hHeldn
  try simp only [Act.put, List.setIfInBounds_toArray, List.set_cons_zero, List.set_cons_succ]
  refine headH_all (rs := [9]) (by kernel_rfl) (by kernel_rfl) (headH_cons rfl (fun K hK => ?_) headH_nil)
  go_simp
  go_at_call 133
  refine (HCS.out W1.drew sf sg rfl (by omega)).mono ?_
  rintro e w3 ⟨rfl, rfl⟩
  try go_simp
  refine hK.out _ _ ⟨f0, g0⟩ (fun hHeldn => ?_)
  clear hK K hHeld
  have hHeld := hHeldn
  clear hHeldn
  try simp only [Act.put, List.setIfInBounds_toArray, List.set_cons_zero, List.set_cons_succ]
  refine headH_tail (by kernel_rfl) ?_
  clear hHeld
  go_wp2_with fail
  refine (HOR.out _ (by simp [go_sem]) (by simp [go_sem])).mono ?_
  rintro e w4 ⟨rfl, rfl⟩
  go_wp2
  go_returns
  refine ⟨rfl, 1, #[Obj.cells #[.int .i64 f.p, .int .i64 f.a, .int .i64 f.b, .int .i64 f.c, .int .i64 f.d, .int .i64 f.e] 27] ++ #[Obj.cells #[.int .i64 g.p, .int .i64 g.a, .int .i64 g.b, .int .i64 g.c, .int .i64 g.d, .int .i64 g.e] 27] ++ #[Obj.cells #[.int .i64 (cmpI f.p g.p), .int .i64 r] 3], ?_⟩
  rw [HW1.out, alloc_eq_grow, alloc_eq_grow, alloc_eq_grow, grow_grow, grow_grow]
  rfl
/-- slices.SortFunc at rows of maps -/
theorem cmpLaysM (blk off size : Nat) (w : World) : CmpLays Tryz.prog 115 #[] encMp 6 cmpM blk off size w := fun _ _ _ _ x y => compare_c x y _
end Go.Proofs.YtilfamenadaboaaGreat
