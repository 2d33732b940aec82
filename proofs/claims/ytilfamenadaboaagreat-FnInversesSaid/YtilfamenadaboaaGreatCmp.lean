/- 'compare': the order of maps, by points and then by images; what it lays in memory is known to the block. No condition. -/
import Derived.Test.YtilfamenadaboaaGreatNumber
import Derived.Shelf.SlSortCmp.WholeK
namespace Go.Proofs.YtilfamenadaboaaGreat
set_option linter.unusedSimpArgs false
set_option linter.unusedVariables false
set_option linter.unusedSectionVars false
open Go.RowKit Go.Sort Go.Shelf
def cmpI (x y : Int) : Int := if x < y then -1 else if y < x then 1 else 0
def cmpLs : List Int → List Int → Int
  | x :: xs, y :: ys => if cmpI x y = 0 then cmpLs xs ys else cmpI x y
  | _, _ => 0
def Mp.imgs (f : Mp) : List Int := [f.a, f.b, f.c, f.d, f.e]
def cmpM (f g : Mp) : Int := if cmpI f.p g.p = 0 then cmpLs f.imgs g.imgs else cmpI f.p g.p
/-- the order, plainly -/
def lexM (f g : Mp) : Prop := f.p < g.p ∨ (f.p = g.p ∧ (f.a < g.a ∨ (f.a = g.a ∧ (f.b < g.b ∨ (f.b = g.b ∧ (f.c < g.c ∨ (f.c = g.c ∧ (f.d < g.d ∨ (f.d = g.d ∧ f.e < g.e)))))))))
theorem cmpI_lt {x y : Int} : cmpI x y < 0 ↔ x < y := by
  unfold cmpI
  split
  · omega
  · split <;> omega
theorem cmpI_eq {x y : Int} : cmpI x y = 0 ↔ x = y := by
  unfold cmpI
  split
  · omega
  · split <;> omega
theorem cmpM_lt {f g : Mp} : cmpM f g < 0 ↔ lexM f g := by
  have key : ∀ (x y : Int) (r : Int) (P : Prop), (r < 0 ↔ P) → ((if cmpI x y = 0 then r else cmpI x y) < 0 ↔ (x < y ∨ (x = y ∧ P))) := fun x y r P h => by
    by_cases e : cmpI x y = 0
    · rw [if_pos e]
      have := cmpI_eq.1 e
      constructor
      · exact fun hr => .inr ⟨this, h.1 hr⟩
      · rintro (hlt | ⟨_, hP⟩)
        · omega
        · exact h.2 hP
    · rw [if_neg e]
      have hne : x ≠ y := fun he => e (cmpI_eq.2 he)
      constructor
      · exact fun hr => .inl (cmpI_lt.1 hr)
      · rintro (hlt | ⟨he, _⟩)
        · exact cmpI_lt.2 hlt
        · exact absurd he hne
  unfold cmpM lexM
  refine key _ _ _ _ ?_
  show cmpLs [f.a, f.b, f.c, f.d, f.e] [g.a, g.b, g.c, g.d, g.e] < 0 ↔ _
  refine key _ _ _ _ (key _ _ _ _ (key _ _ _ _ (key _ _ _ _ ?_)))
  show (if cmpI f.e g.e = 0 then 0 else cmpI f.e g.e) < 0 ↔ f.e < g.e
  by_cases e : cmpI f.e g.e = 0
  · rw [if_pos e]
    have := cmpI_eq.1 e
    omega
  · rw [if_neg e]
    exact cmpI_lt
theorem lexM_num {f g : Mp} {n : Int} (hf : MpN f n) (hg : MpN g n) : lexM f g ↔ f.num < g.num := by
  have h1 := hf.digs
  have h2 := hg.digs
  have e1 := hf.2
  have e2 := hg.2
  unfold lexM Mp.num
  omega
instance (f g : Mp) : Decidable (lexM f g) := by unfold lexM; infer_instance
theorem ltOf_cmpM (f g : Mp) : ltOf cmpM f g = decide (lexM f g) := by unfold ltOf; exact decide_eq_decide.2 cmpM_lt
theorem lexM_swo : SWO (ltOf cmpM) := by
  refine ⟨fun x => ?_, fun x y z h1 h2 => ?_, fun x y z h1 h2 => ?_⟩
  · rw [ltOf_cmpM]; exact decide_eq_false (by unfold lexM; omega)
  · rw [ltOf_cmpM] at *; simp only [decide_eq_true_eq] at *; unfold lexM at *; omega
  · rw [ltOf_cmpM] at *; simp only [decide_eq_false_iff_not] at *; unfold lexM at *; omega
set_option maxHeartbeats 1000000 in
theorem isNaNI_c (x : Int) (w : World) : Calls Tryz.prog 148 #[.int .i64 x] w fun e w' => e = .returned (.bool false) ∧ w' = w := by
  go_enter Tryz.func148, Tryz.ntmps148
  go_wp2
  go_returns
  exact ⟨rfl, rfl⟩
set_option maxHeartbeats 1000000 in
theorem CompareI_c (x y : Int) (w : World) : Calls Tryz.prog 132 #[.int .i64 x, .int .i64 y] w fun e w' => e = .returned (.int .i64 (cmpI x y)) ∧ w' = w := by
  by_cases h : x < y
  · have e : cmpI x y = -1 := by unfold cmpI; rw [if_pos h]
    rw [e]
    clear e
    go_enter Tryz.func132, Tryz.ntmps132
    go_wp2_with (go_at_call 148; refine (isNaNI_c _ _).mono ?_; rintro e w' ⟨rfl, rfl⟩)
    go_returns
    exact ⟨rfl, rfl⟩
  · by_cases h2 : y < x
    · have e : cmpI x y = 1 := by unfold cmpI; rw [if_neg h, if_pos h2]
      rw [e]
      clear e
      go_enter Tryz.func132, Tryz.ntmps132
      go_wp2_with (go_at_call 148; refine (isNaNI_c _ _).mono ?_; rintro e w' ⟨rfl, rfl⟩)
      go_returns
      exact ⟨rfl, rfl⟩
    · have e : cmpI x y = 0 := by unfold cmpI; rw [if_neg h, if_neg h2]
      rw [e]
      clear e
      go_enter Tryz.func132, Tryz.ntmps132
      go_wp2_with (go_at_call 148; refine (isNaNI_c _ _).mono ?_; rintro e w' ⟨rfl, rfl⟩)
      go_returns
      exact ⟨rfl, rfl⟩
/-- the first difference from place k on -/
theorem cmpLs_skip : ∀ (xs ys : List Int) (k : Nat), xs.length = ys.length → (∀ j x y, j < k → xs[j]? = some x → ys[j]? = some y → cmpI x y = 0) → cmpLs xs ys = cmpLs (xs.drop k) (ys.drop k)
  | [], [], k, _, _ => by simp
  | x :: xs, y :: ys, 0, _, _ => rfl
  | x :: xs, y :: ys, k + 1, hl, h => by
    have h0 := h 0 x y (by omega) rfl rfl
    show (if cmpI x y = 0 then cmpLs xs ys else cmpI x y) = _
    rw [if_pos h0]
    exact cmpLs_skip xs ys k (by simpa using hl) fun j a b hj ha hb => h (j + 1) a b (by omega) (by simpa using ha) (by simpa using hb)
set_option maxHeartbeats 1000000 in
theorem CompareIs_c (b o b' o' c c' : Nat) (xs ys : List Int) (w : World) (h : SeeInts w (some ⟨b, o, none⟩) xs) (h' : SeeInts w (some ⟨b', o', none⟩) ys) (hl : xs.length = ys.length) (hn : xs.length ≤ 2097152) :
    Calls Tryz.prog 133 #[.slice (some ⟨b, o, none⟩) xs.length c, .slice (some ⟨b', o', none⟩) ys.length c'] w fun e w' => e = .returned (.int .i64 (cmpLs xs ys)) ∧ w' = w := by
  obtain ⟨r, hr⟩ : ∃ r, r = cmpLs xs ys := ⟨_, rfl⟩
  rw [← hr]
  have HR := Lib.hid hr
  have HL := Lib.hid hl
  rw [← hl]
  clear hr hl
  go_enter Tryz.func133, Tryz.ntmps133
  go_wp2
  go_loopw [11] (fun i wr => ∃ k : Nat, i = .int .i64 k ∧ k ≤ xs.length ∧ Hid (∀ j x y, j < k → xs[j]? = some x → ys[j]? = some y → cmpI x y = 0) ∧ wr = w) (fun i _ => xs.length - (intOf i).toNat)
  case atStart => exact ⟨0, rfl, Nat.zero_le _, Lib.hid fun j _ _ hj => absurd hj (Nat.not_lt_zero _), rfl⟩
  case round =>
    obtain ⟨k, rfl, hk, hz, rfl⟩ := hrel
    by_cases hlt : k < xs.length
    · obtain ⟨b1, o1, x, e1, hx, q⟩ := h.at_ hlt
      obtain ⟨b2, o2, y, e2, hy, q'⟩ := h'.at_ (k := k) (by rw [← HL.out]; exact hlt)
      simp only [Option.some.injEq, Addr.mk.injEq, and_true] at e1 e2
      obtain ⟨rfl, rfl⟩ := e1
      obtain ⟨rfl, rfl⟩ := e2
      have l0 : (0 : Int) ≤ k := by omega
      have l1 : (k : Int) < xs.length := by omega
      have l2 : decide ((xs.length : Int) ≤ k) = false := decide_eq_false (by omega)
      have HX := Lib.hid hx
      have HY := Lib.hid hy
      clear hx hy
      by_cases hc : cmpI x y = 0
      · have d : (cmpI x y != 0) = false := by simpa using hc
        have HC := Lib.hid hc
        clear hc
        go_wp2_with (go_at_call 132; refine (CompareI_c _ _ _).mono ?_; rintro e w' ⟨rfl, rfl⟩)
        go_roundw
        case rel =>
          refine ⟨k + 1, by go_num, by omega, Lib.hid fun j a a' hj ha ha' => ?_, by first | rfl | trivial⟩
          rcases Nat.lt_succ_iff_lt_or_eq.1 hj with hj | rfl
          · exact hz.out j a a' hj ha ha'
          · rw [HX.out] at ha; rw [HY.out] at ha'
            obtain rfl := Option.some.inj ha
            obtain rfl := Option.some.inj ha'
            exact HC.out
        case measure => simp [intOf]; omega
      · have d : (cmpI x y != 0) = true := by simpa using hc
        have HC := Lib.hid hc
        clear hc
        go_wp2_with (go_at_call 132; refine (CompareI_c _ _ _).mono ?_; rintro e w' ⟨rfl, rfl⟩)
        go_returns
        refine ⟨ret_int ?_, rfl⟩
        rw [HR.out, cmpLs_skip xs ys k HL.out hz.out]
        obtain ⟨k1, e1⟩ := List.getElem?_eq_some_iff.1 HX.out
        obtain ⟨k2, e2⟩ := List.getElem?_eq_some_iff.1 HY.out
        rw [List.drop_eq_getElem_cons k1, List.drop_eq_getElem_cons k2, e1, e2]
        show _ = if cmpI x y = 0 then _ else _
        rw [if_neg HC.out]
    · obtain rfl : k = xs.length := by omega
      go_wp2
      go_returns
      refine ⟨ret_int ?_, rfl⟩
      rw [HR.out, cmpLs_skip xs ys xs.length HL.out hz.out, List.drop_length, HL.out, List.drop_length]
      rfl
end Go.Proofs.YtilfamenadaboaaGreat
