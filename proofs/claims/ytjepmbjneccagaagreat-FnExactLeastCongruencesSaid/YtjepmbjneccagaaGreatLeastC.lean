/- 'isFiner', 'l06Finer': whether classes are finer; 'LeastCongruences', on both sides. No condition. -/
import Derived.Test.YtjepmbjneccagaaGreatPairL
namespace Go.Proofs.YtjepmbjneccagaaGreat
set_option linter.unusedSimpArgs false
set_option linter.unusedVariables false
set_option linter.unusedSectionVars false
open Go.RowKit
/-- finer, or equal -/
def FinerN (N : Nat) (a b : List Int) : Prop := ∀ i k, i < N → k < N → cls a i = cls a k → cls b i = cls b k
open Classical in
noncomputable def finB (N : Nat) (a b : List Int) : Bool := decide (FinerN N a b)
theorem finB_false {N : Nat} {a b : List Int} (h : ¬ FinerN N a b) : finB N a b = false := by unfold finB; simp [h]
theorem finB_true {N : Nat} {a b : List Int} (h : FinerN N a b) : finB N a b = true := by unfold finB; simp [h]
theorem finB_iff {N : Nat} {a b : List Int} : finB N a b = true ↔ FinerN N a b := by unfold finB; simp
theorem finer_first {N : Nat} {a b : List Int} (hl : a.length = N) (h : ∀ i, i < N → ∃ f, f < N ∧ cls a f = cls a i ∧ fidx (fun x => decide (cls a i = x)) a = (f : Int) ∧ cls b f = cls b i) : FinerN N a b := fun i k hi hk e => by
  obtain ⟨f, _, _, h1, h2⟩ := h i hi
  obtain ⟨g, _, _, h3, h4⟩ := h k hk
  rw [← e, h1] at h3
  have : f = g := by omega
  subst this
  rw [← h2, ← h4]
theorem fidx_cls {N : Nat} {a : List Int} (hl : a.length = N) {i : Nat} (hi : i < N) : ∃ f : Nat, fidx (fun x => decide (cls a i = x)) a = (f : Int) ∧ f < N ∧ cls a f = cls a i := by
  unfold fidx
  cases hf : a.findIdx? (fun x => decide (cls a i = x)) with
  | none =>
    have := List.findIdx?_eq_none_iff.1 hf (cls a i) (List.mem_of_getElem? (cls_get (by omega)))
    simp at this
  | some j =>
    obtain ⟨h1, h2, _⟩ := List.findIdx?_eq_some_iff_getElem.1 hf
    refine ⟨j, rfl, by omega, ?_⟩
    have h3 := cls_get (cl := a) (i := j) h1
    rw [List.getElem?_eq_getElem h1] at h3
    rw [Option.some.inj h3] at h2
    exact (of_decide_eq_true h2).symm
set_option maxHeartbeats 2000000 in
theorem isFiner_c {A B : Option Addr} {c d N : Nat} {a b : List Int} (w : World) (ha : SeeInts w A a) (hb : SeeInts w B b) (la : a.length = N) (lb : b.length = N) (hN : N ≤ 300) :
    Calls Tryz.prog 50 #[.slice A N c, .slice B N d] w fun e w' => e = .returned (.bool (finB N a b)) ∧ Below w.heap.size w w' := by
  have HIX := Lib.hid (fun (W : World) (hW : Below w.heap.size w W) v => (la ▸ IndexI_c A c a v W (ha.below hW) (by omega) : Calls Tryz.prog 81 #[.slice A N c, .int .i64 v] W fun e w' => e = .returned (.int .i64 (fidx (fun x => decide (v = x)) a)) ∧ Below W.heap.size W w'))
  obtain ⟨r, hr⟩ : ∃ r, r = finB N a b := ⟨_, rfl⟩
  rw [← hr]
  have HR := Lib.hid hr
  have LA := Lib.hid la
  have HA := Lib.hid ha
  have HB := Lib.hid hb
  have LB := Lib.hid lb
  clear hr la lb ha hb
  go_enter Tryz.func50, Tryz.ntmps50
  go_wp2
  go_loopw [9] (fun iv wr => ∃ i : Nat, i ≤ N ∧ iv = .int .i64 i ∧ Hid (∀ j, j < i → ∃ f, f < N ∧ cls a f = cls a j ∧ fidx (fun x => decide (cls a j = x)) a = (f : Int) ∧ cls b f = cls b j) ∧ Below w.heap.size w wr) (fun iv _ => N - (intOf iv).toNat)
  case atStart => exact ⟨0, Nat.zero_le _, rfl, Lib.hid (fun j h => by omega), Below.refl _ _⟩
  case round =>
    obtain ⟨i, hi, rfl, hE, hbw⟩ := hrel
    have i0 : (0 : Int) ≤ i := by omega
    by_cases hlt : i < N
    · have i1 : (i : Int) < N := by omega
      obtain ⟨bA, oA, rfl, gA⟩ := (HA.out.below hbw).cls (by rw [LA.out]; omega)
      obtain ⟨bB, oB, rfl, gB⟩ := (HB.out.below hbw).cls (by rw [LB.out]; omega)
      obtain ⟨f, ef, lf, cf⟩ := fidx_cls LA.out hlt
      have qa := gA i (by rw [LA.out]; exact hlt)
      have q1 := gB i (by rw [LB.out]; exact hlt)
      have q2 := gB f (by rw [LB.out]; exact lf)
      have hix := HIX.out wr.drew (hbw.trans ((Below.drew (Below.refl _ wr)).mono hbw.size)) (cls a i)
      rw [ef] at hix
      have HX := Lib.hid hix
      have f0 : (0 : Int) ≤ f := by omega
      have f1 : (f : Int) < N := by omega
      have HN1 := Lib.hid (show cls b f = cls b i → ∀ j, j < i + 1 → ∃ f, f < N ∧ cls a f = cls a j ∧ fidx (fun x => decide (cls a j = x)) a = (f : Int) ∧ cls b f = cls b j from fun e j hj => by
        by_cases e' : j = i
        · subst e'; exact ⟨f, lf, cf, ef, e⟩
        · exact hE.out j (by omega))
      have HN2 := Lib.hid (show cls b f ≠ cls b i → r = false from fun e => by
        rw [HR.out]
        exact finB_false fun h => e (h f i lf hlt cf))
      clear hix ef cf gA gB
      generalize cls a i = v at *
      generalize cls b i = x at *
      generalize cls b f = y at *
      by_cases e : y = x
      · have d : (y != x) = false := by simpa using e
        have HN := Lib.hid (HN1.out e)
        clear e HN1 HN2
        go_wp2
        refine wp_region_headS 10 (fun w' => w'.cell? ⟨bB, oB + i, none⟩ = some (.int .i64 x) ∧ w'.cell? ⟨bB, oB + f, none⟩ = some (.int .i64 y)) (by kernel_rfl) (by kernel_rfl) ⟨q1, q2⟩ (fun hHeld => ?_)
        simp only [List.drop]
        refine headH_takeS (i := 0) (v := ?_) 14 rfl (by kernel_rfl) (by kernel_rfl) (fun _ _ _ h => h) (Or.inl ⟨by rfl, ?_⟩) hHeld ?_
        rotate_left
        · intro w hSw
          (try dsimp only at hSw)
          go_simp
          try with_reducible rfl
        try simp only [Act.put, List.setIfInBounds_toArray, List.set_cons_zero, List.set_cons_succ]
        refine headH_takeS (i := 1) (v := ?_) 15 rfl (by kernel_rfl) (by kernel_rfl) (fun _ _ _ h => h) (Or.inl ⟨by rfl, ?_⟩) hHeld ?_
        rotate_left
        · intro w hSw
          (try dsimp only at hSw)
          go_simp
          try with_reducible rfl
        try simp only [Act.put, List.setIfInBounds_toArray, List.set_cons_zero, List.set_cons_succ]
        refine headH_takeS (i := 2) (v := ?_) 16 rfl (by kernel_rfl) (by kernel_rfl) (fun _ _ _ h => h) (Or.inl ⟨by rfl, ?_⟩) hHeld ?_
        rotate_left
        · intro w hSw
          (try dsimp only at hSw)
          go_simp
          try with_reducible rfl
        try simp only [Act.put, List.setIfInBounds_toArray, List.set_cons_zero, List.set_cons_succ]
        refine headH_takeS (i := 6) (v := ?_) 20 rfl (by kernel_rfl) (by kernel_rfl) (fun _ _ _ h => h) (Or.inl ⟨by rfl, ?_⟩) hHeld ?_
        rotate_left
        · intro w hSw
          (try dsimp only at hSw)
          go_simp
          try with_reducible rfl
        try simp only [Act.put, List.setIfInBounds_toArray, List.set_cons_zero, List.set_cons_succ]
        refine headH_takeS (i := 7) (v := ?_) 21 rfl (by kernel_rfl) (by kernel_rfl) (fun _ _ _ h => h) (Or.inl ⟨by rfl, ?_⟩) hHeld ?_
        rotate_left
        · intro w hSw
          (try dsimp only at hSw)
          go_simp
          try with_reducible rfl
        try simp only [Act.put, List.setIfInBounds_toArray, List.set_cons_zero, List.set_cons_succ]
        refine headH_takeS (i := 8) (v := ?_) 22 rfl (by kernel_rfl) (by kernel_rfl) (fun _ _ _ h => h) (Or.inl ⟨by rfl, ?_⟩) hHeld ?_
        rotate_left
        · intro w hSw
          (try dsimp only at hSw)
          go_simp
          try with_reducible rfl
        try simp only [Act.put, List.setIfInBounds_toArray, List.set_cons_zero, List.set_cons_succ]
        refine headH_takeS (i := 9) (v := ?_) 23 rfl (by kernel_rfl) (by kernel_rfl) (fun _ _ _ h => h) (Or.inl ⟨by rfl, ?_⟩) hHeld ?_
        rotate_left
        · intro w hSw
          (try dsimp only at hSw)
          go_simp
          try with_reducible rfl
        try simp only [Act.put, List.setIfInBounds_toArray, List.set_cons_zero, List.set_cons_succ]
        refine headH_all (rs := [3]) (by kernel_rfl) (by kernel_rfl) (headH_cons rfl (fun K hK => ?_) headH_nil)
        go_simp
        refine HX.out.mono ?_
        rintro e w6 ⟨rfl, hb6⟩
        refine hK.out _ _ ⟨bcell hb6 q1, bcell hb6 q2⟩ (fun hHeldn => ?_)
        clear hK K hHeld
        have hHeld := hHeldn
        clear hHeldn
        try simp only [Act.put, List.setIfInBounds_toArray, List.set_cons_zero, List.set_cons_succ]
        refine headH_takeS (i := 4) (v := ?_) 18 rfl (by kernel_rfl) (by kernel_rfl) (fun _ _ _ h => h) (Or.inl ⟨by rfl, ?_⟩) hHeld ?_
        rotate_left
        · intro w hSw
          (try dsimp only at hSw)
          go_simp
          try with_reducible rfl
        try simp only [Act.put, List.setIfInBounds_toArray, List.set_cons_zero, List.set_cons_succ]
        refine headH_takeS (i := 5) (v := ?_) 19 rfl (by kernel_rfl) (by kernel_rfl) (fun _ _ _ h => h) (Or.inl ⟨by rfl, ?_⟩) hHeld ?_
        rotate_left
        · intro w hSw
          (try dsimp only at hSw)
          go_simp
          try with_reducible rfl
        try simp only [Act.put, List.setIfInBounds_toArray, List.set_cons_zero, List.set_cons_succ]
        refine headH_tail (by kernel_rfl) ?_
        clear hHeld
        replace hb6 := bdr hb6
        go_wp2
        go_roundw
        case rel => exact ⟨i + 1, by omega, by go_num, HN, btrans hbw hb6⟩
        case measure => simp [intOf]; omega
      · have d : (y != x) = true := by simpa using e
        have HN := Lib.hid (HN2.out e)
        clear e HN1 HN2
        go_wp2
        refine wp_region_headS 10 (fun w' => w'.cell? ⟨bB, oB + i, none⟩ = some (.int .i64 x) ∧ w'.cell? ⟨bB, oB + f, none⟩ = some (.int .i64 y)) (by kernel_rfl) (by kernel_rfl) ⟨q1, q2⟩ (fun hHeld => ?_)
        simp only [List.drop]
        refine headH_takeS (i := 0) (v := ?_) 14 rfl (by kernel_rfl) (by kernel_rfl) (fun _ _ _ h => h) (Or.inl ⟨by rfl, ?_⟩) hHeld ?_
        rotate_left
        · intro w hSw
          (try dsimp only at hSw)
          go_simp
          try with_reducible rfl
        try simp only [Act.put, List.setIfInBounds_toArray, List.set_cons_zero, List.set_cons_succ]
        refine headH_takeS (i := 1) (v := ?_) 15 rfl (by kernel_rfl) (by kernel_rfl) (fun _ _ _ h => h) (Or.inl ⟨by rfl, ?_⟩) hHeld ?_
        rotate_left
        · intro w hSw
          (try dsimp only at hSw)
          go_simp
          try with_reducible rfl
        try simp only [Act.put, List.setIfInBounds_toArray, List.set_cons_zero, List.set_cons_succ]
        refine headH_takeS (i := 2) (v := ?_) 16 rfl (by kernel_rfl) (by kernel_rfl) (fun _ _ _ h => h) (Or.inl ⟨by rfl, ?_⟩) hHeld ?_
        rotate_left
        · intro w hSw
          (try dsimp only at hSw)
          go_simp
          try with_reducible rfl
        try simp only [Act.put, List.setIfInBounds_toArray, List.set_cons_zero, List.set_cons_succ]
        refine headH_takeS (i := 6) (v := ?_) 20 rfl (by kernel_rfl) (by kernel_rfl) (fun _ _ _ h => h) (Or.inl ⟨by rfl, ?_⟩) hHeld ?_
        rotate_left
        · intro w hSw
          (try dsimp only at hSw)
          go_simp
          try with_reducible rfl
        try simp only [Act.put, List.setIfInBounds_toArray, List.set_cons_zero, List.set_cons_succ]
        refine headH_takeS (i := 7) (v := ?_) 21 rfl (by kernel_rfl) (by kernel_rfl) (fun _ _ _ h => h) (Or.inl ⟨by rfl, ?_⟩) hHeld ?_
        rotate_left
        · intro w hSw
          (try dsimp only at hSw)
          go_simp
          try with_reducible rfl
        try simp only [Act.put, List.setIfInBounds_toArray, List.set_cons_zero, List.set_cons_succ]
        refine headH_takeS (i := 8) (v := ?_) 22 rfl (by kernel_rfl) (by kernel_rfl) (fun _ _ _ h => h) (Or.inl ⟨by rfl, ?_⟩) hHeld ?_
        rotate_left
        · intro w hSw
          (try dsimp only at hSw)
          go_simp
          try with_reducible rfl
        try simp only [Act.put, List.setIfInBounds_toArray, List.set_cons_zero, List.set_cons_succ]
        refine headH_takeS (i := 9) (v := ?_) 23 rfl (by kernel_rfl) (by kernel_rfl) (fun _ _ _ h => h) (Or.inl ⟨by rfl, ?_⟩) hHeld ?_
        rotate_left
        · intro w hSw
          (try dsimp only at hSw)
          go_simp
          try with_reducible rfl
        try simp only [Act.put, List.setIfInBounds_toArray, List.set_cons_zero, List.set_cons_succ]
        refine headH_all (rs := [3]) (by kernel_rfl) (by kernel_rfl) (headH_cons rfl (fun K hK => ?_) headH_nil)
        go_simp
        refine HX.out.mono ?_
        rintro e w6 ⟨rfl, hb6⟩
        refine hK.out _ _ ⟨bcell hb6 q1, bcell hb6 q2⟩ (fun hHeldn => ?_)
        clear hK K hHeld
        have hHeld := hHeldn
        clear hHeldn
        try simp only [Act.put, List.setIfInBounds_toArray, List.set_cons_zero, List.set_cons_succ]
        refine headH_takeS (i := 4) (v := ?_) 18 rfl (by kernel_rfl) (by kernel_rfl) (fun _ _ _ h => h) (Or.inl ⟨by rfl, ?_⟩) hHeld ?_
        rotate_left
        · intro w hSw
          (try dsimp only at hSw)
          go_simp
          try with_reducible rfl
        try simp only [Act.put, List.setIfInBounds_toArray, List.set_cons_zero, List.set_cons_succ]
        refine headH_takeS (i := 5) (v := ?_) 19 rfl (by kernel_rfl) (by kernel_rfl) (fun _ _ _ h => h) (Or.inl ⟨by rfl, ?_⟩) hHeld ?_
        rotate_left
        · intro w hSw
          (try dsimp only at hSw)
          go_simp
          try with_reducible rfl
        try simp only [Act.put, List.setIfInBounds_toArray, List.set_cons_zero, List.set_cons_succ]
        refine headH_tail (by kernel_rfl) ?_
        clear hHeld
        replace hb6 := bdr hb6
        go_wp2
        go_returns
        rw [HN.out]
        exact ⟨rfl, btrans hbw hb6⟩
    · have ei : i = N := by omega
      subst ei
      have nlt : ¬ (i : Int) < i := by omega
      have HT := Lib.hid (show r = true by rw [HR.out]; exact finB_true (finer_first LA.out hE.out))
      go_wp2
      go_returns
      rw [HT.out]
      exact ⟨rfl, hbw⟩
/-! 'l06Finer': whether classes are finer than others, or equal. -/
/-- no two members of one class of the first lie in two of the second, below i and for i below k -/
def FinTo (a b : List Int) (i k : Nat) : Prop := (∀ p q, p < i → q < p → cls a p = cls a q → cls b p = cls b q) ∧ ∀ q, q < k → cls a i = cls a q → cls b i = cls b q
theorem FinTo.all {N : Nat} {a b : List Int} (h : FinTo a b N 0) : FinerN N a b := fun i k hi hk e => by
  rcases Nat.lt_trichotomy i k with h1 | h1 | h1
  · exact (h.1 k i hk h1 e.symm).symm
  · rw [h1]
  · exact h.1 i k hi h1 e
theorem FinTo.up {a b : List Int} {i : Nat} (h : FinTo a b i i) : FinTo a b (i + 1) 0 := ⟨fun p q hp hq e => by
  by_cases e' : p = i
  · subst e'; exact h.2 q hq e
  · exact h.1 p q (by omega) hq e, fun q hq => absurd hq (by omega)⟩
theorem FinTo.step {a b : List Int} {i k : Nat} (h : FinTo a b i k) (e : cls a i = cls a k → cls b i = cls b k) : FinTo a b i (k + 1) := ⟨h.1, fun q hq => by
  by_cases e' : q = k
  · subst e'; exact e
  · exact h.2 q (by omega)⟩
set_option maxHeartbeats 4000000 in
theorem l06Finer_c {A B : Option Addr} {c d N : Nat} {a b : List Int} (w : World) (ha : SeeInts w A a) (hb : SeeInts w B b) (la : a.length = N) (lb : b.length = N) (hN : N ≤ 300) :
    Calls Tryz.prog 46 #[.slice A N c, .slice B N d] w fun e w' => e = .returned (.bool (finB N a b)) ∧ Below w.heap.size w w' := by
  obtain ⟨r, hr⟩ : ∃ r, r = finB N a b := ⟨_, rfl⟩
  rw [← hr]
  have HR := Lib.hid hr
  have LA := Lib.hid la
  have HA := Lib.hid ha
  have HB := Lib.hid hb
  have LB := Lib.hid lb
  clear hr la lb ha hb
  go_enter Tryz.func46, Tryz.ntmps46
  go_wp2
  go_loopw [5] (fun iv wr => ∃ i : Nat, i ≤ N ∧ iv = .int .i64 i ∧ Hid (FinTo a b i 0) ∧ Below w.heap.size w wr) (fun iv _ => N - (intOf iv).toNat)
  case atStart => exact ⟨0, Nat.zero_le _, rfl, Lib.hid ⟨fun p q hp => absurd hp (by omega), fun q hq => absurd hq (by omega)⟩, Below.refl _ _⟩
  case round =>
    obtain ⟨i, hi, rfl, hE, hbw⟩ := hrel
    have i0 : (0 : Int) ≤ i := by omega
    by_cases hlt : i < N
    · have i1 : (i : Int) < N := by omega
      go_wp2
      go_loopw [6] (fun kv wk => ∃ k : Nat, k ≤ i ∧ kv = .int .i64 k ∧ Hid (FinTo a b i k) ∧ Below w.heap.size w wk) (fun kv _ => i - (intOf kv).toNat)
      case atStart => exact ⟨0, Nat.zero_le _, rfl, hE, hbw⟩
      case round =>
        clear hE hbw
        obtain ⟨k, hk, rfl, hE, hbw⟩ := hrel
        have k0 : (0 : Int) ≤ k := by omega
        by_cases hlk : k < i
        · have k1 : (k : Int) < i := by omega
          have k2 : (k : Int) < N := by omega
          obtain ⟨bA, oA, rfl, gA⟩ := HA.out.cls (by rw [LA.out]; omega)
          obtain ⟨bB, oB, rfl, gB⟩ := HB.out.cls (by rw [LB.out]; omega)
          have q1 := bwc hbw (gA i (by rw [LA.out]; exact hlt))
          have q2 := bwc hbw (gA k (by rw [LA.out]; omega))
          have q3 := bwc hbw (gB i (by rw [LB.out]; exact hlt))
          have q4 := bwc hbw (gB k (by rw [LB.out]; omega))
          have HNo := Lib.hid (show cls a i = cls a k → cls b i ≠ cls b k → r = false from fun e1 e2 => by
            rw [HR.out]
            exact finB_false fun h => e2 (h i k hlt (by omega) e1))
          have HYes := Lib.hid (show (cls a i = cls a k → cls b i = cls b k) → FinTo a b i (k + 1) from fun e => hE.out.step e)
          clear gA gB
          generalize cls a i = x1 at *
          generalize cls a k = x2 at *
          generalize cls b i = x3 at *
          generalize cls b k = x4 at *
          by_cases e1 : x1 = x2
          · have d1 : (x1 == x2) = true := by simpa using e1
            by_cases e2 : x3 = x4
            · have d2 : (x3 != x4) = false := by simpa using e2
              have HN := Lib.hid (HYes.out fun _ => e2)
              clear e1 e2 HNo HYes
              go_wp2
              refine wp_region_bw (by kernel_rfl) (by kernel_rfl) ?_
              repeat go_big_quiet_step (fail)
              refine wpQuiet_nil ?_
              rintro w2 ⟨⟨w2x, hb2⟩, rfl⟩
              replace hbw := btrans hbw hb2
              go_wp2
              go_roundw
              case rel => exact ⟨k + 1, by omega, by go_num, HN, hbw⟩
              case measure => simp [intOf]; omega
            · have d2 : (x3 != x4) = true := by simpa using e2
              have HN := Lib.hid (HNo.out e1 e2)
              clear e1 e2 HNo HYes
              go_wp2
              refine wp_region_bw (by kernel_rfl) (by kernel_rfl) ?_
              repeat go_big_quiet_step (fail)
              refine wpQuiet_nil ?_
              rintro w2 ⟨⟨w2x, hb2⟩, rfl⟩
              replace hbw := btrans hbw hb2
              go_wp2
              go_returns
              rw [HN.out]
              exact ⟨rfl, hbw⟩
          · have d1 : (x1 == x2) = false := by simpa using e1
            have HN := Lib.hid (HYes.out fun e => absurd e e1)
            clear e1 HNo HYes
            go_wp2
            refine wp_region_bw (by kernel_rfl) (by kernel_rfl) ?_
            repeat go_big_quiet_step (fail)
            refine wpQuiet_nil ?_
            rintro w2 ⟨⟨w2x, hb2⟩, rfl⟩
            replace hbw := btrans hbw hb2
            go_wp2
            go_roundw
            case rel => exact ⟨k + 1, by omega, by go_num, HN, hbw⟩
            case measure => simp [intOf]; omega
        · have ek : k = i := by omega
          subst ek
          have nlt : ¬ (k : Int) < k := by omega
          have HN := Lib.hid hE.out.up
          go_wp2
          go_roundw
          case rel => exact ⟨k + 1, by omega, by go_num, HN, hbw⟩
          case measure => simp [intOf]; omega
    · have ei : i = N := by omega
      subst ei
      have nlt : ¬ (i : Int) < i := by omega
      have HT := Lib.hid (show r = true by rw [HR.out]; exact finB_true hE.out.all)
      go_wp2
      go_returns
      rw [HT.out]
      exact ⟨rfl, hbw⟩
/-! 'LeastCongruences' of the program: those than which no other is finer. -/
/-- another one that is finer -/
noncomputable def finP (N : Nat) (a b : List Int) : Bool := !decide (a = b) && finB N b a
noncomputable def leastP (N : Nat) (all : List (List Int)) (a : List Int) : Bool := !all.any (finP N a)
noncomputable def leastL (N : Nat) (all : List (List Int)) : List (List Int) := all.filter (leastP N all)
noncomputable def RLeastCongruences (ms : List Mp) : List (List Int) × Int := if pcC 30 ms = 0 then (leastL (elsOf ms).length (pairL (elsOf ms).length (mpl (elsOf ms))), 0) else ([], pcC 30 ms)
theorem RLeastCongruences_len (ms : List Mp) : (RLeastCongruences ms).1.length ≤ 1000 ∧ (∀ x ∈ (RLeastCongruences ms).1, x.length ≤ 2097152) ∧ total (RLeastCongruences ms).1 ≤ 4294967296 := by
  unfold RLeastCongruences
  split
  · rename_i h
    have hN := (TabR.of h).le
    refine rows_len hN ?_ fun y hy => (pairL_can y (List.mem_filter.1 hy).1).1
    have := pairL_le (T := mpl (elsOf ms)) hN
    have h2 := List.length_filter_le (leastP (elsOf ms).length (pairL (elsOf ms).length (mpl (elsOf ms)))) (pairL (elsOf ms).length (mpl (elsOf ms)))
    show (leastL _ _).length ≤ 1000
    unfold leastL
    omega
  · exact ⟨by simp, fun x hx => by simp at hx, by simp [total]⟩
/-- the closure -/
theorem LeastCongruences1_p {bx N cA : Nat} {A : Option Addr} {a : List Int} {ws : List Sl} {w : World} (ha : SeeInts w A a) (la : a.length = N) (hN : N ≤ 300) (hws : ∀ s ∈ ws, SeeInts w s.A s.xs ∧ s.xs.length = N) (q : w.cell? ⟨bx, 0, none⟩ = some (.slice A N cA)) :
    PredR 48 #[.pointer (some ⟨bx, 0, none⟩)] (finP N a) ws w := fun W s hsm hW => by
  obtain ⟨hs, hl⟩ := hws s hsm
  have q1 := bcell hW q
  have hb := hs.below hW
  have ha1 := ha.below hW
  obtain ⟨Ab, cb, b⟩ := s
  show Calls Tryz.prog 48 #[.slice Ab b.length cb, .pointer (some ⟨bx, 0, none⟩)] W fun e w' => e = .returned (.bool (finP N a b)) ∧ Below W.heap.size W w'
  replace hb : SeeInts W Ab b := hb
  replace hl : b.length = N := hl
  clear hs hsm hws ha q
  have hEQ := EqualI_c A Ab cA cb a b W ha1 hb (by omega)
  have hFI := fun (w1 : World) (h1 : Below W.heap.size W w1) => isFiner_c (c := cb) (d := cA) w1 (hb.below h1) (ha1.below h1) hl la hN
  unfold finP
  rw [hl, la] at hEQ
  rw [hl]
  have HFI := Lib.hid hFI
  clear hFI hl la hb ha1
  cases e : decide (a = b)
  · rw [e] at hEQ
    have HEQ := Lib.hid hEQ
    clear hEQ e
    generalize finB N b a = r at *
    go_enter Tryz.func48, Tryz.ntmps48
    go_wp2_with fail
    refine HEQ.out.mono ?_
    rintro e w1 ⟨rfl, hb1⟩
    have q2 := bcell hb1 q1
    have HF := Lib.hid (HFI.out w1 hb1)
    go_wp2_with fail
    refine HF.out.mono ?_
    rintro e w2 ⟨rfl, hb2⟩
    go_wp2
    go_returns
    exact ⟨by simp, btrans hb1 hb2⟩
  · rw [e] at hEQ
    have HEQ := Lib.hid hEQ
    clear hEQ e
    go_enter Tryz.func48, Tryz.ntmps48
    go_wp2_with fail
    refine HEQ.out.mono ?_
    rintro e w1 ⟨rfl, hb1⟩
    go_wp2
    go_returns
    exact ⟨by simp, hb1⟩
/-- the rows of a call's own, chosen -/
theorem chosen {w : World} {base base' : Nat} {v' : Value} {ws : List Sl} {p : List Int → Bool} (h1 : ElsOk w base ws) (h2 : (ws.map Sl.v).Pairwise DisV) (h3 : OwnSls w base' v' (ws.filter fun s => p s.xs)) (hb : base ≤ base') : OwnSS w base v' ((ws.map Sl.xs).filter p) :=
  ⟨ws.filter fun s => p s.xs, h3.mono hb, fun s hs => h1 s (List.mem_filter.1 hs).1, h2.sublist (List.filter_sublist.map _), by
    rw [List.filter_map]; rfl⟩
theorem ElsOk.mono' {w : World} {base base' : Nat} {ws : List Sl} (h : ElsOk w base ws) (hb : base' ≤ base) : ElsOk w base' ws := fun s hs => (h s hs).mono hb
theorem SeeSls.own {w : World} {base c : Nat} {A : Option Addr} {ws : List Sl} (h : OwnSls w base (.slice A ws.length c) ws) : SeeSls w A ws := by
  obtain ⟨A', c', e, g⟩ := h.at_
  simp only [Value.slice.injEq] at e
  obtain ⟨rfl, _, rfl⟩ := e
  intro hn
  have h0 : 0 < ws.length := List.length_pos_iff.2 hn
  obtain ⟨s0, hs0⟩ := el h0
  obtain ⟨b, rfl, _⟩ := g 0 s0 hs0
  refine ⟨b, 0, rfl, fun k s hk => ?_⟩
  obtain ⟨b', e', hc⟩ := g k s hk
  simp only [Option.some.injEq, Addr.mk.injEq] at e'
  obtain ⟨rfl, _⟩ := e'
  rw [Nat.zero_add]
  exact hc
set_option maxHeartbeats 8000000 in
set_option maxRecDepth 100000 in
theorem implLeastCongruences_l {A : Option Addr} {c : Nat} {ms : List Mp} {w : World} (h : SeeMaps w A ms) (hn : ms.length ≤ 2097152) (hA : NilOk A c) :
    Calls Tryz.prog 17 #[.slice A ms.length c] w fun e w' => ∃ v, e = .returned (.tuple #[v, .int .i64 (RLeastCongruences ms).2]) ∧ OwnSS w' w.heap.size v (RLeastCongruences ms).1 ∧ Below w.heap.size w w' := by
  have hpc := paired_c (c := c) h hn hA
  have HPC := Lib.hid hpc
  obtain ⟨r, hr⟩ : ∃ r, r = RLeastCongruences ms := ⟨_, rfl⟩
  rw [← hr]
  have HR := Lib.hid hr
  clear hpc hr h hA
  go_enter Tryz.func17, Tryz.ntmps17
  go_wp2_with fail
  refine HPC.out.mono ?_
  rintro e w1 hpost
  rcases hpost with ⟨hc, rfl, hb1⟩ | ⟨hc, v, rfl, own, hb1⟩
  · have E1 := Lib.hid (show r = ([], pcC 30 ms) by rw [HR.out]; unfold RLeastCongruences; rw [if_neg hc])
    have d : (pcC 30 ms != 0) = true := bne_iff_ne.2 hc
    clear hc
    go_wp2
    go_returns
    rw [E1.out]
    exact ⟨_, rfl, OwnSS.nil _ _, hb1⟩
  · have E1 := Lib.hid (show r = (leastL (elsOf ms).length (pairL (elsOf ms).length (mpl (elsOf ms))), 0) by rw [HR.out]; unfold RLeastCongruences; rw [if_pos hc])
    have htr := TabR.of hc
    have hok := htr.tab
    have hpos := htr.pos
    have hle := htr.le
    have hcan := pairL_can (N := (elsOf ms).length) (T := mpl (elsOf ms))
    have hpl := pairL_le (T := mpl (elsOf ms)) hle
    obtain ⟨A1, c1, rfl, _⟩ := own.see
    have htab := own.tab
    rw [tabOf_length]
    have hbp := byPairs_c (c := c1) hok hpos (by omega) htab
    clear hc own HR htr
    generalize tabOf (elsOf ms) = rows at *
    generalize mpl (elsOf ms) = T at *
    generalize (elsOf ms).length = N at *
    have HBP := Lib.hid hbp
    clear hbp hok htab
    generalize pairL N T = all at *
    go_wp2_with fail
    refine HBP.out.mono ?_
    rintro e w2 ⟨v2, rfl, own2, hb2⟩
    obtain ⟨ws, h1, h2, h3, h4⟩ := own2.ex
    obtain ⟨A2, c2, rfl, gat⟩ := h1.at_
    have hb12 := btrans hb1 hb2
    have hls : ∀ s ∈ ws, SeeInts w2 s.A s.xs ∧ s.xs.length = N := fun s hs => ⟨(h2 s hs).see', (hcan _ (by rw [← h4]; exact List.mem_map.2 ⟨s, hs, rfl⟩)).1⟩
    have hsee := SeeSls.own h1
    have hwl : ws.length ≤ 900 := by rw [← h4, List.length_map] at hpl; exact hpl
    have HC := Lib.hid (fun (W : World) (hW : Below w2.heap.size w2 W) (bx : Nat) (s : Sl) (hs : s ∈ ws) (q : W.cell? ⟨bx, 0, none⟩ = some (.slice s.A N s.c)) =>
      ContainsFuncR_c 48 #[.pointer (some ⟨bx, 0, none⟩)] (finP N s.xs) (enters_of Tryz.func48 (by kernel_rfl) rfl) A2 c2 ws W (hsee.below hW) (by omega)
        (LeastCongruences1_p ((hls s hs).1.below hW) (hls s hs).2 (by omega) (fun t ht => ⟨(hls t ht).1.below hW, (hls t ht).2⟩) q))
    rw [h4] at HC
    have HLS := Lib.hid hls
    have HE := Lib.hid (⟨h2, h3, h4⟩ : ElsOk w2 w1.heap.size ws ∧ (ws.map Sl.v).Pairwise DisV ∧ ws.map Sl.xs = all)
    clear hls own2 h2 h3 h4 hcan hb2 HBP
    have HS := Lib.hid gat
    clear gat
    obtain ⟨qs, hqs⟩ : ∃ qs : Nat → List Sl, qs = fun k => (ws.take k).filter (fun s => leastP N all s.xs) := ⟨_, rfl⟩
    have HQ0 := Lib.hid (show qs 0 = [] by rw [hqs]; rfl)
    have HQ1 := Lib.hid (show ∀ k s, ws[k]? = some s → qs (k + 1) = if leastP N all s.xs then qs k ++ [s] else qs k from fun k s hk => by
      rw [hqs]
      show (ws.take (k + 1)).filter _ = _
      rw [List.take_add_one, hk, Option.toList_some, List.filter_append]
      split
      · rename_i e; simp [e]
      · rename_i e; simp [e])
    have HQN := Lib.hid (show qs ws.length = ws.filter (fun s => leastP N all s.xs) by rw [hqs]; simp)
    have HQL := Lib.hid (show ∀ k, (qs k).length ≤ 900 from fun k => by
      rw [hqs]
      have := List.length_filter_le (fun s => leastP N all s.xs) (ws.take k)
      have := List.length_take_le' k ws
      show (List.filter _ _).length ≤ _
      omega)
    clear hqs hsee
    obtain ⟨al, hal⟩ : ∃ al, al = leastL N all := ⟨_, rfl⟩
    have HAL := Lib.hid hal
    have HNP := Lib.hid (show ∀ x, leastP N all x = !all.any (finP N x) from fun x => rfl)
    clear hal
    go_wp2
    go_loopw [22, 7] (fun iv v wr => ∃ k : Nat, k ≤ ws.length ∧ iv = .int .i64 k ∧ OwnSls wr w2.heap.size v (qs k) ∧ Below w2.heap.size w2 wr) (fun iv _ _ => ws.length - (intOf iv).toNat)
    case atStart => exact ⟨0, Nat.zero_le _, rfl, by rw [HQ0.out]; exact OwnSls.nil _ _, Below.refl _ _⟩
    case round =>
      obtain ⟨k, hk, rfl, own, hb⟩ := hrel
      have k0 : (0 : Int) ≤ k := by omega
      obtain ⟨Av, cv, rfl, _⟩ := own.at_
      by_cases hlt : k < ws.length
      · have k1 : (k : Int) < ws.length := by omega
        obtain ⟨s, hs⟩ := el hlt
        obtain ⟨b2, rfl, gc⟩ := HS.out k s hs
        have q1 := bcell hb gc
        have hsm := List.mem_of_getElem? hs
        have hsl := (HLS.out s hsm).2
        unfold Sl.v at q1
        rw [hsl] at q1
        have HQ := Lib.hid (HQ1.out k s hs)
        have kk := kbelow wr (.cells #[.slice s.A N s.c] 38)
        have hbk := btrans hb kk
        have hcf := HC.out (wr.alloc (.cells #[.slice s.A N s.c] 38)) hbk wr.heap.size s hsm (by simp [go_sem])
        have qb : (wr.alloc (.cells #[.slice s.A N s.c] 38)).cell? ⟨wr.heap.size, 0, none⟩ = some (.slice s.A N s.c) := by simp [go_sem]
        obtain ⟨W3, hW3⟩ : ∃ W3, W3 = wr.alloc (.cells #[.slice s.A N s.c] 38) := ⟨_, rfl⟩
        have zW3 : W3.heap.size = wr.heap.size + 1 := by rw [hW3, World.size_alloc]
        rw [← hW3] at kk hbk hcf qb
        have HCF := Lib.hid hcf
        have own3 := own.below kk
        have HL := Lib.hid (HNP.out s.xs)
        have hql := HQL.out k
        clear hcf hs own
        go_wp2_with fail
        rw [← hW3]
        refine HCF.out.mono ?_
        rintro e w4 ⟨rfl, hb4⟩
        clear HCF
        have q4 := bcell hb4 qb
        have own4 := own3.below hb4
        have hb24 := btrans hbk hb4
        cases e : all.any (finP N s.xs)
        · have HK := Lib.hid (show qs (k + 1) = qs k ++ [s] by rw [HQ.out, HL.out, e]; rfl)
          clear e HQ HL
          have kk5 := kbelow w4 (.cells #[.slice s.A N s.c] 38)
          have own5 := own4.below kk5
          have hb25 := btrans hb24 kk5
          go_wp2_with (at_builtin; go_must (refine wpList_push_sl _ rfl (.tmp 30) (.tmp 32) rfl w2.heap.size (.slice Av (qs k).length cv) (qs k) rfl own5 ⟨w4.heap.size, 0, none⟩ s rfl (by simp [go_sem, hsl]) (by omega) hb25.size ?_; intro v5 w5 hown5 hgrow5 hv5; have h5 := hown5.at_; obtain ⟨A5, c5, rfl, _⟩ := h5))
          have hb5 : Below w2.heap.size w2 w5 := hb25.grown hgrow5 hb25.size (fun i hi => (own5.lt i hi).1)
          go_roundw
          case rel => exact ⟨k + 1, by omega, by go_num, by rw [HK.out]; simpa only [List.length_append, List.length_singleton] using hown5, hb5⟩
          case measure => simp [intOf]; omega
        · have HK := Lib.hid (show qs (k + 1) = qs k by rw [HQ.out, HL.out, e]; rfl)
          clear e HQ HL
          go_wp2
          go_roundw
          case rel => exact ⟨k + 1, by omega, by go_num, by rw [HK.out]; exact own4, hb24⟩
          case measure => simp [intOf]; omega
      · have ek : k = ws.length := by omega
        subst ek
        have nlt : ¬ (ws.length : Int) < ws.length := by omega
        have HO := Lib.hid own
        clear own
        go_wp2
        go_returns
        rw [E1.out]
        refine ⟨_, rfl, ?_, btrans hb12 hb⟩
        have h5 := chosen (p := leastP N all) ((HE.out.1.below hb).mono' hb1.size) HE.out.2.1 (by rw [← HQN.out]; exact HO.out) hb12.size
        rw [HE.out.2.2] at h5
        exact h5
/-! 'LeastCongruences' of the reference. -/
theorem pairL_nodup {N : Nat} {T : Nat → Nat → Nat} : (pairL N T).Nodup := sortC_nodup (N := N) fun y hy => (prAll_can N y hy).1
/-- none of the first k but the i-th is finer -/
def LeastTo (N : Nat) (all : List (List Int)) (i : Nat) (a : List Int) (k : Nat) (l : Bool) : Prop := l = true ↔ ∀ j y, j < k → all[j]? = some y → j = i ∨ finB N y a = false
theorem LeastTo.zero (N : Nat) (all : List (List Int)) (i : Nat) (a : List Int) : LeastTo N all i a 0 true := ⟨fun _ j y hj => absurd hj (by omega), fun _ => rfl⟩
theorem LeastTo.step {N : Nat} {all : List (List Int)} {i : Nat} {a : List Int} {k : Nat} {l l' : Bool} {y : List Int} (h : LeastTo N all i a k l) (hy : all[k]? = some y) (e : l' = true ↔ (l = true ∧ (k = i ∨ finB N y a = false))) : LeastTo N all i a (k + 1) l' := by
  unfold LeastTo at *
  rw [e, h]
  constructor
  · rintro ⟨h1, h2⟩ j z hj hz
    by_cases e' : j = k
    · subst e'; rw [hy] at hz; cases hz; exact h2
    · exact h1 j z (by omega) hz
  · exact fun h1 => ⟨fun j z hj hz => h1 j z (by omega) hz, h1 k y (by omega) hy⟩
theorem leastP_at {N : Nat} {all : List (List Int)} (hnd : all.Nodup) {i : Nat} {a : List Int} (hi : all[i]? = some a) {l : Bool} (h : LeastTo N all i a all.length l) : leastP N all a = l := by
  unfold LeastTo at h
  rw [Bool.eq_iff_iff, h]
  unfold leastP finP
  simp only [Bool.not_eq_true', List.any_eq_false, Bool.and_eq_true, Bool.not_eq_true', decide_eq_false_iff_not, not_and, Bool.not_eq_true]
  constructor
  · intro h1 j y hj hy
    by_cases e : j = i
    · exact Or.inl e
    · refine Or.inr (h1 y (List.mem_of_getElem? hy) fun e2 => e ?_)
      subst e2
      obtain ⟨p1, q1⟩ := List.getElem?_eq_some_iff.1 hy
      obtain ⟨p2, q2⟩ := List.getElem?_eq_some_iff.1 hi
      exact (List.getElem_inj hnd).1 (q1.trans q2.symm)
  · intro h1 y hy hne
    obtain ⟨j, hj, e⟩ := List.getElem_of_mem hy
    have h2 : all[j]? = some y := by rw [List.getElem?_eq_getElem hj, e]
    rcases h1 j y hj h2 with e3 | e3
    · subst e3
      rw [hi] at h2
      exact absurd (Option.some.inj h2) hne
    · exact e3
set_option maxHeartbeats 8000000 in
set_option maxRecDepth 100000 in
theorem specLeastCongruences_l {A : Option Addr} {c : Nat} {ms : List Mp} {w : World} (h : SeeMaps w A ms) (hn : ms.length ≤ 2097152) (hA : NilOk A c) :
    Calls Tryz.prog 16 #[.slice A ms.length c] w fun e w' => ∃ v, e = .returned (.tuple #[v, .int .i64 (RLeastCongruences ms).2]) ∧ OwnSS w' w.heap.size v (RLeastCongruences ms).1 ∧ Below w.heap.size w w' := by
  have hpc := l06Given_c (c := c) (most := 30) h hn (by omega)
  have HPC := Lib.hid hpc
  obtain ⟨r, hr⟩ : ∃ r, r = RLeastCongruences ms := ⟨_, rfl⟩
  rw [← hr]
  have HR := Lib.hid hr
  clear hpc hr h hA
  go_enter Tryz.func16, Tryz.ntmps16
  go_wp2_with fail
  refine HPC.out.mono ?_
  rintro e w1 hpost
  rcases hpost with ⟨hc, rfl, hb1⟩ | ⟨hc, v, rfl, own, hb1⟩
  · have E1 := Lib.hid (show r = ([], pcC 30 ms) by rw [HR.out]; unfold RLeastCongruences; rw [if_neg hc])
    have d : (pcC 30 ms != 0) = true := bne_iff_ne.2 hc
    clear hc
    go_wp2
    go_returns
    rw [E1.out]
    exact ⟨_, rfl, OwnSS.nil _ _, hb1⟩
  · have E1 := Lib.hid (show r = (leastL (elsOf ms).length (pairL (elsOf ms).length (mpl (elsOf ms))), 0) by rw [HR.out]; unfold RLeastCongruences; rw [if_pos hc])
    have htr := TabR.of hc
    have hok := htr.tab
    have hpos := htr.pos
    have hle := htr.le
    have hcan := pairL_can (N := (elsOf ms).length) (T := mpl (elsOf ms))
    have hnd := pairL_nodup (N := (elsOf ms).length) (T := mpl (elsOf ms))
    have hpl := pairL_le (T := mpl (elsOf ms)) hle
    obtain ⟨A1, c1, rfl, _⟩ := own.see
    have htab := own.tab
    rw [tabOf_length]
    have hbp := l06One_c (c := c1) hok hpos (by omega) htab
    clear hc own HR htr
    generalize tabOf (elsOf ms) = rows at *
    generalize mpl (elsOf ms) = T at *
    generalize (elsOf ms).length = N at *
    have HBP := Lib.hid hbp
    clear hbp hok htab
    generalize pairL N T = all at *
    go_wp2_with fail
    refine HBP.out.mono ?_
    rintro e w2 ⟨v2, rfl, own2, hb2⟩
    obtain ⟨ws, h1, h2, h3, h4⟩ := own2.ex
    obtain ⟨A2, c2, rfl, gat⟩ := h1.at_
    have hb12 := btrans hb1 hb2
    have hls : ∀ s ∈ ws, SeeInts w2 s.A s.xs ∧ s.xs.length = N := fun s hs => ⟨(h2 s hs).see', (hcan _ (by rw [← h4]; exact List.mem_map.2 ⟨s, hs, rfl⟩)).1⟩
    have hwl : ws.length ≤ 900 := by rw [← h4, List.length_map] at hpl; exact hpl
    have HLS := Lib.hid hls
    have HE := Lib.hid (⟨h2, h3, h4⟩ : ElsOk w2 w1.heap.size ws ∧ (ws.map Sl.v).Pairwise DisV ∧ ws.map Sl.xs = all)
    clear hls own2 h2 h3 h4 hb2 HBP
    have HS := Lib.hid gat
    clear gat
    obtain ⟨qs, hqs⟩ : ∃ qs : Nat → List Sl, qs = fun k => (ws.take k).filter (fun s => leastP N all s.xs) := ⟨_, rfl⟩
    have hal : all.length = ws.length := by rw [← HE.out.2.2, List.length_map]
    have HAT := Lib.hid (fun (i : Nat) (s : Sl) (hi : ws[i]? = some s) => show all[i]? = some s.xs by rw [← HE.out.2.2, List.getElem?_map, hi]; rfl)
    have HL1 := Lib.hid (fun (i : Nat) (s : Sl) (l : Bool) (hi : ws[i]? = some s) (hl : LeastTo N all i s.xs ws.length l) => leastP_at (N := N) hnd (HAT.out i s hi) (hal ▸ hl))
    clear hal
    clear hnd hcan
    have HQ0 := Lib.hid (show qs 0 = [] by rw [hqs]; rfl)
    have HQ1 := Lib.hid (show ∀ k s, ws[k]? = some s → qs (k + 1) = if leastP N all s.xs then qs k ++ [s] else qs k from fun k s hk => by
      rw [hqs]
      show (ws.take (k + 1)).filter _ = _
      rw [List.take_add_one, hk, Option.toList_some, List.filter_append]
      split
      · rename_i e; simp [e]
      · rename_i e; simp [e])
    have HQN := Lib.hid (show qs ws.length = ws.filter (fun s => leastP N all s.xs) by rw [hqs]; simp)
    have HQL := Lib.hid (show ∀ k, (qs k).length ≤ 900 from fun k => by
      rw [hqs]
      have := List.length_filter_le (fun s => leastP N all s.xs) (ws.take k)
      have := List.length_take_le' k ws
      show (List.filter _ _).length ≤ _
      omega)
    clear hqs
    have o0 : OwnSls (w2.alloc (.cells #[] 38)) w2.heap.size (.slice (some ⟨w2.heap.size, 0, none⟩) 0 0) [] := own_mono (World.ownsRow_made (e := 38) (size := 1) w2 #[] 0 (Nat.le_refl _) (by decide) rfl) (Nat.le_refl _)
    have kk0 := kbelow w2 (.cells #[] 38)
    go_wp2
    go_loopw [8, 7] (fun iv v wr => ∃ i : Nat, i ≤ ws.length ∧ iv = .int .i64 i ∧ OwnSls wr w2.heap.size v (qs i) ∧ Below w2.heap.size w2 wr) (fun iv _ _ => ws.length - (intOf iv).toNat)
    case atStart => exact ⟨0, Nat.zero_le _, rfl, by rw [HQ0.out]; exact o0, kk0⟩
    case round =>
      clear o0 kk0
      obtain ⟨i, hi, rfl, own, hb⟩ := hrel
      have i0 : (0 : Int) ≤ i := by omega
      obtain ⟨Av, cv, rfl, _⟩ := own.at_
      by_cases hlt : i < ws.length
      · have i1 : (i : Int) < ws.length := by omega
        obtain ⟨s, hs⟩ := el hlt
        have HQ := Lib.hid (HQ1.out i s hs)
        have HLS1 := Lib.hid (fun l => HL1.out i s l hs)
        have HSI := Lib.hid hs
        have HOW := Lib.hid own
        have hql := HQL.out i
        clear hs own HQ1 HL1
        go_wp2
        go_loopw [10, 9] (fun kv lv wk => ∃ (k : Nat) (l : Bool), k ≤ ws.length ∧ kv = .int .i64 k ∧ lv = .bool l ∧ Hid (LeastTo N all i s.xs k l) ∧ Below wr.heap.size wr wk) (fun kv _ _ => ws.length - (intOf kv).toNat)
        case atStart => exact ⟨0, true, Nat.zero_le _, rfl, rfl, Lib.hid (LeastTo.zero _ _ _ _), Below.refl _ _⟩
        case round =>
          obtain ⟨k, l, hk, rfl, rfl, HT, hb2⟩ := hrel
          have k0 : (0 : Int) ≤ k := by omega
          by_cases hlk : k < ws.length
          · have k1 : (k : Int) < ws.length := by omega
            obtain ⟨t, ht⟩ := el hlk
            have hbx := btrans hb hb2
            obtain ⟨b2, rfl, gc⟩ := HS.out k t ht
            obtain ⟨b2', e2, gi⟩ := HS.out i s HSI.out
            simp only [Option.some.injEq, Addr.mk.injEq] at e2
            obtain ⟨rfl, _⟩ := e2
            have hts := HLS.out t (List.mem_of_getElem? ht)
            have hss := HLS.out s (List.mem_of_getElem? HSI.out)
            have q1 := bwc hbx gc
            have q2 := bwc hbx gi
            unfold Sl.v at q1 q2
            rw [hts.2] at q1
            rw [hss.2] at q2
            have HF := Lib.hid (fun (x : BW wr) => l06Finer_c (c := t.c) (d := s.c) x.1 (hts.1.below (btrans hbx x.2)) (hss.1.below (btrans hbx x.2)) hts.2 hss.2 (by omega))
            have HST := Lib.hid (fun l' e => HT.out.step (l' := l') (HAT.out k t ht) e)
            have i1' : (i : Int) < ws.length := by omega
            clear gc gi hts hss ht HT
            cases l
            · have HN := Lib.hid (HST.out false (by simp))
              clear HST HF
              go_wp2
              refine wp_region_bw (by kernel_rfl) (by kernel_rfl) ?_
              repeat go_big_quiet_step (fail)
              refine wpQuiet_nil ?_
              rintro w3 ⟨⟨w3x, hb3⟩, rfl⟩
              replace hb2 := btrans hb2 hb3
              go_wp2
              go_roundw
              case rel => exact ⟨k + 1, false, by omega, by go_num, rfl, HN, hb2⟩
              case measure => simp [intOf]; omega
            · by_cases e : k = i
              · have HN := Lib.hid (HST.out true (by simp [e]))
                have d : ((k : Int) == (i : Int)) = true := by rw [e]; simp
                clear HST HF e
                go_wp2
                refine wp_region_bw (by kernel_rfl) (by kernel_rfl) ?_
                repeat go_big_quiet_step (fail)
                refine wpQuiet_nil ?_
                rintro w3 ⟨⟨w3x, hb3⟩, rfl⟩
                replace hb2 := btrans hb2 hb3
                go_wp2
                go_roundw
                case rel => exact ⟨k + 1, true, by omega, by go_num, rfl, HN, hb2⟩
                case measure => simp [intOf]; omega
              · have HN := Lib.hid (HST.out (!finB N t.xs s.xs) (by simp [e]))
                have d : ((k : Int) == (i : Int)) = false := beq_eq_false_iff_ne.2 (by omega)
                clear HST e
                generalize finB N t.xs s.xs = fb at *
                go_wp2
                refine wp_region_bw (by kernel_rfl) (by kernel_rfl) ?_
                repeat go_big_quiet_step ((go_at_call 46; exact Calls.bw _ (HF.out _)))
                refine wpQuiet_nil ?_
                rintro w3 ⟨⟨w3x, hb3⟩, rfl⟩
                replace hb2 := btrans hb2 hb3
                go_wp2
                go_roundw
                case rel => exact ⟨k + 1, !fb, by omega, by go_num, rfl, HN, hb2⟩
                case measure => simp [intOf]; omega
          · have ek : k = ws.length := by omega
            subst ek
            have nlt : ¬ (ws.length : Int) < ws.length := by omega
            have HLP := Lib.hid (HLS1.out l HT.out)
            clear HLS1 HT
            have hbx := btrans hb hb2
            have own3 := HOW.out.below hb2
            obtain ⟨b2, rfl, gc⟩ := HS.out i s HSI.out
            have hss := HLS.out s (List.mem_of_getElem? HSI.out)
            have q1 := bcell hbx gc
            unfold Sl.v at q1
            rw [hss.2] at q1
            have hsl := hss.2
            clear gc hss
            cases l
            · have HK := Lib.hid (show qs (i + 1) = qs i by rw [HQ.out, HLP.out]; rfl)
              clear HQ HLP
              go_wp2
              go_roundw
              case rel => exact ⟨i + 1, by omega, by go_num, by rw [HK.out]; exact own3, hbx⟩
              case measure => simp [intOf]; omega
            · have HK := Lib.hid (show qs (i + 1) = qs i ++ [s] by rw [HQ.out, HLP.out]; rfl)
              clear HQ HLP
              have kk5 := kbelow wr (.cells #[.slice s.A N s.c] 38)
              have own5 := own3.below kk5
              have hb25 := btrans hbx kk5
              go_wp2_with (at_builtin; go_must (refine wpList_push_sl _ rfl (.tmp 53) (.tmp 58) rfl w2.heap.size (.slice Av (qs i).length cv) (qs i) rfl own5 ⟨wr.heap.size, 0, none⟩ s rfl (by simp [go_sem, hsl]) (by omega) hb25.size ?_; intro v5 w5 hown5 hgrow5 hv5; have h5 := hown5.at_; obtain ⟨A5, c5, rfl, _⟩ := h5))
              have hb5 : Below w2.heap.size w2 w5 := hb25.grown hgrow5 hb25.size (fun i hi => (own5.lt i hi).1)
              go_roundw
              case rel => exact ⟨i + 1, by omega, by go_num, by rw [HK.out]; simpa only [List.length_append, List.length_singleton] using hown5, hb5⟩
              case measure => simp [intOf]; omega
      · have ek : i = ws.length := by omega
        subst ek
        have nlt : ¬ (ws.length : Int) < ws.length := by omega
        have HO := Lib.hid own
        clear own
        go_wp2
        go_returns
        rw [E1.out]
        refine ⟨_, rfl, ?_, btrans hb12 hb⟩
        have h5 := chosen (p := leastP N all) ((HE.out.1.below hb).mono' hb1.size) HE.out.2.1 (by rw [← HQN.out]; exact HO.out) hb12.size
        rw [HE.out.2.2] at h5
        exact h5
end Go.Proofs.YtjepmbjneccagaaGreat
