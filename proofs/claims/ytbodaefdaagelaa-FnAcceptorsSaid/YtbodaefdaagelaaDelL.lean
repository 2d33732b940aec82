/- Points that are last ones, deleted from a row. No condition. -/
import Derived.Test.YtbodaefdaagelaaPts
import Derived.Test.YtbodaefdaagelaaPushM
import Derived.Lib.SliceRun
namespace Go.Proofs.Ytbodaefdaagelaa
set_option linter.unusedSimpArgs false
set_option linter.unusedVariables false
set_option linter.unusedSectionVars false
open Go.RowKit
set_option maxHeartbeats 1000000 in
theorem IndexI0_c (A : Option Addr) (c : Nat) (xs : List Int) (v : Int) (w : World) (h : SeeInts w A xs) (hn : xs.length ≤ 2097152) :
    Calls Try.prog 119 #[.slice A xs.length c, .int .i64 v] w fun e w' => e = .returned (.int .i64 (fidx (fun x => decide (v = x)) xs)) ∧ w' = w := by
  go_enter Try.func119, Try.ntmps119
  go_wp2
  go_loopw [8] (fun i wr => ∃ k : Nat, k ≤ xs.length ∧ i = .int .i64 k ∧ AllTo (fun x => decide (v = x) = false) xs k ∧ wr = w) (fun i _ => xs.length - (intOf i).toNat)
  case atStart => exact ⟨0, Nat.zero_le _, rfl, AllTo.zero _ _, rfl⟩
  case round =>
    obtain ⟨k, hk, rfl, hj, rfl⟩ := hrel
    by_cases hlt : k < xs.length
    · obtain ⟨b, o, x, rfl, hx, q⟩ := h.at_ hlt
      have hl : (0 : Int) ≤ k := by omega
      have hl' : (k : Int) < xs.length := by omega
      have HJ := Lib.hid hj
      have HX := Lib.hid hx
      clear hj hx h
      by_cases e : v = x
      · have d : (v == x) = true := by simpa using e
        have HE := Lib.hid (show decide (v = x) = true by simpa using e)
        clear e
        go_wp2
        go_returns
        exact ⟨ret_int (fidx_hit HX.out HE.out HJ.out).symm, rfl⟩
      · have d : (v == x) = false := by simpa using e
        have HE := Lib.hid (show decide (v = x) = false by simpa using e)
        go_wp2
        go_roundw
        case rel => exact ⟨k + 1, by omega, by go_num, HJ.out.snoc HX.out HE.out, by first | rfl | trivial⟩
        case measure => simp [intOf]; omega
    · obtain rfl : k = xs.length := by omega
      go_wp2
      go_returns
      exact ⟨ret_int (fidx_miss hj).symm, rfl⟩
set_option maxHeartbeats 1000000 in
theorem ContainsI0_c (A : Option Addr) (c : Nat) (xs : List Int) (v : Int) (w : World) (h : SeeInts w A xs) (hn : xs.length ≤ 2097152) :
    Calls Try.prog 83 #[.slice A xs.length c, .int .i64 v] w fun e w' => e = .returned (.bool (decide (v ∈ xs))) ∧ w' = w := by
  have e0 : decide (v ∈ xs) = xs.any (fun x => decide (v = x)) := by
    rw [← List.contains_eq_mem, List.contains_eq_any_beq]
    rfl
  rw [e0, ← fidx_any]
  clear e0
  go_enter Try.func83, Try.ntmps83
  go_wp2_with (go_at_call 119; go_must (refine (IndexI0_c A c xs v _ h hn).mono ?_); rintro e w2 ⟨rfl, rfl⟩)
  go_returns
  exact ⟨rfl, rfl⟩
theorem isLast0_c (B : Nat) (A' : Option Addr) (c' : Nat) (ls : List Int) (p : Int) (w : World) (hq : w.cell? ⟨B, 2, none⟩ = some (.slice A' ls.length c')) (h' : SeeInts w A' ls) (hn' : ls.length ≤ 2097152) :
    Calls Try.prog 67 #[.pointer (some ⟨B, 0, none⟩), .int .i64 p] w fun e w' => e = .returned (.bool (decide (p ∈ ls))) ∧ w' = w := by
  go_enter Try.func67, Try.ntmps67
  go_wp2_with (go_at_call 83; go_must (refine (ContainsI0_c A' c' ls p _ h' hn').mono ?_); rintro e w2 ⟨rfl, rfl⟩)
  go_returns
  exact ⟨rfl, rfl⟩
set_option maxHeartbeats 1000000 in
theorem IndexLast_c (B : Nat) (A A' : Option Addr) (c c' : Nat) (xs ls : List Int) (w : World) (h : SeeInts w A xs) (hn : xs.length ≤ 2097152) (hq : w.cell? ⟨B, 2, none⟩ = some (.slice A' ls.length c')) (h' : SeeInts w A' ls) (hn' : ls.length ≤ 2097152) :
    Calls Try.prog 120 #[.slice A xs.length c, .func (.func 67) #[.pointer (some ⟨B, 0, none⟩)] #[]] w fun e w' => e = .returned (.int .i64 (fidx (fun x => decide (x ∈ ls)) xs)) ∧ w' = w := by
  have hc : ∀ p, Calls Try.prog 67 #[.pointer (some ⟨B, 0, none⟩), .int .i64 p] w fun e w' => e = .returned (.bool (decide (p ∈ ls))) ∧ w' = w := fun p => isLast0_c B A' c' ls p w hq h' hn'
  have HC := Lib.hid hc
  clear hc
  go_enter Try.func120, Try.ntmps120
  go_wp2
  go_loopw [8] (fun i wr => ∃ k : Nat, k ≤ xs.length ∧ i = .int .i64 k ∧ AllTo (fun x => decide (x ∈ ls) = false) xs k ∧ wr = w) (fun i _ => xs.length - (intOf i).toNat)
  case atStart => exact ⟨0, Nat.zero_le _, rfl, AllTo.zero _ _, rfl⟩
  case round =>
    obtain ⟨k, hk, rfl, hj, rfl⟩ := hrel
    by_cases hlt : k < xs.length
    · obtain ⟨b, o, x, rfl, hx, q⟩ := h.at_ hlt
      have hl : (0 : Int) ≤ k := by omega
      have hl' : (k : Int) < xs.length := by omega
      have HJ := Lib.hid hj
      have HX := Lib.hid hx
      have hcx := HC.out x
      clear hj hx h
      cases e : decide (x ∈ ls)
      · rw [e] at hcx
        have HE := Lib.hid e
        have HCX := Lib.hid hcx
        clear e hcx
        go_wp2_with fail
        refine HCX.out.mono ?_
        rintro e w2 ⟨rfl, rfl⟩
        go_wp2
        go_roundw
        case rel => exact ⟨k + 1, by omega, by go_num, HJ.out.snoc HX.out HE.out, by first | rfl | trivial⟩
        case measure => simp [intOf]; omega
      · rw [e] at hcx
        have HE := Lib.hid e
        have HCX := Lib.hid hcx
        clear e hcx
        go_wp2_with fail
        refine HCX.out.mono ?_
        rintro e w2 ⟨rfl, rfl⟩
        go_wp2
        go_returns
        exact ⟨ret_int (fidx_hit HX.out HE.out HJ.out).symm, rfl⟩
    · obtain rfl : k = xs.length := by omega
      go_wp2
      go_returns
      exact ⟨ret_int (fidx_miss hj).symm, rfl⟩
/-! ### What a deletion leaves -/
def keptL (ls xs : List Int) : List Int := xs.filter fun p => !decide (p ∈ ls)
theorem keptL_snoc_in {ls xs : List Int} {x : Int} (h : decide (x ∈ ls) = true) : keptL ls (xs ++ [x]) = keptL ls xs := by unfold keptL; rw [List.filter_append]; simp [h]
theorem keptL_snoc_out {ls xs : List Int} {x : Int} (h : decide (x ∈ ls) = false) : keptL ls (xs ++ [x]) = keptL ls xs ++ [x] := by unfold keptL; rw [List.filter_append]; simp [h]
theorem keptL_all {ls xs : List Int} (h : ∀ x ∈ xs, decide (x ∈ ls) = false) : keptL ls xs = xs := List.filter_eq_self.2 fun x hx => by rw [h x hx]; rfl
theorem own_take {w : World} {base g n c k : Nat} {xs : List Int} (h : OwnInts w base (.slice (some ⟨g, 0, none⟩) n c) xs) (hk : k ≤ n) : OwnInts w base (.slice (some ⟨g, 0, none⟩) k c) (xs.take k) := by
  obtain ⟨h1, h2⟩ := h
  rcases h2 with ⟨h2, _⟩ | ⟨g', cap, cur, h2, hb, hg, hc, hm, hs, ht⟩
  · cases h2
  · simp only [Value.slice.injEq, Option.some.injEq, Addr.mk.injEq, and_true] at h2
    obtain ⟨rfl, hnx, rfl⟩ := h2
    have e1 : (xs.take k).length = k := by rw [List.length_take]; omega
    refine ⟨by simp, .inr ⟨g, c, cur, by rw [e1], hb, hg, by omega, hm, hs, ?_⟩⟩
    rw [e1, Nat.mul_one, List.map_take, ← ht, Nat.mul_one, List.take_take, Nat.min_eq_left (by omega)]
theorem own_zeros {base g n c : Nat} : ∀ (m o : Nat) (w : World) (xs : List Int), OwnInts w base (.slice (some ⟨g, 0, none⟩) n c) xs → ∃ ys, OwnInts (w.setCells g o (List.replicate m (.int .i64 0))) base (.slice (some ⟨g, 0, none⟩) n c) ys ∧ ys.length = xs.length ∧ ys.take o = xs.take o ∧ Keep (fun k => k ≠ g) w (w.setCells g o (List.replicate m (.int .i64 0)))
  | 0, o, w, xs, h => ⟨xs, h, rfl, rfl, Keep.refl _ _⟩
  | m + 1, o, w, xs, h => by
    obtain ⟨ys, h1, h2, h3, h4⟩ := own_zeros m (o + 1) _ _ (h.put o 0)
    refine ⟨ys, h1, by rw [h2, List.length_set], ?_, (Keep.set (Keep.refl _ w) (a := ⟨g, o, none⟩) (by simp) _).trans h4⟩
    have := congrArg (List.take o) h3
    rw [List.take_take, List.take_take, Nat.min_eq_left (by omega)] at this
    rw [this, List.take_set_of_le (by omega)]
/-- the row while 'DeleteFunc' goes over it -/
structure DelInv (ls xs : List Int) (i j : Nat) (dk : List Int) : Prop where
  len : dk.length = xs.length
  ij : i < j
  jl : j ≤ xs.length
  il : (keptL ls (xs.take j)).length = i
  low : dk.take i = keptL ls (xs.take j)
  high : ∀ k, j ≤ k → dk[k]? = xs[k]?
theorem DelInv.skip {ls xs dk : List Int} {i j : Nat} {x : Int} (h : DelInv ls xs i j dk) (hx : xs[j]? = some x) (hd : decide (x ∈ ls) = true) : DelInv ls xs i (j + 1) dk := by
  have hj := (List.getElem?_eq_some_iff.1 hx).1
  have e : keptL ls (xs.take (j + 1)) = keptL ls (xs.take j) := by rw [List.take_add_one, hx]; exact keptL_snoc_in hd
  exact ⟨h.len, by have := h.ij; omega, by omega, by rw [e]; exact h.il, by rw [e]; exact h.low, fun k hk => h.high k (by omega)⟩
theorem DelInv.keep {ls xs dk : List Int} {i j : Nat} {x : Int} (h : DelInv ls xs i j dk) (hx : xs[j]? = some x) (hd : decide (x ∈ ls) = false) : DelInv ls xs (i + 1) (j + 1) (dk.set i x) := by
  have hj := (List.getElem?_eq_some_iff.1 hx).1
  have hij := h.ij
  have hil : i < dk.length := by rw [h.len]; omega
  have e : keptL ls (xs.take (j + 1)) = keptL ls (xs.take j) ++ [x] := by rw [List.take_add_one, hx]; exact keptL_snoc_out hd
  refine ⟨by rw [List.length_set]; exact h.len, by omega, by omega, by rw [e, List.length_append, h.il]; rfl, ?_, fun k hk => ?_⟩
  · rw [e, List.take_add_one, List.getElem?_set_self hil, List.take_set_of_le (by omega), h.low]; rfl
  · rw [List.getElem?_set_ne (by omega)]; exact h.high k (by omega)
theorem DelInv.start {ls xs : List Int} {k : Nat} {x : Int} (hx : xs[k]? = some x) (hd : decide (x ∈ ls) = true) (h : AllTo (fun x => decide (x ∈ ls) = false) xs k) : DelInv ls xs k (k + 1) xs := by
  have hk := (List.getElem?_eq_some_iff.1 hx).1
  have e0 : keptL ls (xs.take k) = xs.take k := keptL_all fun y hy => by
    obtain ⟨j, hj⟩ := List.getElem?_of_mem hy
    rw [List.getElem?_take] at hj
    split at hj
    · rename_i hjk; exact h j y hjk hj
    · cases hj
  have e : keptL ls (xs.take (k + 1)) = xs.take k := by rw [List.take_add_one, hx]; exact (keptL_snoc_in hd).trans e0
  exact ⟨rfl, by omega, by omega, by rw [e, List.length_take]; omega, e.symm, fun _ _ => rfl⟩
set_option maxHeartbeats 4000000 in
set_option maxRecDepth 100000 in
theorem DelLast_c (B y base c : Nat) (A' : Option Addr) (c' : Nat) (xs ls : List Int) (w : World) (hq : w.cell? ⟨B, 2, none⟩ = some (.slice A' ls.length c')) (h' : SeeInts w A' ls) (hn' : ls.length ≤ 2097152) (hown : OwnInts w base (.slice (some ⟨y, 0, none⟩) xs.length c) xs)
    (hB : B ≠ y) (hA : ∀ W, Keep (fun k => k ≠ y) w W → SeeInts W A' ls) (hl : xs.length ≤ 5) :
    Calls Try.prog 87 #[.slice (some ⟨y, 0, none⟩) xs.length c, .func (.func 67) #[.pointer (some ⟨B, 0, none⟩)] #[]] w fun e w' =>
      e = .returned (.slice (some ⟨y, 0, none⟩) (keptL ls xs).length c) ∧ OwnInts w' base (.slice (some ⟨y, 0, none⟩) (keptL ls xs).length c) (keptL ls xs) ∧ Keep (fun k => k ≠ y) w w' := by
  have hix := IndexLast_c B (some ⟨y, 0, none⟩) A' c c' xs ls w hown.see' (by omega) hq h' hn'
  obtain ⟨R, hR⟩ : ∃ R, R = keptL ls xs := ⟨_, rfl⟩
  rw [← hR]
  have HR := Lib.hid hR
  have HO := Lib.hid hown
  have hcap : xs.length ≤ c := by
    rcases hown.2 with ⟨h2, _⟩ | ⟨g', cap, cur, h2, _, _, h3, _⟩
    · cases h2
    · simp only [Value.slice.injEq] at h2
      omega
  clear hR hown
  by_cases hall : ∀ x ∈ xs, decide (x ∈ ls) = false
  · rw [fidx_miss (fun j x _ hj => hall x (List.mem_of_getElem? hj))] at hix
    have HIX := Lib.hid hix
    have HE := Lib.hid (show R = xs by rw [HR.out]; exact keptL_all hall)
    clear hix hall
    go_enter Try.func87, Try.ntmps87
    go_wp2_with fail
    refine HIX.out.mono ?_
    rintro e w2 ⟨rfl, rfl⟩
    go_wp2
    go_returns
    rw [HE.out]
    exact ⟨rfl, HO.out, Keep.refl _ _⟩
  · obtain ⟨k0, x0, hx0, hd0, hto⟩ : ∃ (k : Nat) (x : Int), xs[k]? = some x ∧ decide (x ∈ ls) = true ∧ AllTo (fun x => decide (x ∈ ls) = false) xs k := by
      cases hf : xs.findIdx? (fun x => decide (x ∈ ls)) with
      | none =>
        exact absurd (fun x hx => by simpa using List.findIdx?_eq_none_iff.1 hf x hx) hall
      | some k =>
        obtain ⟨h1, h2, h3⟩ := List.findIdx?_eq_some_iff_getElem.1 hf
        exact ⟨k, xs[k], List.getElem?_eq_getElem h1, h2, fun j x hj hx => by
          have := h3 j hj
          rw [(List.getElem?_eq_some_iff.1 hx).2] at this
          simpa using this⟩
    rw [fidx_hit hx0 hd0 hto] at hix
    have hk0 := (List.getElem?_eq_some_iff.1 hx0).1
    have I0 := Lib.hid (DelInv.start hx0 hd0 hto)
    have HIX := Lib.hid hix
    have ne1 : ((k0 : Int) == -1) = false := beq_eq_false_iff_ne.2 (by omega)
    have h'L := Lib.hid hA
    clear hix hall hx0 hd0 hto h' hA
    go_enter Try.func87, Try.ntmps87
    go_wp2_with fail
    refine HIX.out.mono ?_
    rintro e w2 ⟨rfl, rfl⟩
    go_wp2
    obtain ⟨W0, rfl⟩ : ∃ W0, W0 = w2 := ⟨_, rfl⟩
    go_loopw [5, 6] (fun iv jv wr => ∃ (i j : Nat) (dk : List Int), iv = .int .i64 i ∧ jv = .int .i64 j ∧ j ≤ xs.length ∧ Hid (DelInv ls xs i j dk) ∧ OwnInts wr base (.slice (some ⟨y, 0, none⟩) xs.length c) dk ∧ Keep (fun k => k ≠ y) W0 wr) (fun _ jv _ => xs.length - (intOf jv).toNat)
    case atStart => exact ⟨k0, k0 + 1, xs, rfl, by go_num, hk0, I0, HO.out, Keep.refl _ _⟩
    case round =>
      obtain ⟨i, j, dk, rfl, rfl, hj, hI, hown, hK⟩ := hrel
      have hij := hI.out.ij
      by_cases hlt : j < xs.length
      · obtain ⟨x, hx⟩ := el hlt
        have hdj : dk[j]? = some x := by rw [hI.out.high j (Nat.le_refl _)]; exact hx
        obtain ⟨bb, oo, x', e, hx', qj⟩ := hown.see'.at_ (k := j) (List.getElem?_eq_some_iff.1 hdj).1
        simp only [Option.some.injEq, Addr.mk.injEq, and_true] at e
        obtain ⟨rfl, rfl⟩ := e
        rw [hdj] at hx'
        obtain rfl := Option.some.inj hx'
        rw [Nat.zero_add] at qj
        obtain ⟨z, hz⟩ := el (xs := dk) (k := i) (by rw [hI.out.len]; omega)
        obtain ⟨bb, oo, x', e, hx', qi⟩ := hown.see'.at_ (k := i) (List.getElem?_eq_some_iff.1 hz).1
        simp only [Option.some.injEq, Addr.mk.injEq, and_true] at e
        obtain ⟨rfl, rfl⟩ := e
        rw [hz] at hx'
        obtain rfl := Option.some.inj hx'
        rw [Nat.zero_add] at qi
        have fi := own_free hown i
        have hcx := isLast0_c B A' c' ls x wr (hK.cell (p := ⟨B, 2, none⟩) hB hq) (h'L.out _ hK) hn'
        have l0 : (0 : Int) ≤ j := by omega
        have l1 : (j : Int) < xs.length := by omega
        have l2 : (0 : Int) ≤ i := by omega
        have l3 : (i : Int) < xs.length := by omega
        have HOW := Lib.hid hown
        have HX := Lib.hid hx
        clear hx hdj hz hown
        cases e : decide (x ∈ ls)
        · rw [e] at hcx
          have HN := Lib.hid (hI.out.keep HX.out e)
          have HCX := Lib.hid hcx
          clear e hcx
          go_wp2_with fail
          refine HCX.out.mono ?_
          rintro e w3 ⟨rfl, rfl⟩
          go_wp2
          go_roundw
          case rel => exact ⟨i + 1, j + 1, dk.set i x, by go_num, by go_num, hlt, HN, HOW.out.put i x, hK.set (by simp) _⟩
          case measure => simp [intOf]; omega
        · rw [e] at hcx
          have HN := Lib.hid (hI.out.skip HX.out e)
          have HCX := Lib.hid hcx
          clear e hcx
          go_wp2_with fail
          refine HCX.out.mono ?_
          rintro e w3 ⟨rfl, rfl⟩
          go_wp2
          go_roundw
          case rel => exact ⟨i, j + 1, dk, rfl, by go_num, hlt, HN, HOW.out, hK⟩
          case measure => simp [intOf]; omega
      · have ek : j = xs.length := by omega
        have hR2 : R = dk.take i := by rw [HR.out, hI.out.low, ek, List.take_length]
        have hRl : R.length = i := by rw [hR2, List.length_take, hI.out.len]; omega
        have hcl : ∀ ty, (Builtin.clear_ #[23] ty #[.slice (some ⟨y, i, none⟩) (xs.length - i) (c - i)]).run Try.prog wr = .ok (.tuple #[]) (wr.setCells y i (List.replicate (xs.length - i) (.int .i64 0))) :=
          fun ty => Lib.run_clear_slice wr _ 2 ty _ Try.underlying23 Try.zeroValue2 rfl rfl y i _ _ (by omega) (fun t ht => by
            obtain ⟨z, hz⟩ := el (xs := dk) (k := i + t) (by rw [hI.out.len]; omega)
            obtain ⟨bb, oo, x', e, hx', qi⟩ := hown.see'.at_ (k := i + t) (List.getElem?_eq_some_iff.1 hz).1
            simp only [Option.some.injEq, Addr.mk.injEq, and_true] at e
            obtain ⟨rfl, rfl⟩ := e
            rw [Nat.zero_add] at qi
            rw [qi]; rfl) (fun t ht => own_free hown _)
        obtain ⟨ys, hy1, hy2, hy3, hy4⟩ := own_zeros (xs.length - i) i wr dk hown
        have hfin : OwnInts (wr.setCells y i (List.replicate (xs.length - i) (.int .i64 0))) base (.slice (some ⟨y, 0, none⟩) R.length c) R ∧ Keep (fun k => k ≠ y) W0 (wr.setCells y i (List.replicate (xs.length - i) (.int .i64 0))) := by
          refine ⟨?_, hK.trans hy4⟩
          have := own_take hy1 (k := i) (by omega)
          rw [hy3, ← hR2] at this
          rw [hRl]
          exact this
        have HF := Lib.hid hfin
        have HRL := Lib.hid hRl
        have nlt : ¬ (j : Int) < xs.length := by omega
        have i0 : (0 : Int) ≤ i := by omega
        have i1 : (i : Int) ≤ xs.length := by omega
        have i2 : (i : Int) ≤ c := by omega
        clear hfin hy1 hy2 hy3 hy4 hR2 hRl hown ek hlt
        go_wp2
        go_returns
        exact ⟨by rw [HRL.out]; rfl, HF.out⟩
end Go.Proofs.Ytbodaefdaagelaa
