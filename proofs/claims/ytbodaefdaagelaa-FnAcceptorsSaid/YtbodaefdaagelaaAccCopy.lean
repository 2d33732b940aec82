/- 'toAcceptor' copies, 'eqAcceptor' compares, 'szAcceptor' counts. No condition. -/
import Derived.Test.YtbodaefdaagelaaEq
namespace Go.Proofs.Ytbodaefdaagelaa
set_option linter.unusedSimpArgs false
set_option linter.unusedVariables false
set_option linter.unusedSectionVars false
open Go.RowKit
theorem szInt64S_c (A : Option Addr) (n c : Nat) (left : Int) (w : World) (hn : n ≤ 9223372036854775807) (hl : left ≤ 1048576) (hl0 : -1 ≤ left) :
    Calls Try.prog 57 #[.slice A n c, .int .i64 left] w fun e w' => e = .returned (.int .i64 (szL n left)) ∧ Below w.heap.size w w' := by
  by_cases h : left - n < 0
  all_goals
    go_enter Try.func57, Try.ntmps57
    go_wp2
    go_returns
    exact ⟨ret_int (by unfold szL; split <;> omega), Below.refl _ _⟩
set_option maxHeartbeats 1000000 in
theorem toAcceptor_c (A A' : Option Addr) (c c' : Nat) (ms : List Mp) (f : Int) (ls : List Int) (w : World) (h : SeeMaps w A ms) (hn : ms.length ≤ 2097152) (h' : SeeInts w A' ls) (hn' : ls.length ≤ 2097152) :
    Calls Try.prog 17 #[.agg #[.slice A ms.length c, .int .i64 f, .slice A' ls.length c']] w fun e w' => ∃ v v', e = .returned (.agg #[v, .int .i64 f, v']) ∧ OwnMaps w' w.heap.size v ms ∧ OwnInts w' w.heap.size v' ls ∧ Below w.heap.size w w' := by
  have k0 : Below w.heap.size w (w.alloc (Obj.cells #[Value.slice A ms.length c, .int .i64 f, Value.slice A' ls.length c'] 25)) := by go_grown
  go_enter Try.func17, Try.ntmps17
  go_wp2_with fail
  have k1 : Below w.heap.size w (((w.alloc (Obj.cells #[Value.slice A ms.length c, Value.int IntKind.i64 f, Value.slice A' ls.length c'] 25)).alloc (Obj.cells #[Value.slice none 0 0, Value.int IntKind.i64 0, Value.slice none 0 0] 30)).alloc (Obj.cells #[Value.slice none 0 0, Value.int IntKind.i64 0, Value.slice none 0 0] 30)) := by go_grown
  refine (toMapS_c A c ms _ (h.below k1) hn).mono ?_
  rintro e w1 ⟨v, rfl, hown, hb1⟩
  obtain ⟨B, cB, rfl, _⟩ := hown.see
  obtain ⟨hc, hf⟩ := brules hb1
  have hz1 := hb1.size
  simp only [World.size_alloc] at hz1
  have z0 : w.heap.size < w1.heap.size := by omega
  have z1 : w.heap.size + 1 < w1.heap.size := by omega
  have z2 : w.heap.size + 1 + 1 < w1.heap.size := by omega
  have k2 : Below w.heap.size w ((w1.setCell ⟨w.heap.size + 1 + 1, 0, none⟩ (.slice B ms.length cB)).setCell ⟨w.heap.size + 1 + 1, 1, none⟩ (.int .i64 f)) := by
    have := btrans k1 hb1
    go_grown
  go_wp2_with fail
  refine (toInt64S_c A' c' ls _ (h'.below k2) hn').mono ?_
  have hown := (hown.setBelow (a := ⟨w.heap.size + 1 + 1, 0, none⟩) (by simp) (.slice B ms.length cB)).setBelow (a := ⟨w.heap.size + 1 + 1, 1, none⟩) (by simp) (.int .i64 f)
  rintro e w2 ⟨v', rfl, hown', hb2⟩
  obtain ⟨B', cB', rfl, _⟩ := hown'.see
  obtain ⟨hc2, hf2⟩ := brules hb2
  go_wp2
  have hb3 := btrans k2 hb2
  refine bodyPost_ret (v := .agg #[.slice B ms.length cB, .int .i64 f, .slice B' ls.length cB']) (by simp [results, Try.results17, go_sem, hc, hc2, z1]) rfl ?_
  refine ⟨_, _, rfl, ?_, ?_, ?_⟩
  · have ho := hown.below hb2
    refine OwnMaps.mono ?_ (show w.heap.size ≤ w.heap.size + 1 + 1 + 1 by omega)
    iterate 4 refine OwnMaps.setBelow ?_ (by simp) _
    simpa using ho
  · refine OwnInts.mono ?_ (show w.heap.size ≤ w.heap.size + 1 + 1 + 1 by omega)
    iterate 4 refine OwnInts.setBelow ?_ (by simp) _
    exact hown'.mono (by simp; omega)
  · go_grown
def eqAcc (ms ms' : List Mp) (f f' : Int) (ls ls' : List Int) : Bool := decide (ms = ms' ∧ f = f' ∧ ls = ls')
theorem eqAcc_refl (ms : List Mp) (f : Int) (ls : List Int) : eqAcc ms ms f f ls ls = true := by simp [eqAcc]
set_option maxHeartbeats 1000000 in
theorem eqAcceptor_c (A A' C C' : Option Addr) (c c' d d' : Nat) (ms ns : List Mp) (f f' : Int) (ls ks : List Int) (w : World) (h : SeeMaps w A ms) (hn : ms.length ≤ 2097152) (h' : SeeInts w A' ls) (hn' : ls.length ≤ 2097152) (k : SeeMaps w C ns) (k' : SeeInts w C' ks) :
    Calls Try.prog 19 #[.agg #[.slice A ms.length c, .int .i64 f, .slice A' ls.length c'], .agg #[.slice C ns.length d, .int .i64 f', .slice C' ks.length d']] w fun e w' => e = .returned (.bool (eqAcc ms ns f f' ls ks)) ∧ Below w.heap.size w w' := by
  have k0 : Below w.heap.size w ((w.alloc (Obj.cells #[Value.slice A ms.length c, .int .i64 f, Value.slice A' ls.length c'] 30)).alloc (Obj.cells #[Value.slice C ns.length d, .int .i64 f', Value.slice C' ks.length d'] 30)) := by go_grown
  by_cases h1 : ms = ns
  · have d1 : decide (ms = ns) = true := decide_eq_true h1
    by_cases h2 : f = f'
    · have d2 : (f != f') = false := by simpa using h2
      have H := Lib.hid (And.intro h1 h2)
      clear h1 h2
      cases h3 : decide (ls = ks)
      all_goals
        go_enter Try.func19, Try.ntmps19
        go_wp2_with fail
        refine (valB (eqMapS_c A C c d ms ns _ hn (h.below k0) (k.below k0)) d1).mono ?_
        rintro e w1 ⟨rfl, hb1⟩
        obtain ⟨hc, hf⟩ := brules hb1
        go_wp2_with fail
        have k1 := btrans k0 hb1
        refine (valB (eqInt64S_c A' C' c' d' ls ks _ hn' (h'.below k1) (k'.below k1)) h3).mono ?_
        rintro e w2 ⟨rfl, hb2⟩
        go_wp2
        go_returns
        refine ⟨ret_bool ?_, btrans k1 hb2⟩
        simpa [eqAcc, H.out] using h3
    · have d2 : (f != f') = true := by simpa using h2
      clear h1
      go_enter Try.func19, Try.ntmps19
      go_wp2_with fail
      refine (valB (eqMapS_c A C c d ms ns _ hn (h.below k0) (k.below k0)) d1).mono ?_
      rintro e w1 ⟨rfl, hb1⟩
      obtain ⟨hc, hf⟩ := brules hb1
      go_wp2
      go_returns
      exact ⟨ret_bool (by simp [eqAcc, h2]), btrans k0 hb1⟩
  · have d1 : decide (ms = ns) = false := decide_eq_false h1
    go_enter Try.func19, Try.ntmps19
    go_wp2_with fail
    refine (valB (eqMapS_c A C c d ms ns _ hn (h.below k0) (k.below k0)) d1).mono ?_
    rintro e w1 ⟨rfl, hb1⟩
    obtain ⟨hc, hf⟩ := brules hb1
    go_wp2
    go_returns
    exact ⟨ret_bool (by simp [eqAcc, h1]), btrans k0 hb1⟩
def szAcc (n n' : Nat) (left : Int) : Int := if szL n left < 0 then -1 else if szL n' (szL n left) < 0 then -1 else szL n' (szL n left)
set_option maxHeartbeats 1000000 in
theorem szAcceptor_c (A A' : Option Addr) (n c n' c' : Nat) (f left : Int) (w : World) (hn : n ≤ 9223372036854775807) (hn' : n' ≤ 9223372036854775807) (hl : left ≤ 1048576) (hl0 : 0 ≤ left) :
    Calls Try.prog 15 #[.agg #[.slice A n c, .int .i64 f, .slice A' n' c'], .int .i64 left] w fun e w' => e = .returned (.int .i64 (szAcc n n' left)) ∧ Below w.heap.size w w' := by
  by_cases h1 : szL n left < 0
  · go_enter Try.func15, Try.ntmps15
    go_wp2_with (go_at_call 56; go_must (refine (szMapS_c _ _ _ _ _ hn hl (by omega)).mono ?_); rintro e w1 ⟨rfl, hb1⟩)
    go_returns
    exact ⟨ret_int (by simp [szAcc, h1]), btrans (w1 := _) (by repeat' (first | (with_reducible exact Below.refl _ _) | (with_reducible assumption) | (with_reducible refine bdrewN ?_ _) | (with_reducible refine Below.alloc ?_ ?_ _) | (with_reducible refine Below.drew ?_) | (with_reducible refine Below.setCell ?_ ?_ _) | go_size)) hb1⟩
  · have b1 : szL n left ≤ 1048576 := by unfold szL; split <;> omega
    by_cases h2 : szL n' (szL n left) < 0
    all_goals
      go_enter Try.func15, Try.ntmps15
      go_wp2_with fail
      refine (szMapS_c _ _ _ _ _ hn hl (by omega)).mono ?_
      rintro e w1 ⟨rfl, hb1⟩
      obtain ⟨hc, hf⟩ := brules hb1
      have z0 := hb1.size
      simp only [World.size_alloc] at z0
      go_wp2_with fail
      refine (szInt64S_c _ _ _ _ _ hn' b1 (by omega)).mono ?_
      rintro e w2 ⟨rfl, hb2⟩
      go_wp2
      go_returns
      exact ⟨ret_int (by unfold szAcc; rw [if_neg (by omega)]; first | rw [if_pos (by assumption)] | rw [if_neg (by omega)]), btrans (w1 := w1) (btrans (w1 := _) (by repeat' (first | (with_reducible exact Below.refl _ _) | (with_reducible assumption) | (with_reducible refine bdrewN ?_ _) | (with_reducible refine Below.alloc ?_ ?_ _) | (with_reducible refine Below.drew ?_) | (with_reducible refine Below.setCell ?_ ?_ _) | go_size)) hb1) hb2⟩
theorem szL_neg {n : Nat} {left : Int} (h : left - n < 0) : szL n left = -1 := by unfold szL; rw [if_pos h]
theorem szL_pos {n : Nat} {left : Int} (h : ¬ left - n < 0) : szL n left = left - n := by unfold szL; rw [if_neg h]
theorem szAcc_ok2 {n n' : Nat} {left : Int} (h : ¬ szAcc n n' left < 0) (hl : left ≤ 1048576) (hl0 : 0 ≤ left) : n ≤ 1048576 ∧ n' ≤ 1048576 ∧ 0 ≤ szAcc n n' left ∧ szAcc n n' left ≤ 1048576 := by
  unfold szAcc at h ⊢
  by_cases h1 : szL n left < 0
  · rw [if_pos h1] at h; omega
  · rw [if_neg h1] at h ⊢
    by_cases h2 : szL n' (szL n left) < 0
    · rw [if_pos h2] at h; omega
    · rw [if_neg h2] at h ⊢
      have e1 : szL n left = left - n := by
        unfold szL at h1 ⊢
        by_cases e : left - n < 0
        · rw [if_pos e] at h1; omega
        · rw [if_neg e]
      rw [e1] at h1 h2 ⊢
      have e2 : szL n' (left - n) = left - n - n' := by
        unfold szL at h2 ⊢
        by_cases e : left - n - n' < 0
        · rw [if_pos e] at h2; omega
        · rw [if_neg e]
      rw [e2] at h2 ⊢
      omega
theorem szAcc_ok {n n' : Nat} (h : ¬ szAcc n n' 1048576 < 0) : n ≤ 1048576 ∧ n' ≤ 1048576 := by
  unfold szAcc at h
  by_cases h1 : (1048576 : Int) - n < 0
  · rw [szL_neg h1, if_pos (by decide)] at h
    exact absurd (by decide) h
  · rw [szL_pos h1, if_neg h1] at h
    by_cases h2 : (1048576 : Int) - n - n' < 0
    · rw [szL_neg h2, if_pos (by decide)] at h
      exact absurd (by decide) h
    · omega
end Go.Proofs.Ytbodaefdaagelaa
