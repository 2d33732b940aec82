/- The reference's order of maps, its search in ascending lists, and what it puts into them. No condition. -/
import Derived.Test.YtilfamenadaboaaTimesS
import Derived.Test.YtilfamenadaboaaMonP
import Derived.Test.YtilfamenadaboaaPushM
import Derived.Test.YtilfamenadaboaaCmp
import Derived.ChangeKeysEq
namespace Go.Proofs.Ytilfamenadaboaa
set_option linter.unusedSimpArgs false
set_option linter.unusedVariables false
set_option linter.unusedSectionVars false
open Go.RowKit
theorem eq_map (f g : Mp) (w : World) : (binOp .eql 34 (.agg #[.int .i64 f.p, .int .i64 f.a, .int .i64 f.b, .int .i64 f.c, .int .i64 f.d, .int .i64 f.e]) (.agg #[.int .i64 g.p, .int .i64 g.a, .int .i64 g.b, .int .i64 g.c, .int .i64 g.d, .int .i64 g.e])).run Try.prog w = .ok (.bool (decide (f = g))) w := by
  have e : decide (f = g) = (f.p == g.p && (f.a == g.a && (f.b == g.b && (f.c == g.c && (f.d == g.d && f.e == g.e))))) := by
    rw [Bool.eq_iff_iff]
    simp only [decide_eq_true_eq, Bool.and_eq_true, beq_iff_eq]
    constructor
    · rintro rfl; exact ⟨rfl, rfl, rfl, rfl, rfl, rfl⟩
    · obtain ⟨p, a, b, c, d, e⟩ := f
      obtain ⟨p', a', b', c', d', e'⟩ := g
      rintro ⟨h0, h1, h2, h3, h4, h5⟩
      simp only at h0 h1 h2 h3 h4 h5
      subst h0 h1 h2 h3 h4 h5
      rfl
  rw [e]
  obtain ⟨i0, hi, _, _, _⟩ := info_parts info_int
  have hc : Try.prog.cellsOf 2 = 1 := by kernel_rfl
  have ha := fun (xs ys : Array Value) (w : World) => run_equalIn_array (P := Try.prog) (w := w) 9998 (t := 30) (e := 2) (n := 5) xs ys Try.underlying30 hi
  have hr : List.range 5 = [0, 1, 2, 3, 4] := rfl
  simp only [hc, hr, Op.eqItems] at ha
  simp [go_sem, ha]
  clear ha e
  repeat' split
  all_goals simp_all
/-- the first digit in which two maps differ tells their order -/
theorem num_at {f g : Mp} {n : Int} (hf : MpN f n) (hg : MpN g n) {k : Nat} (hk : k < 5) (h : ∀ j, j < k → f.to j = g.to j) (hne : f.to k ≠ g.to k) : f.num < g.num ↔ f.to k < g.to k := by
  have h1 := hf.digs
  have h2 := hg.digs
  unfold Mp.num
  rcases (by omega : k = 0 ∨ k = 1 ∨ k = 2 ∨ k = 3 ∨ k = 4) with rfl | rfl | rfl | rfl | rfl
  · simp only [Mp.to] at *; omega
  · have e0 := h 0 (by omega); simp only [Mp.to] at *; omega
  · have e0 := h 0 (by omega); have e1 := h 1 (by omega); simp only [Mp.to] at *; omega
  · have e0 := h 0 (by omega); have e1 := h 1 (by omega); have e2 := h 2 (by omega); simp only [Mp.to] at *; omega
  · have e0 := h 0 (by omega); have e1 := h 1 (by omega); have e2 := h 2 (by omega); have e3 := h 3 (by omega); simp only [Mp.to] at *; omega
def lessB (f g : Mp) : Bool := decide (f.num < g.num)
set_option maxHeartbeats 2000000 in
theorem l01Less_c (f g : Mp) (n : Int) (w : World) (hf : MpN f n) (hg : MpN g n) : Calls Try.prog 95 #[.agg #[.int .i64 f.p, .int .i64 f.a, .int .i64 f.b, .int .i64 f.c, .int .i64 f.d, .int .i64 f.e], .agg #[.int .i64 g.p, .int .i64 g.a, .int .i64 g.b, .int .i64 g.c, .int .i64 g.d, .int .i64 g.e]] w fun e w' => e = .returned (.bool (lessB f g)) ∧ Below w.heap.size w w' := by
  have k0 : Below w.heap.size w ((w.alloc (.cells #[.int .i64 f.p, .int .i64 f.a, .int .i64 f.b, .int .i64 f.c, .int .i64 f.d, .int .i64 f.e] 34)).alloc (.cells #[.int .i64 g.p, .int .i64 g.a, .int .i64 g.b, .int .i64 g.c, .int .i64 g.d, .int .i64 g.e] 34)) := by go_grown
  have bf : MpBox ((w.alloc (.cells #[.int .i64 f.p, .int .i64 f.a, .int .i64 f.b, .int .i64 f.c, .int .i64 f.d, .int .i64 f.e] 34)).alloc (.cells #[.int .i64 g.p, .int .i64 g.a, .int .i64 g.b, .int .i64 g.c, .int .i64 g.d, .int .i64 g.e] 34)) w.heap.size f := (MpBox.new f 34 rfl).keep _
  have bg : MpBox ((w.alloc (.cells #[.int .i64 f.p, .int .i64 f.a, .int .i64 f.b, .int .i64 f.c, .int .i64 f.d, .int .i64 f.e] 34)).alloc (.cells #[.int .i64 g.p, .int .i64 g.a, .int .i64 g.b, .int .i64 g.c, .int .i64 g.d, .int .i64 g.e] 34)) (w.heap.size + 1) g := MpBox.new g 34 (by simp)
  have hp : f.p = g.p := hf.2.trans hg.2.symm
  have hpp : (f.p != g.p) = false := by simp [hp]
  have HP := Lib.hid hp
  clear hp
  have f1 := hf.1.1
  have f5 := hf.1.2.1
  have HFN := Lib.hid hf
  have HGN := Lib.hid hg
  have c0 := bf.at.cells0.1
  have d0 := bg.at.cells0.1
  clear hf hg
  go_enter Try.func95, Try.ntmps95
  go_wp2
  obtain ⟨W1, hW1⟩ : ∃ W1, W1 = (w.alloc (.cells #[.int .i64 f.p, .int .i64 f.a, .int .i64 f.b, .int .i64 f.c, .int .i64 f.d, .int .i64 f.e] 34)).alloc (.cells #[.int .i64 g.p, .int .i64 g.a, .int .i64 g.b, .int .i64 g.c, .int .i64 g.d, .int .i64 g.e] 34) := ⟨_, rfl⟩
  rw [← hW1] at k0 bf bg c0 d0 ⊢
  clear hW1
  go_loopw [5] (fun i wr => ∃ k : Nat, (k : Int) ≤ f.p ∧ i = .int .i64 k ∧ Hid (∀ j, j < k → f.to j = g.to j) ∧ Below W1.heap.size W1 wr) (fun i _ => 5 - (intOf i).toNat)
  case atStart => exact ⟨0, by omega, rfl, Lib.hid fun j hj => absurd hj (Nat.not_lt_zero _), Below.refl _ _⟩
  case round =>
    obtain ⟨k, hk, rfl, hj, hb⟩ := hrel
    have q0 := bcell hb c0
    by_cases hlt : (k : Int) < f.p
    · have hk5 : k < 5 := by omega
      have tf := ((bf.below hb).at.to' hk5)
      have tg := ((bg.below hb).at.to' hk5)
      have TF := bwcell tf
      have TG := bwcell tg
      have l0 : (0 : Int) ≤ k := by omega
      have l5 : (k : Int) < 5 := by omega
      clear tf tg
      by_cases hne : f.to k = g.to k
      · have d : (f.to k != g.to k) = false := by simp [hne]
        have HNE := Lib.hid hne
        clear hne
        go_wp2
        refine wp_region_bw (by kernel_rfl) (by kernel_rfl) ?_
        repeat go_big_quiet_step (fail)
        refine wpQuiet_nil ?_
        rintro w2 ⟨⟨w2x, hb2⟩, rfl⟩
        go_wp2
        go_roundw
        case rel =>
          refine ⟨k + 1, by omega, by go_num, Lib.hid fun j hjk => ?_, btrans hb hb2⟩
          rcases Nat.lt_succ_iff_lt_or_eq.1 hjk with h | rfl
          · exact hj.out j h
          · exact HNE.out
        case measure => simp [intOf]; omega
      · have d : (f.to k != g.to k) = true := by simp [hne]
        have hl := num_at HFN.out HGN.out hk5 hj.out hne
        have HL := Lib.hid hl
        clear hl hne
        go_wp2
        refine wp_region_bw (by kernel_rfl) (by kernel_rfl) ?_
        repeat go_big_quiet_step (fail)
        refine wpQuiet_nil ?_
        rintro w2 ⟨⟨w2x, hb2⟩, rfl⟩
        have TF2 := fun x : BW w2 => TF ⟨x.1, btrans hb2 x.2⟩
        have TG2 := fun x : BW w2 => TG ⟨x.1, btrans hb2 x.2⟩
        clear TF TG
        go_wp2
        refine wp_region_bw (by kernel_rfl) (by kernel_rfl) ?_
        repeat go_big_quiet_step (fail)
        refine wpQuiet_nil ?_
        rintro w3 ⟨⟨w3x, hb3⟩, rfl⟩
        go_wp2
        go_returns
        exact ⟨ret_bool (by unfold lessB; exact decide_eq_decide.2 HL.out.symm), btrans k0 (btrans hb (btrans hb2 hb3))⟩
    · have hkp : f.p = k := by omega
      have hfg : f = g := Mp.ext' HP.out fun i hi => by
        by_cases h : i < k
        · exact hj.out i h
        · rw [(HFN.out.1.2.2 i hi).2 (by omega), (HGN.out.1.2.2 i hi).2 (by have := HP.out; omega)]
      have HFG := Lib.hid hfg
      clear hfg hkp
      go_wp2
      go_returns
      exact ⟨ret_bool (by rw [HFG.out]; unfold lessB; simp), btrans k0 hb⟩
end Go.Proofs.Ytilfamenadaboaa
