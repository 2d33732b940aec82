/- Helpers of the great laws over maps: 'maps9', 'hasMap9'. No condition. -/
import Derived.Test.YtilfamenadaboaaGreatLike
import Derived.Test.YtilfamenadaboaaGreatSpecB
import Derived.Test.YtilfamenadaboaaGreatOf
namespace Go.Proofs.YtilfamenadaboaaGreat
set_option linter.unusedSimpArgs false
set_option linter.unusedVariables false
set_option linter.unusedSectionVars false
open Go.RowKit
set_option maxHeartbeats 1000000 in
theorem maps9_c (A A' : Option Addr) (c c' : Nat) (ms ms' : List Mp) (w : World) (hn : ms.length ≤ 2097152) (h : SeeMaps w A ms) (h' : SeeMaps w A' ms') :
    Calls Tryz.prog 9 #[.slice A ms.length c, .slice A' ms'.length c'] w fun e w' => e = .returned (.bool (decide (ms = ms'))) ∧ Below w.heap.size w w' := by
  by_cases hlen : ms.length = ms'.length
  · rw [← hlen]
    have HL := Lib.hid hlen
    clear hlen
    go_enter Tryz.func9, Tryz.ntmps9
    go_wp2
    go_loopw [5] (fun i wr => ∃ k : Nat, k ≤ ms.length ∧ i = .int .i64 k ∧ Upto ms ms' k ∧ Below w.heap.size w wr) (fun i _ => ms.length - (intOf i).toNat)
    case atStart => exact ⟨0, Nat.zero_le _, rfl, Upto.zero _ _, Below.refl _ _⟩
    case round =>
      obtain ⟨k, hk, rfl, hj, hb⟩ := hrel
      by_cases hlt : k < ms.length
      · obtain ⟨b, o, m, rfl, hm, g⟩ := (h.below hb).at_ hlt
        obtain ⟨b', o', m', rfl, hm', g'⟩ := (h'.below hb).at_ (by rw [← HL.out]; exact hlt)
        obtain ⟨g0, g1, g2, g3, g4, g5⟩ := g.bw
        obtain ⟨q0, q1, q2, q3, q4, q5⟩ := g'.bw
        have HJ := Lib.hid hj
        have HM := Lib.hid hm
        have HM' := Lib.hid hm'
        clear hj hm hm' h h'
        have hl : (0 : Int) ≤ k := by omega
        have hl' : (k : Int) < ms.length := by omega
        by_cases he : m = m'
        · have d := neq_map m m'
          simp only [decide_eq_true he, Bool.not_true] at d
          have HE := Lib.hid he
          clear he
          go_wp2
          refine wp_region_bw (by kernel_rfl) (by kernel_rfl) ?_
          repeat go_big_quiet_step (fail)
          refine wpQuiet_nil ?_
          rintro _ ⟨⟨w2, hb2⟩, rfl⟩
          go_wp2
          go_roundw
          case rel => exact ⟨k + 1, by omega, by go_num, HJ.out.snoc (by rw [HM.out, HM'.out, HE.out]), btrans hb hb2⟩
          case measure => simp [intOf]; omega
        · have d := neq_map m m'
          simp only [decide_eq_false he, Bool.not_false] at d
          go_wp2
          refine wp_region_bw (by kernel_rfl) (by kernel_rfl) ?_
          repeat go_big_quiet_step (fail)
          refine wpQuiet_nil ?_
          rintro _ ⟨⟨w2, hb2⟩, rfl⟩
          go_wp2
          go_returns
          refine ⟨ret_bool (decide_eq_false fun e => he ?_).symm, btrans hb hb2⟩
          exact Option.some.inj (HM.out.symm.trans ((congrArg (fun l => l[k]?) e).trans HM'.out))
      · obtain rfl : k = ms.length := by omega
        go_wp2
        go_returns
        exact ⟨ret_bool (decide_eq_true (hj.all HL.out)).symm, hb⟩
  · have d : ((ms.length : Int) != (ms'.length : Int)) = true := by rw [bne_iff_ne]; omega
    go_enter Tryz.func9, Tryz.ntmps9
    go_wp2
    go_returns
    exact ⟨ret_bool (decide_eq_false fun e => hlen (by rw [e])).symm, Below.refl _ _⟩
set_option maxHeartbeats 1000000 in
theorem hasMap9_c (A : Option Addr) (c : Nat) (ms : List Mp) (f : Mp) (w : World) (hn : ms.length ≤ 2097152) (h : SeeMaps w A ms) :
    Calls Tryz.prog 21 #[.slice A ms.length c, .agg #[.int .i64 f.p, .int .i64 f.a, .int .i64 f.b, .int .i64 f.c, .int .i64 f.d, .int .i64 f.e]] w fun e w' => e = .returned (.bool (decide (f ∈ ms))) ∧ Below w.heap.size w w' := by
  have k0 := kbelow w (.cells #[.int .i64 f.p, .int .i64 f.a, .int .i64 f.b, .int .i64 f.c, .int .i64 f.d, .int .i64 f.e] 27)
  have b0 : MpBox (w.alloc (.cells #[.int .i64 f.p, .int .i64 f.a, .int .i64 f.b, .int .i64 f.c, .int .i64 f.d, .int .i64 f.e] 27)) w.heap.size f := MpBox.new f 27 rfl
  obtain ⟨W, hW⟩ : ∃ W, W = w.alloc (.cells #[.int .i64 f.p, .int .i64 f.a, .int .i64 f.b, .int .i64 f.c, .int .i64 f.d, .int .i64 f.e] 27) := ⟨_, rfl⟩
  obtain ⟨r, hr⟩ : ∃ r, r = decide (f ∈ ms) := ⟨_, rfl⟩
  rw [← hr]
  have HR := Lib.hid hr
  rw [← hW] at k0 b0
  clear hr
  go_enter Tryz.func21, Tryz.ntmps21
  go_wp2
  rw [← hW]
  clear hW
  go_loopw [5] (fun i wr => ∃ k : Nat, k ≤ ms.length ∧ i = .int .i64 k ∧ Hid (∀ j, j < k → ms[j]? ≠ some f) ∧ Below W.heap.size W wr) (fun i _ => ms.length - (intOf i).toNat)
  case atStart => exact ⟨0, Nat.zero_le _, rfl, Lib.hid fun j hj => absurd hj (by omega), Below.refl _ _⟩
  case round =>
    obtain ⟨k, hk, rfl, hj, hb⟩ := hrel
    by_cases hlt : k < ms.length
    · obtain ⟨b, o, m, rfl, hm, g⟩ := (h.below (btrans k0 hb)).at_ hlt
      obtain ⟨g0, g1, g2, g3, g4, g5⟩ := g.bw
      obtain ⟨q0, q1, q2, q3, q4, q5⟩ := (b0.below hb).at.bw
      simp only [Nat.zero_add] at q0 q1 q2 q3 q4 q5
      have HM := Lib.hid hm
      clear hm h
      have hl : (0 : Int) ≤ k := by omega
      have hl' : (k : Int) < ms.length := by omega
      by_cases he : m = f
      · have d := eq_map m f
        simp only [decide_eq_true he] at d
        have HRR := Lib.hid (show r = true by rw [HR.out]; exact decide_eq_true (by rw [← he]; exact List.mem_of_getElem? HM.out))
        clear he
        go_wp2
        refine wp_region_bw (by kernel_rfl) (by kernel_rfl) ?_
        repeat go_big_quiet_step (fail)
        refine wpQuiet_nil ?_
        rintro _ ⟨⟨w2, hb2⟩, rfl⟩
        go_wp2
        go_returns
        exact ⟨ret_bool HRR.out.symm, btrans k0 (btrans hb hb2)⟩
      · have d := eq_map m f
        simp only [decide_eq_false he] at d
        have HJ := Lib.hid (show ∀ j, j < k + 1 → ms[j]? ≠ some f from fun j hj' => by
          rcases Nat.lt_or_ge j k with h1 | h1
          · exact hj.out j h1
          · obtain rfl : j = k := by omega
            rw [HM.out]
            exact fun e => he (Option.some.inj e))
        clear he
        go_wp2
        refine wp_region_bw (by kernel_rfl) (by kernel_rfl) ?_
        repeat go_big_quiet_step (fail)
        refine wpQuiet_nil ?_
        rintro _ ⟨⟨w2, hb2⟩, rfl⟩
        go_wp2
        go_roundw
        case rel => exact ⟨k + 1, by omega, by go_num, HJ, btrans hb hb2⟩
        case measure => simp [intOf]; omega
    · obtain rfl : k = ms.length := by omega
      have HRR := Lib.hid (show r = false by
        rw [HR.out]
        refine decide_eq_false fun hm => ?_
        obtain ⟨j, hj'⟩ := List.getElem?_of_mem hm
        exact hj.out j (List.getElem?_eq_some_iff.1 hj').1 hj')
      go_wp2
      go_returns
      exact ⟨ret_bool HRR.out.symm, btrans k0 hb⟩
end Go.Proofs.YtilfamenadaboaaGreat
