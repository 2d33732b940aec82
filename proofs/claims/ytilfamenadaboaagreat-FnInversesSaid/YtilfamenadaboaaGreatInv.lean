/- 'inverses': all inverses of an element, and those with which it commutes. No condition. -/
import Derived.Test.YtilfamenadaboaaGreatOf
namespace Go.Proofs.YtilfamenadaboaaGreat
set_option linter.unusedSimpArgs false
set_option linter.unusedVariables false
set_option linter.unusedSectionVars false
open Go.RowKit
section
variable {l : List Mp} {n : Int} {M i bm bf : Nat} {f : Mp} {w : World}
set_option maxRecDepth 100000 in
set_option maxHeartbeats 2000000 in
theorem inverses1_p (hc : Clo l n) (mon : MonAt w M l n) (hi : l[i]? = some f) (qm : w.cell? ⟨bm, 0, none⟩ = some (.pointer (some ⟨M, 0, none⟩))) (qf : w.cell? ⟨bf, 0, none⟩ = some (.int .i64 i)) :
    PredM 80 #[] #[.pointer (some ⟨bm, 0, none⟩), .pointer (some ⟨bf, 0, none⟩)] l (invB f) w := fun W j g hW hj => by
  have qm1 := bcell hW qm
  have qf1 := bcell hW qf
  obtain ⟨q, hq, h1⟩ := hc.call (mon.below hW) hi hj
  obtain ⟨q2, hq2, h2⟩ := hc.call (mon.below hW) hq hi
  obtain ⟨q3, hq3, h3⟩ := hc.call (mon.below hW) hj hq
  have hs2 := hc.same hq2 hi
  have hs3 := hc.same hq3 hj
  have H1 := Lib.hid h1
  have H2 := Lib.hid h2
  have H3 := Lib.hid h3
  show Calls Tryz.prog 80 #[.int .i64 (j : Int), .pointer (some ⟨bm, 0, none⟩), .pointer (some ⟨bf, 0, none⟩)] W fun e w' => e = .returned (.bool (decide (mulM (mulM f g) f = f) && decide (mulM g (mulM f g) = g))) ∧ Below W.heap.size W w'
  cases e2 : decide (mulM (mulM f g) f = f)
  · rw [e2] at hs2
    clear e2 hs3 h1 h2 h3 hq hq2 hq3 qm qf hW hj hi mon hc
    go_enter Tryz.func80, Tryz.ntmps80
    go_wp2_with fail
    refine (H1.out ⟨W, Below.refl _ _⟩).mono ?_
    rintro e w2 ⟨rfl, hb2⟩
    have QM := bwcell (bcell hb2 qm1)
    have QF := bwcell (bcell hb2 qf1)
    have H2' := fun x : BW w2 => H2.out ⟨x.1, btrans hb2 x.2⟩
    clear qm1 qf1
    go_wp2
    refine wp_region_bw (by kernel_rfl) (by kernel_rfl) ?_
    repeat go_big_quiet_step ((go_at_call 68; exact Calls.bw _ (H2' _)))
    refine wpQuiet_nil ?_
    rintro w4 ⟨⟨w4x, hb4⟩, rfl⟩
    go_wp2
    go_returns
    exact ⟨rfl, btrans hb2 hb4⟩
  · cases e3 : decide (mulM g (mulM f g) = g)
    all_goals
      rw [e2] at hs2
      rw [e3] at hs3
      clear e2 e3 h1 h2 h3 hq hq2 hq3 qm qf hW hj hi mon hc
      go_enter Tryz.func80, Tryz.ntmps80
      go_wp2_with fail
      refine (H1.out ⟨W, Below.refl _ _⟩).mono ?_
      rintro e w2 ⟨rfl, hb2⟩
      have QM := bwcell (bcell hb2 qm1)
      have QF := bwcell (bcell hb2 qf1)
      have H2' := fun x : BW w2 => H2.out ⟨x.1, btrans hb2 x.2⟩
      have H3' := fun x : BW w2 => H3.out ⟨x.1, btrans hb2 x.2⟩
      clear qm1 qf1
      go_wp2
      refine wp_region_bw (by kernel_rfl) (by kernel_rfl) ?_
      repeat go_big_quiet_step ((first | (go_at_call_of 68 (Value.int .i64 (i : Int)); exact Calls.bw _ (H2' _)) | (go_at_call_of 68 (Value.int .i64 (j : Int)); exact Calls.bw _ (H3' _))))
      refine wpQuiet_nil ?_
      rintro w4 ⟨⟨w4x, hb4⟩, rfl⟩
      go_wp2
      go_returns
      exact ⟨rfl, btrans hb2 hb4⟩
set_option maxRecDepth 100000 in
set_option maxHeartbeats 2000000 in
theorem inverses_m (hc : Clo l n) : MethM 41 l n (fun f => l.filter (invB f)) := fun w M i f mon hi => by
  have kk : Below w.heap.size w ((w.alloc (.cells #[.pointer (some ⟨M, 0, none⟩)] 48)).alloc (.cells #[.int .i64 (i : Int)] 3)) := by go_grown
  have qm : ((w.alloc (.cells #[.pointer (some ⟨M, 0, none⟩)] 48)).alloc (.cells #[.int .i64 (i : Int)] 3)).cell? ⟨w.heap.size, 0, none⟩ = some (.pointer (some ⟨M, 0, none⟩)) := by simp [go_sem]
  have qf : ((w.alloc (.cells #[.pointer (some ⟨M, 0, none⟩)] 48)).alloc (.cells #[.int .i64 (i : Int)] 3)).cell? ⟨w.heap.size + 1, 0, none⟩ = some (.int .i64 (i : Int)) := by simp [go_sem]
  have hp := inverses1_p hc (mon.below kk) hi qm qf
  have honly := only_c M l n 80 _ _ (enters_of Tryz.func80 (by kernel_rfl) rfl) _ (mon.below kk) hc.len hp
  have HA := Lib.hid honly
  clear honly hp qf hi mon hc
  go_enter Tryz.func41, Tryz.ntmps41
  go_wp2_with fail
  refine HA.out.mono ?_
  rintro e w2 ⟨v, rfl, hown, hb2⟩
  obtain ⟨Av, cv, rfl, _⟩ := hown.see
  go_wp2
  go_returns
  exact ⟨_, rfl, hown.mono kk.size, btrans kk hb2⟩
end
end Go.Proofs.YtilfamenadaboaaGreat
