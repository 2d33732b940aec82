/- 'isBelow' and 'l04Below': whether an element is below another one. No condition. -/
import Derived.Test.YtilfamenadaboaaGreatRegMon
import Derived.Test.YtilfamenadaboaaGreatInvMon
namespace Go.Proofs.YtilfamenadaboaaGreat
set_option linter.unusedSimpArgs false
set_option linter.unusedVariables false
set_option linter.unusedSectionVars false
open Go.RowKit
def lB (f g e : Mp) : Bool := idemB e && decide (mulM e g = f)
def rB (f g e : Mp) : Bool := idemB e && decide (mulM g e = f)
def belowB (l : List Mp) (f g : Mp) : Bool := l.any (lB f g) && l.any (rB f g)
set_option maxHeartbeats 1000000 in
theorem isIdempotent_c (f : Mp) (n : Int) (w : World) (hf : MpN f n) : Calls Tryz.prog 54 #[.agg #[.int .i64 f.p, .int .i64 f.a, .int .i64 f.b, .int .i64 f.c, .int .i64 f.d, .int .i64 f.e]] w fun e w' => e = .returned (.bool (idemB f)) ∧ Below w.heap.size w w' := by
  have kk := kbelow w (.cells #[.int .i64 f.p, .int .i64 f.a, .int .i64 f.b, .int .i64 f.c, .int .i64 f.d, .int .i64 f.e] 27)
  obtain ⟨y0, y1, y2, y3, y4, y5⟩ := (MpBox.new (w := w) f 27 rfl).at.bw
  simp only [Nat.zero_add] at y0 y1 y2 y3 y4 y5
  have he := eq_map (mulM f f) f
  have hd : decide (mulM f f = f) = idemB f := rfl
  simp only [hd] at he
  clear hd
  generalize idemB f = b at *
  go_enter Tryz.func54, Tryz.ntmps54
  go_wp2
  refine wp_region_bw (by kernel_rfl) (by kernel_rfl) ?_
  repeat go_big_quiet_step ((go_at_call 92; exact Calls.bw _ (times_c f f n _ hf hf)))
  refine wpQuiet_nil ?_
  rintro w2 ⟨⟨w2x, hb2⟩, rfl⟩
  go_wp2
  go_returns
  exact ⟨rfl, btrans kk hb2⟩
set_option maxHeartbeats 1000000 in
theorem l01Idempotent_c (f : Mp) (n : Int) (w : World) (hf : MpN f n) : Calls Tryz.prog 102 #[.agg #[.int .i64 f.p, .int .i64 f.a, .int .i64 f.b, .int .i64 f.c, .int .i64 f.d, .int .i64 f.e]] w fun e w' => e = .returned (.bool (idemB f)) ∧ Below w.heap.size w w' := by
  have kk := kbelow w (.cells #[.int .i64 f.p, .int .i64 f.a, .int .i64 f.b, .int .i64 f.c, .int .i64 f.d, .int .i64 f.e] 27)
  obtain ⟨y0, y1, y2, y3, y4, y5⟩ := (MpBox.new (w := w) f 27 rfl).at.bw
  simp only [Nat.zero_add] at y0 y1 y2 y3 y4 y5
  have he := eq_map (mulM f f) f
  have hd : decide (mulM f f = f) = idemB f := rfl
  simp only [hd] at he
  clear hd
  generalize idemB f = b at *
  go_enter Tryz.func102, Tryz.ntmps102
  go_wp2
  refine wp_region_bw (by kernel_rfl) (by kernel_rfl) ?_
  repeat go_big_quiet_step ((go_at_call 69; exact Calls.bw _ (l01Times_c f f n _ hf hf)))
  refine wpQuiet_nil ?_
  rintro w2 ⟨⟨w2x, hb2⟩, rfl⟩
  go_wp2
  go_returns
  exact ⟨rfl, btrans kk hb2⟩
section
variable {l : List Mp} {n : Int} {M i j bm bf bg : Nat} {f g : Mp} {w : World}
set_option maxRecDepth 100000 in
set_option maxHeartbeats 2000000 in
theorem isBelow1_p (hc : Clo l n) (mon : MonAt w M l n) (hi : l[i]? = some f) (hj : l[j]? = some g) (qm : w.cell? ⟨bm, 0, none⟩ = some (.pointer (some ⟨M, 0, none⟩))) (qf : w.cell? ⟨bf, 0, none⟩ = some (.int .i64 i)) (qg : w.cell? ⟨bg, 0, none⟩ = some (.int .i64 j)) :
    PredM 100 #[] #[.pointer (some ⟨bm, 0, none⟩), .pointer (some ⟨bg, 0, none⟩), .pointer (some ⟨bf, 0, none⟩)] l (lB f g) w := fun W k e hW hk => by
  have QM := bwcell (bcell hW qm)
  have QF := bwcell (bcell hW qf)
  have QG := bwcell (bcell hW qg)
  obtain ⟨A, c, c0, see⟩ := (mon.below hW).cellsOf
  have C0 := bwcell c0
  have lk := (List.getElem?_eq_some_iff.1 hk).1
  obtain ⟨b, o, x, rfl, hx, gx⟩ := see.at_ lk
  rw [hk] at hx
  obtain rfl := Option.some.inj hx
  obtain ⟨x0, x1, x2, x3, x4, x5⟩ := gx.bw
  have k0 : (0 : Int) ≤ k := by omega
  have k1 : (k : Int) < l.length := by omega
  have eN := (hc.get hk).2
  obtain ⟨q, hq, h1⟩ := hc.call (mon.below hW) hk hj
  have hs := hc.same hq hi
  have H1 := Lib.hid h1
  show Calls Tryz.prog 100 #[.int .i64 (k : Int), .pointer (some ⟨bm, 0, none⟩), .pointer (some ⟨bg, 0, none⟩), .pointer (some ⟨bf, 0, none⟩)] W fun r w' => r = .returned (.bool (idemB e && decide (mulM e g = f))) ∧ Below W.heap.size W w'
  have hid := fun W => isIdempotent_c e n W eN
  cases e1 : idemB e
  · have HI := Lib.hid (fun W => valB (hid W) e1)
    clear e1 hid hs h1 hq hx gx see c0 qm qf qg hW hj hi hk mon hc lk
    go_enter Tryz.func100, Tryz.ntmps100
    go_wp2
    refine wp_region_bw (by kernel_rfl) (by kernel_rfl) ?_
    repeat go_big_quiet_step ((go_at_call 54; exact Calls.bw _ (HI.out _)))
    refine wpQuiet_nil ?_
    rintro w2 ⟨⟨w2x, hb2⟩, rfl⟩
    go_wp2
    go_returns
    exact ⟨rfl, hb2⟩
  · have HI := Lib.hid (fun W => valB (hid W) e1)
    rw [← hs]
    clear e1 hid hs h1 hq hx gx see c0 qm qf qg hW hj hi hk mon hc lk
    go_enter Tryz.func100, Tryz.ntmps100
    go_wp2
    refine wp_region_bw (by kernel_rfl) (by kernel_rfl) ?_
    repeat go_big_quiet_step ((first | (go_at_call 54; exact Calls.bw _ (HI.out _)) | (go_at_call 68; exact Calls.bw _ (H1.out _))))
    refine wpQuiet_nil ?_
    rintro w2 ⟨⟨w2x, hb2⟩, rfl⟩
    go_wp2
    go_returns
    exact ⟨by simp, hb2⟩
set_option maxRecDepth 100000 in
set_option maxHeartbeats 2000000 in
theorem isBelow2_p (hc : Clo l n) (mon : MonAt w M l n) (hi : l[i]? = some f) (hj : l[j]? = some g) (qm : w.cell? ⟨bm, 0, none⟩ = some (.pointer (some ⟨M, 0, none⟩))) (qf : w.cell? ⟨bf, 0, none⟩ = some (.int .i64 i)) (qg : w.cell? ⟨bg, 0, none⟩ = some (.int .i64 j)) :
    PredM 101 #[] #[.pointer (some ⟨bm, 0, none⟩), .pointer (some ⟨bg, 0, none⟩), .pointer (some ⟨bf, 0, none⟩)] l (rB f g) w := fun W k e hW hk => by
  have QM := bwcell (bcell hW qm)
  have QF := bwcell (bcell hW qf)
  have QG := bwcell (bcell hW qg)
  obtain ⟨A, c, c0, see⟩ := (mon.below hW).cellsOf
  have C0 := bwcell c0
  have lk := (List.getElem?_eq_some_iff.1 hk).1
  obtain ⟨b, o, x, rfl, hx, gx⟩ := see.at_ lk
  rw [hk] at hx
  obtain rfl := Option.some.inj hx
  obtain ⟨x0, x1, x2, x3, x4, x5⟩ := gx.bw
  have k0 : (0 : Int) ≤ k := by omega
  have k1 : (k : Int) < l.length := by omega
  have eN := (hc.get hk).2
  obtain ⟨q, hq, h1⟩ := hc.call (mon.below hW) hj hk
  have hs := hc.same hq hi
  have H1 := Lib.hid h1
  show Calls Tryz.prog 101 #[.int .i64 (k : Int), .pointer (some ⟨bm, 0, none⟩), .pointer (some ⟨bg, 0, none⟩), .pointer (some ⟨bf, 0, none⟩)] W fun r w' => r = .returned (.bool (idemB e && decide (mulM g e = f))) ∧ Below W.heap.size W w'
  have hid := fun W => isIdempotent_c e n W eN
  cases e1 : idemB e
  · have HI := Lib.hid (fun W => valB (hid W) e1)
    clear e1 hid hs h1 hq hx gx see c0 qm qf qg hW hj hi hk mon hc lk
    go_enter Tryz.func101, Tryz.ntmps101
    go_wp2
    refine wp_region_bw (by kernel_rfl) (by kernel_rfl) ?_
    repeat go_big_quiet_step ((go_at_call 54; exact Calls.bw _ (HI.out _)))
    refine wpQuiet_nil ?_
    rintro w2 ⟨⟨w2x, hb2⟩, rfl⟩
    go_wp2
    go_returns
    exact ⟨rfl, hb2⟩
  · have HI := Lib.hid (fun W => valB (hid W) e1)
    rw [← hs]
    clear e1 hid hs h1 hq hx gx see c0 qm qf qg hW hj hi hk mon hc lk
    go_enter Tryz.func101, Tryz.ntmps101
    go_wp2
    refine wp_region_bw (by kernel_rfl) (by kernel_rfl) ?_
    repeat go_big_quiet_step ((first | (go_at_call 54; exact Calls.bw _ (HI.out _)) | (go_at_call 68; exact Calls.bw _ (H1.out _))))
    refine wpQuiet_nil ?_
    rintro w2 ⟨⟨w2x, hb2⟩, rfl⟩
    go_wp2
    go_returns
    exact ⟨by simp, hb2⟩
set_option maxRecDepth 100000 in
set_option maxHeartbeats 2000000 in
theorem isBelow_c (hc : Clo l n) (mon : MonAt w M l n) (hi : l[i]? = some f) (hj : l[j]? = some g) :
    Calls Tryz.prog 74 #[.pointer (some ⟨M, 0, none⟩), .int .i64 (i : Int), .int .i64 (j : Int)] w fun e w' => e = .returned (.bool (belowB l f g)) ∧ Below w.heap.size w w' := by
  obtain ⟨W1, hW1⟩ : ∃ W1, W1 = (((w.alloc (.cells #[.pointer (some ⟨M, 0, none⟩)] 48)).alloc (.cells #[.int .i64 (i : Int)] 3)).alloc (.cells #[.int .i64 (j : Int)] 3)) := ⟨_, rfl⟩
  have kk : Below w.heap.size w W1 := by rw [hW1]; go_grown
  have qm : W1.cell? ⟨w.heap.size, 0, none⟩ = some (.pointer (some ⟨M, 0, none⟩)) := by rw [hW1]; simp [go_sem]
  have qf : W1.cell? ⟨w.heap.size + 1, 0, none⟩ = some (.int .i64 (i : Int)) := by rw [hW1]; simp [go_sem]
  have qg : W1.cell? ⟨w.heap.size + 1 + 1, 0, none⟩ = some (.int .i64 (j : Int)) := by rw [hW1]; simp [go_sem]
  have h1 := any_c M l n 100 _ _ (enters_of Tryz.func100 (by kernel_rfl) rfl) _ (mon.below kk) hc.len (isBelow1_p hc (mon.below kk) hi hj qm qf qg)
  have h2 := fun W (hW : Below W1.heap.size W1 W) => any_c M l n 101 _ _ (enters_of Tryz.func101 (by kernel_rfl) rfl) W ((mon.below kk).below hW) hc.len ((isBelow2_p hc (mon.below kk) hi hj qm qf qg).below hW)
  have H1 := Lib.hid h1
  have H2 := Lib.hid h2
  unfold belowB
  clear h1 h2 hi hj mon hc
  generalize l.any (lB f g) = a at *
  generalize l.any (rB f g) = b at *
  go_enter Tryz.func74, Tryz.ntmps74
  cases a
  · go_wp2_with fail
    rw [← hW1]
    refine H1.out.mono ?_
    rintro e w2 ⟨rfl, hb2⟩
    go_wp2
    go_returns
    exact ⟨rfl, btrans kk hb2⟩
  · go_wp2_with fail
    rw [← hW1]
    refine H1.out.mono ?_
    rintro e w2 ⟨rfl, hb2⟩
    have q2 := bcell hb2 qm
    go_wp2_with fail
    refine (H2.out _ hb2).mono ?_
    rintro e w3 ⟨rfl, hb3⟩
    go_wp2
    go_returns
    exact ⟨by simp, btrans kk (btrans hb2 hb3)⟩
end
end Go.Proofs.YtilfamenadaboaaGreat
