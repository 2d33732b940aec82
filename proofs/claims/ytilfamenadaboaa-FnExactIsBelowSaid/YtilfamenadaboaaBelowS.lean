/- 'l04Below': the reference's test whether an element is below another one. No condition. -/
import Derived.Test.YtilfamenadaboaaBelow
namespace Go.Proofs.Ytilfamenadaboaa
set_option linter.unusedSimpArgs false
set_option linter.unusedVariables false
set_option linter.unusedSectionVars false
open Go.RowKit
theorem any_snoc {α : Type} {l : List α} {k : Nat} {x : α} (P : α → Bool) (hk : l[k]? = some x) : (l.take (k + 1)).any P = ((l.take k).any P || P x) := by
  rw [List.take_add_one, hk, List.any_append]
  simp
set_option maxRecDepth 100000 in
set_option maxHeartbeats 8000000 in
theorem l04Below_c (A : Option Addr) (c : Nat) (l : List Mp) (n : Int) (f g : Mp) (w : World) (hs : SeeMaps w A l) (hc : Clo l n) (fN : MpN f n) (gN : MpN g n) :
    Calls Try.prog 48 #[.slice A l.length c, .agg #[.int .i64 f.p, .int .i64 f.a, .int .i64 f.b, .int .i64 f.c, .int .i64 f.d, .int .i64 f.e], .agg #[.int .i64 g.p, .int .i64 g.a, .int .i64 g.b, .int .i64 g.c, .int .i64 g.d, .int .i64 g.e]] w fun e w' => e = .returned (.bool (belowB l f g)) ∧ Below w.heap.size w w' := by
  obtain ⟨W1, hW1⟩ : ∃ W1, W1 = (w.alloc (.cells #[.int .i64 f.p, .int .i64 f.a, .int .i64 f.b, .int .i64 f.c, .int .i64 f.d, .int .i64 f.e] 34)).alloc (.cells #[.int .i64 g.p, .int .i64 g.a, .int .i64 g.b, .int .i64 g.c, .int .i64 g.d, .int .i64 g.e] 34) := ⟨_, rfl⟩
  have kk : Below w.heap.size w W1 := by rw [hW1]; go_grown
  have bf : MpBox W1 w.heap.size f := by rw [hW1]; exact (MpBox.new f 34 rfl).keep _
  have bg : MpBox W1 (w.heap.size + 1) g := by rw [hW1]; exact MpBox.new g 34 (by simp)
  have see := hs.below kk
  obtain ⟨r, hr⟩ : ∃ r, r = belowB l f g := ⟨_, rfl⟩
  rw [← hr]
  have HR := Lib.hid hr
  have CLO := Lib.hid hc
  have hlen := hc.len
  clear hr hc hs
  go_enter Try.func48, Try.ntmps48
  go_wp2
  rw [← hW1]
  clear hW1
  go_loopw [9, 7, 8] (fun i L R wr => ∃ k : Nat, k ≤ l.length ∧ i = .int .i64 k ∧ L = .bool ((l.take k).any (lB f g)) ∧ R = .bool ((l.take k).any (rB f g)) ∧ Below W1.heap.size W1 wr) (fun i _ _ _ => l.length - (intOf i).toNat)
  case atStart => exact ⟨0, Nat.zero_le _, rfl, rfl, rfl, Below.refl _ _⟩
  case round =>
    obtain ⟨k, hk, rfl, rfl, rfl, hb⟩ := hrel
    obtain ⟨a, ha⟩ : ∃ a, a = (l.take k).any (lB f g) := ⟨_, rfl⟩
    obtain ⟨b, hbb⟩ : ∃ b, b = (l.take k).any (rB f g) := ⟨_, rfl⟩
    rw [← ha, ← hbb]
    have HA := Lib.hid ha
    have HB := Lib.hid hbb
    clear ha hbb
    by_cases hlt : k < l.length
    · obtain ⟨bl, ol, e, rfl, he, ge⟩ := (see.below hb).at_ hlt
      have l0 : (0 : Int) ≤ k := by omega
      have l1 : (k : Int) < l.length := by omega
      have eN := (CLO.out.get he).2
      have hid := fun W => l01Idempotent_c e n W eN
      have h1 := fun W => l01Times_c e g n W eN gN
      have h2 := fun W => l01Times_c g e n W gN eN
      have hl1 := any_snoc (lB f g) he
      have hr1 := any_snoc (rB f g) he
      rw [← HA.out] at hl1
      rw [← HB.out] at hr1
      have he1 := eq_map (mulM e g) f
      have he2 := eq_map (mulM g e) f
      have GE := Lib.hid ge
      obtain ⟨x0, x1, x2, x3, x4, x5⟩ := ge
      cases e1 : idemB e
      · have HI := Lib.hid (fun W => valB (hid W) e1)
        have HL : Hid ((l.take (k + 1)).any (lB f g) = a) := Lib.hid (by rw [hl1]; unfold lB; rw [e1]; simp)
        have HRR : Hid ((l.take (k + 1)).any (rB f g) = b) := Lib.hid (by rw [hr1]; unfold rB; rw [e1]; simp)
        clear e1 hid h1 h2 hl1 hr1 he1 he2 he
        go_wp2_with fail
        refine (HI.out _).mono ?_
        rintro e w2 ⟨rfl, hb2⟩
        go_wp2
        go_roundw
        case rel => exact ⟨k + 1, by omega, by go_num, by rw [HL.out], by rw [HRR.out], btrans hb hb2⟩
        case measure => simp [intOf]; omega
      · have HI := Lib.hid (fun W => valB (hid W) e1)
        obtain ⟨d1, hd1⟩ : ∃ d1, d1 = decide (mulM e g = f) := ⟨_, rfl⟩
        obtain ⟨d2, hd2⟩ : ∃ d2, d2 = decide (mulM g e = f) := ⟨_, rfl⟩
        have HL : Hid ((l.take (k + 1)).any (lB f g) = (a || d1)) := Lib.hid (by rw [hl1]; unfold lB; rw [e1, ← hd1]; simp)
        have HRR : Hid ((l.take (k + 1)).any (rB f g) = (b || d2)) := Lib.hid (by rw [hr1]; unfold rB; rw [e1, ← hd2]; simp)
        simp only [← hd1] at he1
        simp only [← hd2] at he2
        have H1 := Lib.hid h1
        have H2 := Lib.hid h2
        clear e1 hid h1 h2 hl1 hr1 hd1 hd2 HA HB he
        cases a <;> cases b <;> cases d1 <;> cases d2
        all_goals
          go_wp2_with fail
          refine (HI.out _).mono ?_
          rintro e w2 ⟨rfl, hb2⟩
          have ge2 := GE.out.below hb2
          have bf2 := (bf.below hb).below hb2
          have bg2 := (bg.below hb).below hb2
          obtain ⟨u0, u1, u2, u3, u4, u5⟩ := ge2.bw
          obtain ⟨v0, v1, v2, v3, v4, v5⟩ := bf2.at.bw
          obtain ⟨t0, t1, t2, t3, t4, t5⟩ := bg2.at.bw
          simp only [Nat.zero_add] at v0 v1 v2 v3 v4 v5 t0 t1 t2 t3 t4 t5
          clear x0 x1 x2 x3 x4 x5
          go_wp2
          refine wp_region_bw (by kernel_rfl) (by kernel_rfl) ?_
          repeat go_big_quiet_step ((go_at_call 54; first | (with_reducible exact Calls.bw _ (H1.out _)) | (with_reducible exact Calls.bw _ (H2.out _))))
          refine wpQuiet_nil ?_
          rintro w4 ⟨⟨w4x, hb4⟩, rfl⟩
          have ge4 := ge2.below hb4
          have bf4 := bf2.below hb4
          have bg4 := bg2.below hb4
          clear u0 u1 u2 u3 u4 u5 v0 v1 v2 v3 v4 v5 t0 t1 t2 t3 t4 t5
          obtain ⟨u0, u1, u2, u3, u4, u5⟩ := ge4.bw
          obtain ⟨v0, v1, v2, v3, v4, v5⟩ := bf4.at.bw
          obtain ⟨t0, t1, t2, t3, t4, t5⟩ := bg4.at.bw
          simp only [Nat.zero_add] at v0 v1 v2 v3 v4 v5 t0 t1 t2 t3 t4 t5
          go_wp2
          refine wp_region_bw (by kernel_rfl) (by kernel_rfl) ?_
          repeat go_big_quiet_step ((go_at_call 54; first | (with_reducible exact Calls.bw _ (H1.out _)) | (with_reducible exact Calls.bw _ (H2.out _))))
          refine wpQuiet_nil ?_
          rintro w6 ⟨⟨w6x, hb6⟩, rfl⟩
          go_wp2
          go_roundw
          case rel => exact ⟨k + 1, by omega, by go_num, by rw [HL.out]; rfl, by rw [HRR.out]; rfl, btrans hb (btrans hb2 (btrans hb4 hb6))⟩
          case measure => simp [intOf]; omega
    · obtain rfl : k = l.length := by omega
      have hfin : r = (a && b) := by rw [HR.out]; unfold belowB; rw [HA.out, HB.out, List.take_length]
      have HF := Lib.hid hfin
      clear hfin HA HB
      cases a <;> cases b
      all_goals
        go_wp2
        go_returns
        exact ⟨by rw [HF.out]; rfl, btrans kk hb⟩
end Go.Proofs.Ytilfamenadaboaa
