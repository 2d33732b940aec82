/- The reference's search in ascending lists of maps. No condition. -/
import Derived.Test.YtilfamenadaboaaSpecA
import Derived.Test.YtilfamenadaboaaPlBox
import Derived.Test.YtilfamenadaboaaNewMonA
namespace Go.Proofs.Ytilfamenadaboaa
set_option linter.unusedSimpArgs false
set_option linter.unusedVariables false
set_option linter.unusedSectionVars false
open Go.RowKit
/-- what the halving search holds -/
structure Half (l : List Mp) (f : Mp) (lo hi : Nat) : Prop where
  le : lo ≤ hi
  len : hi ≤ l.length
  low : ∀ i g, i < lo → l[i]? = some g → g.num < f.num
  high : ∀ i g, hi ≤ i → l[i]? = some g → ¬ g.num < f.num
theorem Half.start (l : List Mp) (f : Mp) : Half l f 0 l.length := ⟨Nat.zero_le _, Nat.le_refl _, fun i g h => absurd h (Nat.not_lt_zero _), fun i g h hg => absurd (List.getElem?_eq_some_iff.1 hg).1 (by omega)⟩
theorem Half.up {l : List Mp} {f x : Mp} {lo hi m : Nat} (h : Half l f lo hi) (ha : Asc l) (hm : l[m]? = some x) (h1 : m < hi) (hl : lo ≤ m) (hx : x.num < f.num) : Half l f (m + 1) hi := ⟨h1, h.len, fun i g hi hg => by
  rcases Nat.lt_succ_iff_lt_or_eq.1 hi with hlt | rfl
  · have := ha.lt hg hm hlt; omega
  · rw [hm] at hg; obtain rfl := Option.some.inj hg; exact hx, h.high⟩
theorem Half.down {l : List Mp} {f x : Mp} {lo hi m : Nat} (h : Half l f lo hi) (ha : Asc l) (hm : l[m]? = some x) (h1 : m < hi) (hl : lo ≤ m) (hx : ¬ x.num < f.num) : Half l f lo m := ⟨hl, by have := h.len; omega, h.low, fun i g hi hg => by
  rcases Nat.lt_or_eq_of_le hi with hlt | rfl
  · have := ha.lt hm hg hlt; omega
  · rw [hm] at hg; obtain rfl := Option.some.inj hg; exact hx⟩
theorem Half.done {l : List Mp} {f : Mp} {k : Nat} (h : Half l f k k) : below l f = k := below_of h.len h.low fun g hg => h.high k g (Nat.le_refl _) hg
theorem half_mid {lo hi : Nat} (h : lo < hi) (hh : hi ≤ 300) : lo ≤ (lo + hi) / 2 ∧ (lo + hi) / 2 < hi ∧ wrap64 ((lo : Int) + hi) = ((lo + hi : Nat) : Int) ∧ IntKind.i64.wrap ((lo : Int) + hi) = ((lo + hi : Nat) : Int) := by
  refine ⟨by omega, by omega, ?_, ?_⟩
  · unfold wrap64; omega
  · rw [IntKind.wrap_i64]; omega
set_option maxHeartbeats 2000000 in
theorem l02Find_c (A : Option Addr) (c : Nat) (l : List Mp) (n : Int) (f : Mp) (w : World) (hs : SeeMaps w A l) (ha : Asc l) (hN : ∀ g ∈ l, MpN g n) (hl : l.length ≤ 300) (hf : MpN f n) :
    Calls Try.prog 74 #[.slice A l.length c, .agg #[.int .i64 f.p, .int .i64 f.a, .int .i64 f.b, .int .i64 f.c, .int .i64 f.d, .int .i64 f.e]] w fun e w' => e = .returned (.int .i64 (plc l f)) ∧ Below w.heap.size w w' := by
  have bt := MpBox.new (w := w) f 34 rfl
  have kk := kbelow w (.cells #[.int .i64 f.p, .int .i64 f.a, .int .i64 f.b, .int .i64 f.c, .int .i64 f.d, .int .i64 f.e] 34)
  have HA := Lib.hid ha
  have HN := Lib.hid hN
  have HS := Lib.hid (hs.below kk)
  clear ha hN hs
  go_enter Try.func74, Try.ntmps74
  go_wp2
  go_loopw [5, 6] (fun lo hi wr => ∃ a b : Nat, lo = .int .i64 a ∧ hi = .int .i64 b ∧ Hid (Half l f a b) ∧ MpBox wr w.heap.size f ∧ Below w.heap.size w wr ∧ SeeMaps wr A l) (fun lo hi _ => (intOf hi).toNat - (intOf lo).toNat)
  case atStart => exact ⟨0, l.length, rfl, rfl, Lib.hid (Half.start l f), bt, kk, HS.out⟩
  case round =>
    clear bt kk HS
    obtain ⟨a, b, rfl, rfl, hh, bt, hb, see⟩ := hrel
    have hab := hh.out.le
    have hbl := hh.out.len
    by_cases hlt : a < b
    · obtain ⟨m1, m2, m3, m4⟩ := half_mid hlt (by omega)
      have l1 : (a : Int) < b := by omega
      obtain ⟨m, hm⟩ : ∃ m, m = (a + b) / 2 := ⟨_, rfl⟩
      rw [← hm] at m1 m2
      have hq : ((a : Int) + b) / 2 = (m : Int) := by omega
      have HM := Lib.hid hm
      obtain ⟨bl, ol, x, rfl, hx, gx⟩ := see.at_ (k := m) (by omega)
      have hxN := HN.out x (List.mem_of_getElem? hx)
      have k0 : (0 : Int) ≤ m := by omega
      have k1 : (m : Int) < l.length := by omega
      obtain ⟨x0, x1, x2, x3, x4, x5⟩ := gx.bw
      obtain ⟨y0, y1, y2, y3, y4, y5⟩ := bt.at.bw
      simp only [Nat.zero_add] at y0 y1 y2 y3 y4 y5
      have hless := fun W => l01Less_c x f n W hxN hf
      have HX := Lib.hid hx
      have HLE := Lib.hid hless
      clear hm hx gx hless hxN
      by_cases hxf : x.num < f.num
      · have hlb : lessB x f = true := by unfold lessB; exact decide_eq_true hxf
        have HXF := Lib.hid hxf
        clear hxf
        go_wp2
        refine wp_region_bw (by kernel_rfl) (by kernel_rfl) ?_
        repeat go_big_quiet_step ((go_at_call 95; exact Calls.bw _ (valB (HLE.out _) hlb)))
        refine wpQuiet_nil ?_
        rintro w2 ⟨⟨w2x, hb2⟩, rfl⟩
        go_wp2
        go_roundw
        case rel => exact ⟨m + 1, b, by go_num, rfl, Lib.hid (hh.out.up HA.out HX.out m2 m1 HXF.out), bt.below hb2, btrans hb hb2, see.below hb2⟩
        case measure => simp [intOf]; omega
      · have hlb : lessB x f = false := by unfold lessB; exact decide_eq_false hxf
        have HXF := Lib.hid hxf
        clear hxf
        go_wp2
        refine wp_region_bw (by kernel_rfl) (by kernel_rfl) ?_
        repeat go_big_quiet_step ((go_at_call 95; exact Calls.bw _ (valB (HLE.out _) hlb)))
        refine wpQuiet_nil ?_
        rintro w2 ⟨⟨w2x, hb2⟩, rfl⟩
        go_wp2
        go_roundw
        case rel => exact ⟨a, m, rfl, rfl, Lib.hid (hh.out.down HA.out HX.out m2 m1 (by have := HXF.out; omega)), bt.below hb2, btrans hb hb2, see.below hb2⟩
        case measure => simp [intOf]; omega
    · obtain rfl : a = b := by omega
      have hbe := hh.out.done
      have HBE := Lib.hid hbe
      clear hbe
      by_cases hal : a < l.length
      · obtain ⟨bl, ol, x, rfl, hx, gx⟩ := see.at_ hal
        have k0 : (0 : Int) ≤ a := by omega
        have k1 : (a : Int) < l.length := by omega
        obtain ⟨x0, x1, x2, x3, x4, x5⟩ := gx.bw
        obtain ⟨y0, y1, y2, y3, y4, y5⟩ := bt.at.bw
        simp only [Nat.zero_add] at y0 y1 y2 y3 y4 y5
        have he := eq_map x f
        have HX := Lib.hid hx
        clear hx gx
        by_cases hxf : x = f
        · have hd : decide (x = f) = true := decide_eq_true hxf
          have hpl : plc l f = a := by
            unfold plc
            rw [HBE.out, HX.out, hxf, if_pos rfl]
          have HPL := Lib.hid hpl
          simp only [hd] at he
          clear hxf hpl hd
          go_wp2
          refine wp_region_bw (by kernel_rfl) (by kernel_rfl) ?_
          repeat go_big_quiet_step (fail)
          refine wpQuiet_nil ?_
          rintro w2 ⟨⟨w2x, hb2⟩, rfl⟩
          go_wp2
          go_returns
          exact ⟨ret_int HPL.out.symm, btrans hb hb2⟩
        · have hd : decide (x = f) = false := decide_eq_false hxf
          have hpl : plc l f = -1 := by
            unfold plc
            rw [HBE.out, HX.out, if_neg (fun h => hxf (Option.some.inj h))]
          have HPL := Lib.hid hpl
          simp only [hd] at he
          clear hxf hpl hd
          go_wp2
          refine wp_region_bw (by kernel_rfl) (by kernel_rfl) ?_
          repeat go_big_quiet_step (fail)
          refine wpQuiet_nil ?_
          rintro w2 ⟨⟨w2x, hb2⟩, rfl⟩
          go_wp2
          go_returns
          exact ⟨ret_int HPL.out.symm, btrans hb hb2⟩
      · have hpl : plc l f = -1 := by
          unfold plc
          rw [HBE.out, List.getElem?_eq_none (by omega), if_neg (by simp)]
        have HPL := Lib.hid hpl
        have k1 : ¬ (a : Int) < l.length := by omega
        clear hpl
        go_wp2
        refine wp_region_bw (by kernel_rfl) (by kernel_rfl) ?_
        repeat go_big_quiet_step (fail)
        refine wpQuiet_nil ?_
        rintro w2 ⟨⟨w2x, hb2⟩, rfl⟩
        go_wp2
        go_returns
        exact ⟨ret_int HPL.out.symm, btrans hb hb2⟩
end Go.Proofs.Ytilfamenadaboaa
