/- 'l01Identity', 'l01Times': the reference's identity and products. No condition. -/
import Derived.Test.YtilfamenadaboaaGreatMul
import Derived.Test.YtilfamenadaboaaGreatIdent
import Derived.Test.YtilfamenadaboaaGreatMonP
import Derived.Test.YtilfamenadaboaaGreatPushM
import Derived.Test.YtilfamenadaboaaGreatCmpM
import Derived.Test.YtilfamenadaboaaGreatPlBox
import Derived.Test.YtilfamenadaboaaGreatNewMon
import Derived.ChangeKeysEq
namespace Go.Proofs.YtilfamenadaboaaGreat
set_option linter.unusedSimpArgs false
set_option linter.unusedVariables false
set_option linter.unusedSectionVars false
open Go.RowKit
theorem newTo_succ (f g : Mp) {k : Nat} (h : k < 5) : (newTo f g k).set k (g.at (f.to k)) = newTo f g (k + 1) := Mp.ext' (Mp.set_p _ _ _) fun i hi => by
  rw [Mp.set_to _ h]
  unfold newTo
  rw [mkM_to _ _ hi, mkM_to _ _ hi]
  by_cases e : i = k
  · subst e; rw [if_pos rfl, if_pos (by omega)]
  · rw [if_neg e]
    by_cases hlt : i < k
    · rw [if_pos hlt, if_pos (by omega)]
    · rw [if_neg hlt, if_neg (by omega)]
theorem newTo_all {f g : Mp} (hf : IsMp f) {k : Nat} (hk : f.p.toNat = k) : newTo f g k = mulM f g := Mp.ext' rfl fun i hi => by
  unfold newTo mulM mulTo
  rw [mkM_to _ _ hi, mkM_to _ _ hi, hk]
  split
  · rfl
  · exact ((hf.2.2 i hi).2 (by omega)).symm
set_option maxHeartbeats 2000000 in
theorem l01Times_c (f g : Mp) (n : Int) (w : World) (hf : MpN f n) (hg : MpN g n) : Calls Tryz.prog 69 #[.agg #[.int .i64 f.p, .int .i64 f.a, .int .i64 f.b, .int .i64 f.c, .int .i64 f.d, .int .i64 f.e], .agg #[.int .i64 g.p, .int .i64 g.a, .int .i64 g.b, .int .i64 g.c, .int .i64 g.d, .int .i64 g.e]] w fun e w' => e = .returned (.agg #[.int .i64 (mulM f g).p, .int .i64 (mulM f g).a, .int .i64 (mulM f g).b, .int .i64 (mulM f g).c, .int .i64 (mulM f g).d, .int .i64 (mulM f g).e]) ∧ Below w.heap.size w w' := by
  have h1 := hf.1.1
  have h2 := hf.1.2.1
  go_enter Tryz.func69, Tryz.ntmps69
  go_wp2
  go_loopw [6] (fun i wr => ∃ k : Nat, (k : Int) ≤ f.p ∧ i = .int .i64 k ∧ MpBox wr w.heap.size f ∧ MpBox wr (w.heap.size + 1) g ∧ MpBox wr (w.heap.size + 1 + 1) Mp.z ∧ MpBox wr (w.heap.size + 1 + 1 + 1) (newTo f g k) ∧ Below w.heap.size w wr) (fun i _ => f.p.toNat - (intOf i).toNat)
  case atStart => exact ⟨0, by omega, rfl, (((MpBox.new f 27 rfl).keep _).keep _).keep _, ((MpBox.new g 27 (by go_size)).keep _).keep _, (MpBox.new Mp.z 27 (by go_size)).keep _, MpBox.new (newTo f g 0) 27 (by go_size), by go_grown⟩
  case round =>
    obtain ⟨k, hk, rfl, hm, hgb, hz, ho, hb⟩ := hrel
    have hsz := hb.size
    have qp := hm.at.h0
    by_cases hlt : (k : Int) < f.p
    · have hk5 : k < 5 := by omega
      have q := hm.at.to' hk5
      have hr := (hf.1.2.2 k hk5).1 hlt
      have r0 := hr.1
      have r1 : f.to k < 5 := by omega
      have p := hgb.at.to' (i := (f.to k).toNat) (by omega)
      have e : g.to (f.to k).toNat = g.at (f.to k) := rfl
      rw [e] at p
      clear e
      have fr := ho.free
      have qo := ho.at.to' hk5
      have l0 : (0 : Int) ≤ k := by omega
      have l5 : (k : Int) < 5 := by omega
      go_wp2
      go_roundw
      case rel => exact ⟨k + 1, by omega, by go_num, hm.far (by simp <;> omega) _, hgb.far (by simp <;> omega) _, hz.far (by simp <;> omega) _, by rw [← newTo_succ f g hk5]; exact ho.set hk5 _, by go_grown⟩
      case measure => simp [intOf]; omega
    · have hkp : f.p.toNat = k := by omega
      have HK := Lib.hid (newTo_all (g := g) hf.1 hkp)
      rw [HK.out] at ho
      obtain ⟨q0, q1, q2, q3, q4, q5⟩ := ho.at.cells0
      obtain ⟨z0, z1, z2, z3, z4, z5⟩ := hz.at.cells0
      have fr := hz.free
      clear hkp
      go_wp2
      refine bodyPost_ret (v := .agg #[.int .i64 (mulM f g).p, .int .i64 (mulM f g).a, .int .i64 (mulM f g).b, .int .i64 (mulM f g).c, .int .i64 (mulM f g).d, .int .i64 (mulM f g).e]) (by simp [results, Tryz.results69, go_sem, z0, z1, z2, z3, z4, z5]) rfl ⟨rfl, by go_grown⟩
/-! The reference's order of maps, its search in ascending lists, and what it puts into them. -/
theorem eq_map (f g : Mp) (w : World) : (binOp .eql 27 (.agg #[.int .i64 f.p, .int .i64 f.a, .int .i64 f.b, .int .i64 f.c, .int .i64 f.d, .int .i64 f.e]) (.agg #[.int .i64 g.p, .int .i64 g.a, .int .i64 g.b, .int .i64 g.c, .int .i64 g.d, .int .i64 g.e])).run Tryz.prog w = .ok (.bool (decide (f = g))) w := by
  have e : decide (f = g) = (f.p == g.p && (f.a == g.a && (f.b == g.b && (f.c == g.c && (f.d == g.d && f.e == g.e))))) := by
    rw [Bool.eq_iff_iff]
    simp only [decide_eq_true_eq, Bool.and_eq_true, beq_iff_eq]
    constructor
    · rintro rfl; exact ⟨rfl, rfl, rfl, rfl, rfl, rfl⟩
    · obtain ⟨p, a, b, c, d, e⟩ := f
      obtain ⟨p', a', b', c', d', e'⟩ := g
      rintro ⟨h0, h1, h2, h3, h4, h5⟩
      simp only at h0 h1 h2 h3 h4 h5
      subst h0 h1 h2 h3 h4 h5
      rfl
  rw [e]
  obtain ⟨i0, hi, _, _, _⟩ := info_parts info_int
  have hc : Tryz.prog.cellsOf 2 = 1 := by kernel_rfl
  have ha := fun (xs ys : Array Value) (w : World) => run_equalIn_array (P := Tryz.prog) (w := w) 9998 (t := 25) (e := 2) (n := 5) xs ys Tryz.underlying25 hi
  have hr : List.range 5 = [0, 1, 2, 3, 4] := rfl
  simp only [hc, hr, Op.eqItems] at ha
  simp [go_sem, ha]
  clear ha e
  repeat' split
  all_goals simp_all
/-- the first digit in which two maps differ tells their order -/
theorem num_at {f g : Mp} {n : Int} (hf : MpN f n) (hg : MpN g n) {k : Nat} (hk : k < 5) (h : ∀ j, j < k → f.to j = g.to j) (hne : f.to k ≠ g.to k) : f.num < g.num ↔ f.to k < g.to k := by
  have h1 := hf.digs
  have h2 := hg.digs
  unfold Mp.num
  rcases (by omega : k = 0 ∨ k = 1 ∨ k = 2 ∨ k = 3 ∨ k = 4) with rfl | rfl | rfl | rfl | rfl
  · simp only [Mp.to] at *; omega
  · have e0 := h 0 (by omega); simp only [Mp.to] at *; omega
  · have e0 := h 0 (by omega); have e1 := h 1 (by omega); simp only [Mp.to] at *; omega
  · have e0 := h 0 (by omega); have e1 := h 1 (by omega); have e2 := h 2 (by omega); simp only [Mp.to] at *; omega
  · have e0 := h 0 (by omega); have e1 := h 1 (by omega); have e2 := h 2 (by omega); have e3 := h 3 (by omega); simp only [Mp.to] at *; omega
def lessB (f g : Mp) : Bool := decide (f.num < g.num)
set_option maxHeartbeats 2000000 in
theorem l01Less_c (f g : Mp) (n : Int) (w : World) (hf : MpN f n) (hg : MpN g n) : Calls Tryz.prog 108 #[.agg #[.int .i64 f.p, .int .i64 f.a, .int .i64 f.b, .int .i64 f.c, .int .i64 f.d, .int .i64 f.e], .agg #[.int .i64 g.p, .int .i64 g.a, .int .i64 g.b, .int .i64 g.c, .int .i64 g.d, .int .i64 g.e]] w fun e w' => e = .returned (.bool (lessB f g)) ∧ Below w.heap.size w w' := by
  have k0 : Below w.heap.size w ((w.alloc (.cells #[.int .i64 f.p, .int .i64 f.a, .int .i64 f.b, .int .i64 f.c, .int .i64 f.d, .int .i64 f.e] 27)).alloc (.cells #[.int .i64 g.p, .int .i64 g.a, .int .i64 g.b, .int .i64 g.c, .int .i64 g.d, .int .i64 g.e] 27)) := by go_grown
  have bf : MpBox ((w.alloc (.cells #[.int .i64 f.p, .int .i64 f.a, .int .i64 f.b, .int .i64 f.c, .int .i64 f.d, .int .i64 f.e] 27)).alloc (.cells #[.int .i64 g.p, .int .i64 g.a, .int .i64 g.b, .int .i64 g.c, .int .i64 g.d, .int .i64 g.e] 27)) w.heap.size f := (MpBox.new f 27 rfl).keep _
  have bg : MpBox ((w.alloc (.cells #[.int .i64 f.p, .int .i64 f.a, .int .i64 f.b, .int .i64 f.c, .int .i64 f.d, .int .i64 f.e] 27)).alloc (.cells #[.int .i64 g.p, .int .i64 g.a, .int .i64 g.b, .int .i64 g.c, .int .i64 g.d, .int .i64 g.e] 27)) (w.heap.size + 1) g := MpBox.new g 27 (by simp)
  have hp : f.p = g.p := hf.2.trans hg.2.symm
  have hpp : (f.p != g.p) = false := by simp [hp]
  have HP := Lib.hid hp
  clear hp
  have f1 := hf.1.1
  have f5 := hf.1.2.1
  have HFN := Lib.hid hf
  have HGN := Lib.hid hg
  have c0 := bf.at.cells0.1
  have d0 := bg.at.cells0.1
  clear hf hg
  go_enter Tryz.func108, Tryz.ntmps108
  go_wp2
  obtain ⟨W1, hW1⟩ : ∃ W1, W1 = (w.alloc (.cells #[.int .i64 f.p, .int .i64 f.a, .int .i64 f.b, .int .i64 f.c, .int .i64 f.d, .int .i64 f.e] 27)).alloc (.cells #[.int .i64 g.p, .int .i64 g.a, .int .i64 g.b, .int .i64 g.c, .int .i64 g.d, .int .i64 g.e] 27) := ⟨_, rfl⟩
  rw [← hW1] at k0 bf bg c0 d0 ⊢
  clear hW1
  go_loopw [5] (fun i wr => ∃ k : Nat, (k : Int) ≤ f.p ∧ i = .int .i64 k ∧ Hid (∀ j, j < k → f.to j = g.to j) ∧ Below W1.heap.size W1 wr) (fun i _ => 5 - (intOf i).toNat)
  case atStart => exact ⟨0, by omega, rfl, Lib.hid fun j hj => absurd hj (Nat.not_lt_zero _), Below.refl _ _⟩
  case round =>
    obtain ⟨k, hk, rfl, hj, hb⟩ := hrel
    have q0 := bcell hb c0
    by_cases hlt : (k : Int) < f.p
    · have hk5 : k < 5 := by omega
      have tf := ((bf.below hb).at.to' hk5)
      have tg := ((bg.below hb).at.to' hk5)
      have TF := bwcell tf
      have TG := bwcell tg
      have l0 : (0 : Int) ≤ k := by omega
      have l5 : (k : Int) < 5 := by omega
      clear tf tg
      by_cases hne : f.to k = g.to k
      · have d : (f.to k != g.to k) = false := by simp [hne]
        have HNE := Lib.hid hne
        clear hne
        go_wp2
        refine wp_region_bw (by kernel_rfl) (by kernel_rfl) ?_
        repeat go_big_quiet_step (fail)
        refine wpQuiet_nil ?_
        rintro w2 ⟨⟨w2x, hb2⟩, rfl⟩
        go_wp2
        go_roundw
        case rel =>
          refine ⟨k + 1, by omega, by go_num, Lib.hid fun j hjk => ?_, btrans hb hb2⟩
          rcases Nat.lt_succ_iff_lt_or_eq.1 hjk with h | rfl
          · exact hj.out j h
          · exact HNE.out
        case measure => simp [intOf]; omega
      · have d : (f.to k != g.to k) = true := by simp [hne]
        have hl := num_at HFN.out HGN.out hk5 hj.out hne
        have HL := Lib.hid hl
        clear hl hne
        go_wp2
        refine wp_region_bw (by kernel_rfl) (by kernel_rfl) ?_
        repeat go_big_quiet_step (fail)
        refine wpQuiet_nil ?_
        rintro w2 ⟨⟨w2x, hb2⟩, rfl⟩
        have TF2 := fun x : BW w2 => TF ⟨x.1, btrans hb2 x.2⟩
        have TG2 := fun x : BW w2 => TG ⟨x.1, btrans hb2 x.2⟩
        clear TF TG
        go_wp2
        refine wp_region_bw (by kernel_rfl) (by kernel_rfl) ?_
        repeat go_big_quiet_step (fail)
        refine wpQuiet_nil ?_
        rintro w3 ⟨⟨w3x, hb3⟩, rfl⟩
        go_wp2
        go_returns
        exact ⟨ret_bool (by unfold lessB; exact decide_eq_decide.2 HL.out.symm), btrans k0 (btrans hb (btrans hb2 hb3))⟩
    · have hkp : f.p = k := by omega
      have hfg : f = g := Mp.ext' HP.out fun i hi => by
        by_cases h : i < k
        · exact hj.out i h
        · rw [(HFN.out.1.2.2 i hi).2 (by omega), (HGN.out.1.2.2 i hi).2 (by have := HP.out; omega)]
      have HFG := Lib.hid hfg
      clear hfg hkp
      go_wp2
      go_returns
      exact ⟨ret_bool (by rw [HFG.out]; unfold lessB; simp), btrans k0 hb⟩
/-! The reference's search in ascending lists of maps. -/
/-- what the halving search holds -/
structure Half (l : List Mp) (f : Mp) (lo hi : Nat) : Prop where
  le : lo ≤ hi
  len : hi ≤ l.length
  low : ∀ i g, i < lo → l[i]? = some g → g.num < f.num
  high : ∀ i g, hi ≤ i → l[i]? = some g → ¬ g.num < f.num
theorem Half.start (l : List Mp) (f : Mp) : Half l f 0 l.length := ⟨Nat.zero_le _, Nat.le_refl _, fun i g h => absurd h (Nat.not_lt_zero _), fun i g h hg => absurd (List.getElem?_eq_some_iff.1 hg).1 (by omega)⟩
theorem Half.up {l : List Mp} {f x : Mp} {lo hi m : Nat} (h : Half l f lo hi) (ha : AscM l) (hm : l[m]? = some x) (h1 : m < hi) (hl : lo ≤ m) (hx : x.num < f.num) : Half l f (m + 1) hi := ⟨h1, h.len, fun i g hi hg => by
  rcases Nat.lt_succ_iff_lt_or_eq.1 hi with hlt | rfl
  · have := ha.lt hg hm hlt; omega
  · rw [hm] at hg; obtain rfl := Option.some.inj hg; exact hx, h.high⟩
theorem Half.down {l : List Mp} {f x : Mp} {lo hi m : Nat} (h : Half l f lo hi) (ha : AscM l) (hm : l[m]? = some x) (h1 : m < hi) (hl : lo ≤ m) (hx : ¬ x.num < f.num) : Half l f lo m := ⟨hl, by have := h.len; omega, h.low, fun i g hi hg => by
  rcases Nat.lt_or_eq_of_le hi with hlt | rfl
  · have := ha.lt hm hg hlt; omega
  · rw [hm] at hg; obtain rfl := Option.some.inj hg; exact hx⟩
theorem Half.done {l : List Mp} {f : Mp} {k : Nat} (h : Half l f k k) : below l f = k := below_of h.len h.low fun g hg => h.high k g (Nat.le_refl _) hg
theorem half_mid {lo hi : Nat} (h : lo < hi) (hh : hi ≤ 300) : lo ≤ (lo + hi) / 2 ∧ (lo + hi) / 2 < hi ∧ wrap64 ((lo : Int) + hi) = ((lo + hi : Nat) : Int) ∧ IntKind.i64.wrap ((lo : Int) + hi) = ((lo + hi : Nat) : Int) := by
  refine ⟨by omega, by omega, ?_, ?_⟩
  · unfold wrap64; omega
  · rw [IntKind.wrap_i64]; omega
set_option maxHeartbeats 2000000 in
theorem l02Find_c (A : Option Addr) (c : Nat) (l : List Mp) (n : Int) (f : Mp) (w : World) (hs : SeeMaps w A l) (ha : AscM l) (hN : ∀ g ∈ l, MpN g n) (hl : l.length ≤ 300) (hf : MpN f n) :
    Calls Tryz.prog 82 #[.slice A l.length c, .agg #[.int .i64 f.p, .int .i64 f.a, .int .i64 f.b, .int .i64 f.c, .int .i64 f.d, .int .i64 f.e]] w fun e w' => e = .returned (.int .i64 (plc l f)) ∧ Below w.heap.size w w' := by
  have bt := MpBox.new (w := w) f 27 rfl
  have kk := kbelow w (.cells #[.int .i64 f.p, .int .i64 f.a, .int .i64 f.b, .int .i64 f.c, .int .i64 f.d, .int .i64 f.e] 27)
  have HA := Lib.hid ha
  have HN := Lib.hid hN
  have HS := Lib.hid (hs.below kk)
  clear ha hN hs
  go_enter Tryz.func82, Tryz.ntmps82
  go_wp2
  go_loopw [5, 6] (fun lo hi wr => ∃ a b : Nat, lo = .int .i64 a ∧ hi = .int .i64 b ∧ Hid (Half l f a b) ∧ MpBox wr w.heap.size f ∧ Below w.heap.size w wr ∧ SeeMaps wr A l) (fun lo hi _ => (intOf hi).toNat - (intOf lo).toNat)
  case atStart => exact ⟨0, l.length, rfl, rfl, Lib.hid (Half.start l f), bt, kk, HS.out⟩
  case round =>
    clear bt kk HS
    obtain ⟨a, b, rfl, rfl, hh, bt, hb, see⟩ := hrel
    have hab := hh.out.le
    have hbl := hh.out.len
    by_cases hlt : a < b
    · obtain ⟨m1, m2, m3, m4⟩ := half_mid hlt (by omega)
      have l1 : (a : Int) < b := by omega
      obtain ⟨m, hm⟩ : ∃ m, m = (a + b) / 2 := ⟨_, rfl⟩
      rw [← hm] at m1 m2
      have hq : ((a : Int) + b) / 2 = (m : Int) := by omega
      have HM := Lib.hid hm
      obtain ⟨bl, ol, x, rfl, hx, gx⟩ := see.at_ (k := m) (by omega)
      have hxN := HN.out x (List.mem_of_getElem? hx)
      have k0 : (0 : Int) ≤ m := by omega
      have k1 : (m : Int) < l.length := by omega
      obtain ⟨x0, x1, x2, x3, x4, x5⟩ := gx.bw
      obtain ⟨y0, y1, y2, y3, y4, y5⟩ := bt.at.bw
      simp only [Nat.zero_add] at y0 y1 y2 y3 y4 y5
      have hless := fun W => l01Less_c x f n W hxN hf
      have HX := Lib.hid hx
      have HLE := Lib.hid hless
      clear hm hx gx hless hxN
      by_cases hxf : x.num < f.num
      · have hlb : lessB x f = true := by unfold lessB; exact decide_eq_true hxf
        have HXF := Lib.hid hxf
        clear hxf
        go_wp2
        refine wp_region_bw (by kernel_rfl) (by kernel_rfl) ?_
        repeat go_big_quiet_step ((go_at_call 108; exact Calls.bw _ (valB (HLE.out _) hlb)))
        refine wpQuiet_nil ?_
        rintro w2 ⟨⟨w2x, hb2⟩, rfl⟩
        go_wp2
        go_roundw
        case rel => exact ⟨m + 1, b, by go_num, rfl, Lib.hid (hh.out.up HA.out HX.out m2 m1 HXF.out), bt.below hb2, btrans hb hb2, see.below hb2⟩
        case measure => simp [intOf]; omega
      · have hlb : lessB x f = false := by unfold lessB; exact decide_eq_false hxf
        have HXF := Lib.hid hxf
        clear hxf
        go_wp2
        refine wp_region_bw (by kernel_rfl) (by kernel_rfl) ?_
        repeat go_big_quiet_step ((go_at_call 108; exact Calls.bw _ (valB (HLE.out _) hlb)))
        refine wpQuiet_nil ?_
        rintro w2 ⟨⟨w2x, hb2⟩, rfl⟩
        go_wp2
        go_roundw
        case rel => exact ⟨a, m, rfl, rfl, Lib.hid (hh.out.down HA.out HX.out m2 m1 (by have := HXF.out; omega)), bt.below hb2, btrans hb hb2, see.below hb2⟩
        case measure => simp [intOf]; omega
    · obtain rfl : a = b := by omega
      have hbe := hh.out.done
      have HBE := Lib.hid hbe
      clear hbe
      by_cases hal : a < l.length
      · obtain ⟨bl, ol, x, rfl, hx, gx⟩ := see.at_ hal
        have k0 : (0 : Int) ≤ a := by omega
        have k1 : (a : Int) < l.length := by omega
        obtain ⟨x0, x1, x2, x3, x4, x5⟩ := gx.bw
        obtain ⟨y0, y1, y2, y3, y4, y5⟩ := bt.at.bw
        simp only [Nat.zero_add] at y0 y1 y2 y3 y4 y5
        have he := eq_map x f
        have HX := Lib.hid hx
        clear hx gx
        by_cases hxf : x = f
        · have hd : decide (x = f) = true := decide_eq_true hxf
          have hpl : plc l f = a := by
            unfold plc
            rw [HBE.out, HX.out, hxf, if_pos rfl]
          have HPL := Lib.hid hpl
          simp only [hd] at he
          clear hxf hpl hd
          go_wp2
          refine wp_region_bw (by kernel_rfl) (by kernel_rfl) ?_
          repeat go_big_quiet_step (fail)
          refine wpQuiet_nil ?_
          rintro w2 ⟨⟨w2x, hb2⟩, rfl⟩
          go_wp2
          go_returns
          exact ⟨ret_int HPL.out.symm, btrans hb hb2⟩
        · have hd : decide (x = f) = false := decide_eq_false hxf
          have hpl : plc l f = -1 := by
            unfold plc
            rw [HBE.out, HX.out, if_neg (fun h => hxf (Option.some.inj h))]
          have HPL := Lib.hid hpl
          simp only [hd] at he
          clear hxf hpl hd
          go_wp2
          refine wp_region_bw (by kernel_rfl) (by kernel_rfl) ?_
          repeat go_big_quiet_step (fail)
          refine wpQuiet_nil ?_
          rintro w2 ⟨⟨w2x, hb2⟩, rfl⟩
          go_wp2
          go_returns
          exact ⟨ret_int HPL.out.symm, btrans hb hb2⟩
      · have hpl : plc l f = -1 := by
          unfold plc
          rw [HBE.out, List.getElem?_eq_none (by omega), if_neg (by simp)]
        have HPL := Lib.hid hpl
        have k1 : ¬ (a : Int) < l.length := by omega
        clear hpl
        go_wp2
        refine wp_region_bw (by kernel_rfl) (by kernel_rfl) ?_
        repeat go_big_quiet_step (fail)
        refine wpQuiet_nil ?_
        rintro w2 ⟨⟨w2x, hb2⟩, rfl⟩
        go_wp2
        go_returns
        exact ⟨ret_int HPL.out.symm, btrans hb hb2⟩
end Go.Proofs.YtilfamenadaboaaGreat
