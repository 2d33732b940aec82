/- 'l01Bits': the points of a set as digits. No condition. -/
import Derived.Test.YthadgdmooacccaaIsMap
import Derived.Test.YthadgdmooacccaaMul
import Derived.Laws.BitsLemmas
namespace Go.Proofs.Ythadgdmooacccaa
set_option linter.unusedSimpArgs false
set_option linter.unusedVariables false
set_option linter.unusedSectionVars false
open Go.RowKit
def bitsN (xs : List Int) : Nat := xs.foldl (fun n x => n ||| (1 <<< x.toNat)) 0
theorem bits_fold_lt {j : Nat} : ∀ (xs : List Int) (a : Nat), (∀ x ∈ xs, 0 ≤ x ∧ x < (j : Int)) → a < 2 ^ j → xs.foldl (fun n x => n ||| (1 <<< x.toNat)) a < 2 ^ j
  | [], _, _, h => h
  | x :: xs, a, hx, h => bits_fold_lt xs _ (fun y hy => hx y (by simp [hy])) (Nat.or_lt_two_pow h (by
      have := hx x (by simp)
      rw [Nat.one_shiftLeft]
      exact Nat.pow_lt_pow_right (by decide) (by omega)))
theorem bitsN_lt {xs : List Int} {j : Nat} (h : ∀ x ∈ xs, 0 ≤ x ∧ x < (j : Int)) : bitsN xs < 2 ^ j := bits_fold_lt xs 0 h (Nat.two_pow_pos j)
theorem bits_fold_test : ∀ (xs : List Int) (a p : Nat), (∀ x ∈ xs, 0 ≤ x) → (xs.foldl (fun n x => n ||| (1 <<< x.toNat)) a).testBit p = (a.testBit p || decide ((p : Int) ∈ xs))
  | [], a, p, _ => by simp
  | x :: xs, a, p, h => by
    rw [List.foldl_cons, bits_fold_test xs _ p (fun y hy => h y (by simp [hy])), Nat.testBit_or, Nat.one_shiftLeft, Nat.testBit_two_pow, Bool.or_assoc]
    congr 1
    have := h x (by simp)
    by_cases e : x.toNat = p
    · have e' : (p : Int) = x := by omega
      simp [e, e']
    · have e' : ¬ (p : Int) = x := by omega
      simp [e, e']
theorem bitsN_test {xs : List Int} (h : ∀ x ∈ xs, 0 ≤ x) (p : Nat) : (bitsN xs).testBit p = decide ((p : Int) ∈ xs) := by
  unfold bitsN
  rw [bits_fold_test xs 0 p h]
  simp
theorem wraps_i64 (n : Int) (h₀ : 0 ≤ n) (h₁ : n < 2 ^ 63) : IntKind.i64.wrap n = n := by rw [IntKind.wrap_i64]; omega
theorem pow_of {x : Int} (h0 : 0 ≤ x) (h1 : x < 6) : wrap64 (2 ^ x.toNat) = ((1 <<< x.toNat : Nat) : Int) := by
  rcases (by omega : x = 0 ∨ x = 1 ∨ x = 2 ∨ x = 3 ∨ x = 4 ∨ x = 5) with rfl | rfl | rfl | rfl | rfl | rfl <;> (unfold wrap64; rfl)
theorem pow_lt {x : Int} (h1 : x < 6) : (1 <<< x.toNat : Nat) < 2 ^ 63 := by
  rw [Nat.one_shiftLeft]
  exact Nat.pow_lt_pow_right (by decide) (by omega)
theorem bits_or (a b : Nat) (ha : a < 2 ^ 63) (hb : b < 2 ^ 63) : bits .or .i64 (a : Int) (b : Int) = ((a ||| b : Nat) : Int) := (bits_nat .i64 63 (by decide) wraps_i64 a b ha hb).2
theorem bits_and (a b : Nat) (ha : a < 2 ^ 63) (hb : b < 2 ^ 63) : bits .and .i64 (a : Int) (b : Int) = ((a &&& b : Nat) : Int) := (bits_nat .i64 63 (by decide) wraps_i64 a b ha hb).1
set_option maxHeartbeats 1000000 in
theorem l01Bits_c (A : Option Addr) (c : Nat) (xs : List Int) (w : World) (h : SeeInts w A xs) (hx : ∀ x ∈ xs, 0 ≤ x ∧ x < 6) (hn : xs.length ≤ 2097152) :
    Calls Try.prog 69 #[.slice A xs.length c] w fun e w' => e = .returned (.int .i64 (bitsN xs)) ∧ Below w.heap.size w w' := by
  go_enter Try.func69, Try.ntmps69
  go_wp2
  go_loopw [4, 3] (fun i n wr => ∃ k : Nat, k ≤ xs.length ∧ i = .int .i64 k ∧ n = .int .i64 (bitsN (xs.take k)) ∧ Below w.heap.size w wr) (fun i _ _ => xs.length - (intOf i).toNat)
  case atStart => exact ⟨0, Nat.zero_le _, rfl, rfl, Below.refl _ _⟩
  case round =>
    obtain ⟨k, hk, rfl, rfl, hb⟩ := hrel
    by_cases hlt : k < xs.length
    · obtain ⟨b, o, x, rfl, hxk, q⟩ := (h.below hb).at_ hlt
      have hl : (0 : Int) ≤ k := by omega
      have hl' : (k : Int) < xs.length := by omega
      have hp := hx x (List.mem_of_getElem? hxk)
      have r0 := hp.1
      have r1 : x < 6 := by omega
      have HX := Lib.hid hxk
      have HP := Lib.hid hx
      clear hxk h hx
      go_wp2
      go_roundw
      case rel =>
        refine ⟨k + 1, by omega, by go_num, ?_, hb⟩
        have hlt' : bitsN (xs.take k) < 2 ^ 63 := Nat.lt_of_lt_of_le (bitsN_lt (j := 6) fun y hy => HP.out y (List.mem_of_mem_take hy)) (by decide)
        rw [pow_of r0 r1, bits_or _ _ hlt' (pow_lt r1), List.take_add_one, HX.out]
        congr 1
        simp [bitsN, List.foldl_append]
      case measure => simp [intOf]; omega
    · obtain rfl : k = xs.length := by omega
      rw [List.take_length]
      go_wp2
      go_returns
      exact ⟨rfl, hb⟩
/-! Sets of points as digits in base 2: 'l01Moved', 'l01Ones'. -/
/-- where a map leads the points below k of a set -/
def movedTo (f : Mp) (S : Nat) : Nat → Nat
  | 0 => 0
  | k + 1 => if S.testBit k then movedTo f S k ||| (1 <<< (f.to k).toNat) else movedTo f S k
def movedB (f : Mp) (S : Nat) : Nat := movedTo f S f.p.toNat
theorem movedTo_lt {f : Mp} {n : Int} (h : MpN f n) {S : Nat} : ∀ k : Nat, (k : Int) ≤ n → movedTo f S k < 2 ^ n.toNat
  | 0, _ => Nat.two_pow_pos _
  | k + 1, hk => by
    have ih := movedTo_lt h (S := S) k (by omega)
    have hb := h.1.2.1
    have hp := h.2
    unfold movedTo
    split
    · refine Nat.or_lt_two_pow ih ?_
      have := (h.1.2.2 k (by omega)).1 (by omega)
      rw [Nat.one_shiftLeft]
      exact Nat.pow_lt_pow_right (by decide) (by omega)
    · exact ih
theorem movedB_lt {f : Mp} {n : Int} (h : MpN f n) (S : Nat) : movedB f S < 2 ^ n.toNat := by
  have := h.1.1
  have := h.2
  exact movedTo_lt h _ (by omega)
theorem bit_one {S k : Nat} (hS : S < 2 ^ 62) : (bits .and .i64 ((S : Int) / 2 ^ k) 1 == 1) = S.testBit k := by
  have e1 : ((S : Int) / 2 ^ k) = ((S / 2 ^ k : Nat) : Int) := by push_cast; rfl
  have h63 : S / 2 ^ k < 2 ^ 63 := Nat.lt_of_le_of_lt (Nat.div_le_self _ _) (Nat.lt_of_lt_of_le hS (by decide))
  rw [e1, show ((1 : Int)) = ((1 : Nat) : Int) from rfl, bits_and _ 1 h63 (by decide), Nat.and_one_is_mod, Nat.testBit_eq_decide_div_mod_eq]
  rcases Nat.mod_two_eq_zero_or_one (S / 2 ^ k) with h | h <;> simp [h]
set_option maxHeartbeats 1000000 in
theorem l01Moved_c (f : Mp) (n : Int) (S : Nat) (w : World) (hf : MpN f n) (hS : S < 32) : Calls Try.prog 68 #[.agg #[.int .i64 f.p, .int .i64 f.a, .int .i64 f.b, .int .i64 f.c, .int .i64 f.d, .int .i64 f.e], .int .i64 (S : Int)] w fun e w' => e = .returned (.int .i64 (movedB f S : Int)) ∧ Below w.heap.size w w' := by
  have n5 : f.p ≤ 5 := hf.1.2.1
  have n1 : 1 ≤ f.p := hf.1.1
  have S0 : (0 : Int) ≤ S := by omega
  have S1 : (S : Int) < 32 := by omega
  have HF := Lib.hid hf
  clear hf
  go_enter Try.func68, Try.ntmps68
  go_wp2
  go_loopw [6, 5] (fun i out wr => ∃ k : Nat, (k : Int) ≤ f.p ∧ i = .int .i64 k ∧ out = .int .i64 (movedTo f S k : Int) ∧ MpAt wr w.heap.size 0 f ∧ Below w.heap.size w wr) (fun i _ _ => 5 - (intOf i).toNat)
  case atStart => exact ⟨0, by omega, rfl, rfl, MpAt.boxed w f _, by go_grown⟩
  case round =>
    obtain ⟨k, hk, rfl, rfl, hm, hb⟩ := hrel
    have q0 := hm.h0
    by_cases hlt : (k : Int) < f.p
    · have hk5 : k < 5 := by omega
      have g := hm.to' hk5
      have hto := (HF.out.1.2.2 k hk5).1 hlt
      have t0 := hto.1
      have t1 : f.to k < 5 := by omega
      have l0 : (0 : Int) ≤ k := by omega
      have l5 : (k : Int) < 5 := by omega
      have bz := bit_one (S := S) (k := k) (by omega)
      have hml := movedTo_lt HF.out (S := S) k (by rw [← HF.out.2]; exact hk)
      have ml : movedTo f S k < 2 ^ 63 := Nat.lt_of_lt_of_le hml (Nat.pow_le_pow_right (by decide) (by have := HF.out.2; omega))
      have hor : bits .or .i64 (movedTo f S k : Int) (wrap64 (2 ^ (f.to k).toNat)) = ((movedTo f S k ||| (1 <<< (f.to k).toNat) : Nat) : Int) := by
        rw [pow_of t0 (by omega), bits_or _ _ ml (pow_lt (by omega))]
      have HOR := Lib.hid hor
      clear hml ml hor hto
      cases ht : S.testBit k
      · rw [ht] at bz
        have HT := Lib.hid ht
        clear ht
        go_wp2
        go_roundw
        case rel => exact ⟨k + 1, by omega, by go_num, by show _ = Value.int .i64 ((if S.testBit k = true then _ else _ : Nat) : Int); rw [if_neg (by rw [HT.out]; decide)], hm, hb⟩
        case measure => simp [intOf]; omega
      · rw [ht] at bz
        have HT := Lib.hid ht
        clear ht
        go_wp2
        go_roundw
        case rel => exact ⟨k + 1, by omega, by go_num, by show _ = Value.int .i64 ((if S.testBit k = true then _ else _ : Nat) : Int); rw [if_pos HT.out, ← HOR.out], hm, hb⟩
        case measure => simp [intOf]; omega
    · have hkk : f.p.toNat = k := by omega
      have HK := Lib.hid hkk
      clear hkk
      go_wp2
      go_returns
      exact ⟨ret_int (by unfold movedB; rw [HK.out]), hb⟩
/-- the number of the digits 1 -/
def onesTo (S : Nat) : Nat → Nat
  | 0 => 0
  | k + 1 => onesTo S k + S / 2 ^ k % 2
def onesB (S : Nat) : Nat := onesTo S 6
theorem onesTo_le (S : Nat) : ∀ k, onesTo S k ≤ k
  | 0 => Nat.le_refl _
  | k + 1 => by have := onesTo_le S k; unfold onesTo; omega
theorem onesTo_stop {S k : Nat} (h : S / 2 ^ k = 0) : ∀ j, k ≤ j → onesTo S j = onesTo S k
  | 0, hj => by obtain rfl : k = 0 := by omega
                rfl
  | j + 1, hj => by
    rcases Nat.lt_or_ge j k with hlt | hge
    · obtain rfl : k = j + 1 := by omega
      rfl
    · have ih := onesTo_stop h j hge
      have : S / 2 ^ j = 0 := by
        have h1 : S < 2 ^ k := by
          rcases Nat.lt_or_ge S (2 ^ k) with h' | h'
          · exact h'
          · have := Nat.div_pos h' (Nat.two_pow_pos k); omega
        exact Nat.div_eq_of_lt (Nat.lt_of_lt_of_le h1 (Nat.pow_le_pow_right (by decide) hge))
      show onesTo S j + S / 2 ^ j % 2 = _
      rw [ih, this]
      rfl
set_option maxHeartbeats 1000000 in
theorem l01Ones_c (S : Nat) (w : World) (hS : S < 64) : Calls Try.prog 80 #[.int .i64 (S : Int)] w fun e w' => e = .returned (.int .i64 (onesB S : Int)) ∧ Below w.heap.size w w' := by
  have HS := Lib.hid hS
  go_enter Try.func80, Try.ntmps80
  go_wp2
  go_loopw [0, 3] (fun x cnt wr => ∃ k : Nat, k ≤ 6 ∧ x = .int .i64 ((S / 2 ^ k : Nat) : Int) ∧ cnt = .int .i64 (onesTo S k : Int) ∧ Below w.heap.size w wr) (fun x _ _ => (intOf x).toNat)
  case atStart => exact ⟨0, by omega, by simp, rfl, Below.refl _ _⟩
  case round =>
    obtain ⟨k, hk, rfl, rfl, hb⟩ := hrel
    have hol := onesTo_le S k
    obtain ⟨y, hy⟩ : ∃ y, y = S / 2 ^ k := ⟨_, rfl⟩
    have hnext : S / 2 ^ (k + 1) = y / 2 := by rw [hy, Nat.pow_succ, Nat.div_div_eq_div_mul]
    have hyS : y ≤ S := by rw [hy]; exact Nat.div_le_self _ _
    rw [← hy]
    by_cases h0 : 0 < y
    · have hk6 : k < 6 := by
        rcases Nat.lt_or_ge k 6 with h | h
        · exact h
        · obtain rfl : k = 6 := by omega
          have : S / 2 ^ 6 = 0 := Nat.div_eq_of_lt HS.out
          omega
      have HY := Lib.hid hy
      have HN := Lib.hid hnext
      clear hy hnext
      have y0 : (0 : Int) < y := by omega
      have y1 : (y : Int) < 64 := by omega
      have o1 : (onesTo S k : Int) ≤ 6 := by omega
      go_wp2
      go_roundw
      case rel => exact ⟨k + 1, by omega, by rw [HN.out]; go_num, by show _ = Value.int .i64 ((onesTo S k + S / 2 ^ k % 2 : Nat) : Int); rw [← HY.out]; go_num, hb⟩
      case measure => simp [intOf]; omega
    · have hy0 : y = 0 := by omega
      subst hy0
      have HY := Lib.hid hy.symm
      clear hy hnext
      go_wp2
      go_returns
      exact ⟨ret_int (by unfold onesB; rw [onesTo_stop HY.out 6 hk]), hb⟩
/-! The reference's rank of a map: the digits of its image. -/
/-- the image of all points, as digits -/
def imgTo (f : Mp) : Nat → Nat
  | 0 => 0
  | k + 1 => imgTo f k ||| (1 <<< (f.to k).toNat)
theorem imgTo_moved (f : Mp) (n : Nat) : ∀ k, k ≤ n → imgTo f k = movedTo f (2 ^ n - 1) k
  | 0, _ => rfl
  | k + 1, h => by
    unfold imgTo movedTo
    rw [if_pos (by rw [Nat.testBit_two_pow_sub_one]; exact decide_eq_true (by omega)), imgTo_moved f n k (by omega)]
set_option maxHeartbeats 1000000 in
theorem l01Image_c (f : Mp) (n : Int) (w : World) (hf : MpN f n) : Calls Try.prog 97 #[.agg #[.int .i64 f.p, .int .i64 f.a, .int .i64 f.b, .int .i64 f.c, .int .i64 f.d, .int .i64 f.e]] w fun e w' => e = .returned (.int .i64 (movedB f (2 ^ n.toNat - 1) : Int)) ∧ Below w.heap.size w w' := by
  have n5 : f.p ≤ 5 := hf.1.2.1
  have n1 : 1 ≤ f.p := hf.1.1
  have HF := Lib.hid hf
  clear hf
  go_enter Try.func97, Try.ntmps97
  go_wp2
  go_loopw [4, 3] (fun i out wr => ∃ k : Nat, (k : Int) ≤ f.p ∧ i = .int .i64 k ∧ out = .int .i64 (imgTo f k : Int) ∧ MpAt wr w.heap.size 0 f ∧ Below w.heap.size w wr) (fun i _ _ => 5 - (intOf i).toNat)
  case atStart => exact ⟨0, by omega, rfl, rfl, MpAt.boxed w f _, by go_grown⟩
  case round =>
    obtain ⟨k, hk, rfl, rfl, hm, hb⟩ := hrel
    have q0 := hm.h0
    by_cases hlt : (k : Int) < f.p
    · have hk5 : k < 5 := by omega
      have g := hm.to' hk5
      have hto := (HF.out.1.2.2 k hk5).1 hlt
      have t0 := hto.1
      have t1 : f.to k < 5 := by omega
      have l0 : (0 : Int) ≤ k := by omega
      have l5 : (k : Int) < 5 := by omega
      have hn := HF.out.2
      have hml := movedTo_lt HF.out (S := 2 ^ n.toNat - 1) k (by omega)
      rw [← imgTo_moved f n.toNat k (by omega)] at hml
      have ml : imgTo f k < 2 ^ 63 := Nat.lt_of_lt_of_le hml (Nat.pow_le_pow_right (by decide) (by omega))
      have hor : bits .or .i64 (imgTo f k : Int) (wrap64 (2 ^ (f.to k).toNat)) = ((imgTo f k ||| (1 <<< (f.to k).toNat) : Nat) : Int) := by
        rw [pow_of t0 (by omega), bits_or _ _ ml (pow_lt (by omega))]
      have HOR := Lib.hid hor
      clear hml ml hor hto hn
      go_wp2
      go_roundw
      case rel => exact ⟨k + 1, by omega, by go_num, by show _ = Value.int .i64 ((imgTo f k ||| (1 <<< (f.to k).toNat) : Nat) : Int); rw [← HOR.out], hm, hb⟩
      case measure => simp [intOf]; omega
    · have hkk : n.toNat = k := by have := HF.out.2; omega
      have HK := Lib.hid (show movedB f (2 ^ n.toNat - 1) = imgTo f k by unfold movedB; rw [HF.out.2, ← imgTo_moved f n.toNat _ (Nat.le_refl _), hkk])
      clear hkk
      go_wp2
      go_returns
      exact ⟨ret_int (by rw [HK.out]), hb⟩
set_option maxHeartbeats 1000000 in
theorem l01Rank_c (f : Mp) (n : Int) (w : World) (hf : MpN f n) : Calls Try.prog 62 #[.agg #[.int .i64 f.p, .int .i64 f.a, .int .i64 f.b, .int .i64 f.c, .int .i64 f.d, .int .i64 f.e]] w fun e w' => e = .returned (.int .i64 (onesB (movedB f (2 ^ n.toNat - 1)) : Int)) ∧ Below w.heap.size w w' := by
  have n5 : n ≤ 5 := by have := hf.1.2.1; have := hf.2; omega
  have hl := movedB_lt hf (2 ^ n.toNat - 1)
  have h32 : 2 ^ n.toNat ≤ 2 ^ 5 := Nat.pow_le_pow_right (by decide) (by omega)
  obtain ⟨S, hS⟩ : ∃ S, S = movedB f (2 ^ n.toNat - 1) := ⟨_, rfl⟩
  have hI : ∀ W, Calls Try.prog 97 #[.agg #[.int .i64 f.p, .int .i64 f.a, .int .i64 f.b, .int .i64 f.c, .int .i64 f.d, .int .i64 f.e]] W fun e w' => e = .returned (.int .i64 (S : Int)) ∧ Below W.heap.size W w' := fun W => by rw [hS]; exact l01Image_c f n W hf
  rw [← hS] at hl ⊢
  clear hS
  have k0 : Below w.heap.size w (w.alloc (Obj.cells #[.int .i64 f.p, .int .i64 f.a, .int .i64 f.b, .int .i64 f.c, .int .i64 f.d, .int .i64 f.e] 61)) := by go_grown
  have HI := Lib.hid hI
  clear hI
  go_enter Try.func62, Try.ntmps62
  go_wp2_with fail
  refine (HI.out _).mono ?_
  rintro e w1 ⟨rfl, hb1⟩
  replace hb1 := btrans k0 hb1
  go_wp2_with fail
  refine (l01Ones_c S _ (by omega)).mono ?_
  rintro e w2 ⟨rfl, hb2⟩
  go_wp2
  go_returns
  exact ⟨rfl, btrans hb1 hb2⟩
def rankN (n : Int) (f : Mp) : Int := (onesB (movedB f (2 ^ n.toNat - 1)) : Int)
end Go.Proofs.Ythadgdmooacccaa
