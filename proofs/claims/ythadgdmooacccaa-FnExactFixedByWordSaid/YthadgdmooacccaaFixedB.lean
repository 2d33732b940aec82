/- 'FixedByWord', on both sides. No condition. -/
import Derived.Test.YthadgdmooacccaaFixed
import Derived.Test.YthadgdmooacccaaIsMap
namespace Go.Proofs.Ythadgdmooacccaa
set_option linter.unusedSimpArgs false
set_option linter.unusedVariables false
set_option linter.unusedSectionVars false
open Go.RowKit
theorem FixedPoints_c (f : Mp) (n : Int) (w : World) (hf : MpN f n) :
    Calls Try.prog 90 #[.agg #[.int .i64 f.p, .int .i64 f.a, .int .i64 f.b, .int .i64 f.c, .int .i64 f.d, .int .i64 f.e]] w (WPost (fixL f n.toNat, 0) w) := by
  have k0 : Below w.heap.size w (w.alloc (Obj.cells #[.int .i64 f.p, .int .i64 f.a, .int .i64 f.b, .int .i64 f.c, .int .i64 f.d, .int .i64 f.e] 61)) := by go_grown
  have hm := MpAt.boxed w f 61
  have hw := fun W hb => where_c f n w.heap.size W hf (hm.below hb)
  have hi : isMpB f = true := decide_eq_true hf.1
  generalize fixL f n.toNat = r at hw ⊢
  have HW := Lib.hid hw
  clear hw hf
  go_enter Try.func90, Try.ntmps90
  go_wp2_with fail
  refine (valB (IsMap_c f _) hi).mono ?_
  rintro e w1 ⟨rfl, hb1⟩
  have hm1 := hm.below hb1
  obtain ⟨q0, q1, q2, q3, q4, q5⟩ := hm1.cells0
  go_wp2_with fail
  refine (HW.out _ hb1).mono ?_
  rintro e w2 ⟨v, rfl, hown, hb2⟩
  obtain ⟨A1, c1, rfl, _⟩ := hown.see
  have hk1 := btrans k0 hb1
  go_wp2
  go_returns
  exact ⟨_, rfl, hown.mono hk1.size, btrans hk1 hb2⟩
def RFixedByWord (ms : List Mp) (word : List Int) : List Int × Int := if wcode ms word = 0 then (fixL (mapW ms word) (ms.headD Mp.z).p.toNat, 0) else ([], wcode ms word)
theorem fixL_len (f : Mp) (n : Nat) : (fixL f n).length ≤ n := by
  have := List.length_filter_le (fun p => decide (f.at p = p)) (ptsN n)
  rw [ptsN_length] at this
  exact this
theorem RFixedByWord_len (ms : List Mp) (word : List Int) : (RFixedByWord ms word).1.length ≤ 1000 := by
  unfold RFixedByWord
  split
  · rename_i hc
    obtain ⟨hr, _, _⟩ := wcode_ok hc
    have h1 := fixL_len (mapW ms word) (ms.headD Mp.z).p.toNat
    have h2 := hr.bounds.2
    show (fixL (mapW ms word) (ms.headD Mp.z).p.toNat).length ≤ _
    omega
  · simp
theorem fixL_succ (f : Mp) (k : Nat) : fixL f (k + 1) = fixL f k ++ (if f.to k = (k : Int) then [(k : Int)] else []) := by
  unfold fixL
  rw [ptsN_succ, List.filter_append]
  congr 1
  have e : f.at (k : Int) = f.to k := rfl
  rw [List.filter_cons, e]
  split <;> simp_all
set_option maxHeartbeats 1000000 in
theorem implFixedByWord_l {A A' : Option Addr} {c c' : Nat} {ms : List Mp} {word : List Int} {w : World} (h : SeeMaps w A ms) (hn : ms.length ≤ 2097152) (hA : NilOk A c) (h' : SeeInts w A' word) (hn' : word.length ≤ 2097152) (_ : NilOk A' c') :
    Calls Try.prog 47 #[.slice A ms.length c, .slice A' word.length c'] w (WPost (RFixedByWord ms word) w) := by
  have L := wordCode_c A A' c c' ms word _ hn h hA h' hn'
  by_cases hc : wcode ms word = 0
  · have e1 : RFixedByWord ms word = (fixL (mapW ms word) (ms.headD Mp.z).p.toNat, 0) := by unfold RFixedByWord; rw [if_pos hc]
    rw [e1]
    obtain ⟨hr, hw, hw40⟩ := wcode_ok hc
    have hm := fun W hW => mapOf_c A A' c c' ms (ms.headD Mp.z).p word W hr (SeeMaps.below h hW) (SeeInts.below h' hW) hn' hw
    have hfx := fun W => FixedPoints_c (mapW ms word) (ms.headD Mp.z).p W (mapW_MpN hr hw)
    generalize fixL (mapW ms word) (ms.headD Mp.z).p.toNat = r at hfx ⊢
    generalize mapW ms word = f at *
    have HM := Lib.hid hm
    have HFX := Lib.hid hfx
    clear e1 hm hfx h h' hr hw
    go_enter Try.func47, Try.ntmps47
    go_wp2_with fail
    refine (valI L hc).mono ?_
    rintro e w2 ⟨rfl, hb2⟩
    go_wp2_with fail
    refine (HM.out _ hb2).mono ?_
    rintro e w3 ⟨rfl, hb3⟩
    replace hb3 := btrans hb2 hb3
    go_wp2_with fail
    refine (HFX.out _).mono ?_
    rintro e w4 ⟨v, rfl, hown, hb4⟩
    obtain ⟨A1, c1, rfl, _⟩ := hown.see
    go_wp2
    go_returns
    exact ⟨_, rfl, hown.mono hb3.size, btrans hb3 hb4⟩
  · have e1 : RFixedByWord ms word = ([], wcode ms word) := by unfold RFixedByWord; rw [if_neg hc]
    rw [e1]
    have d : (wcode ms word != 0) = true := by simpa using hc
    clear e1 h
    go_enter Try.func47, Try.ntmps47
    go_wp2_with (go_at_call 59; go_must (refine L.mono ?_); rintro e w2 ⟨rfl, hb2⟩)
    go_returns
    exact WPost.nil hb2
set_option maxHeartbeats 2000000 in
theorem specFixedByWord_l {A A' : Option Addr} {c c' : Nat} {ms : List Mp} {word : List Int} {w : World} (h : SeeMaps w A ms) (hn : ms.length ≤ 2097152) (_ : NilOk A c) (h' : SeeInts w A' word) (hn' : word.length ≤ 2097152) (_ : NilOk A' c') :
    Calls Try.prog 46 #[.slice A ms.length c, .slice A' word.length c'] w (WPost (RFixedByWord ms word) w) := by
  have L := l05Code_c A A' none c c' 0 ms word [] w hn h h' hn' (fun h => absurd rfl h) (by simp)
  rw [pcode_nil] at L
  by_cases hc : wcode ms word = 0
  · have e1 : RFixedByWord ms word = (fixL (mapW ms word) (ms.headD Mp.z).p.toNat, 0) := by unfold RFixedByWord; rw [if_pos hc]
    rw [e1]
    obtain ⟨hr, hw, hw40⟩ := wcode_ok hc
    have hm := fun W hW => l05Map_c A A' c c' ms word (ms.headD Mp.z).p W (SeeMaps.below h hW) (SeeInts.below h' hW) hr hw hn'
    have hf := mapW_MpN hr hw
    have hb := hr.bounds
    generalize (ms.headD Mp.z).p = n at *
    generalize mapW ms word = f at *
    have hfp := hf.2
    subst hfp
    have HM := Lib.hid hm
    clear e1 hm h h' hr hw
    go_enter Try.func46, Try.ntmps46
    go_wp2_with fail
    refine (valI L hc).mono ?_
    rintro e w2 ⟨rfl, hb2⟩
    go_wp2_with fail
    refine (HM.out _ hb2).mono ?_
    rintro e w3 ⟨rfl, hb3⟩
    replace hb3 := btrans hb2 hb3
    have hz3 := hb3.size
    clear L
    go_wp2
    go_loopw [9, 8] (fun i out wr => ∃ k : Nat, (k : Int) ≤ f.p ∧ i = .int .i64 k ∧ OwnInts wr w.heap.size out (fixL f k) ∧ out.ownBlock ≠ some (w3.heap.size + 1) ∧ MpBox wr (w3.heap.size + 1) f ∧ Below w.heap.size w wr) (fun i _ _ => 5 - (intOf i).toNat)
    case atStart =>
      refine ⟨0, by omega, rfl, OwnInts.below (w := w3.alloc (Obj.cells #[] 2)) ⟨rfl, .inr ⟨w3.heap.size, 0, #[], rfl, hz3, heap_alloc_new w3 _, Nat.le_refl _, by decide, rfl, rfl⟩⟩ (kbelow _ _), by simp [Value.ownBlock], MpBox.new f 61 (by simp), (by repeat' (first | (with_reducible exact Below.refl _ _) | (with_reducible assumption) | (with_reducible refine bdrewN ?_ _) | (with_reducible refine Below.alloc ?_ ?_ _) | (with_reducible refine Below.drew ?_) | (with_reducible refine Below.setCell ?_ ?_ _) | go_size))⟩
    case round =>
      clear hb3 hb2
      obtain ⟨k, hk, rfl, hown, hne, hbx, hb⟩ := hrel
      have hlb := hbx.lt
      have hz := hb.size
      have qp := hbx.at.h0
      rw [Nat.add_zero] at qp
      by_cases hlt : (k : Int) < f.p
      · have hk5 : k < 5 := by omega
        have q := hbx.at.to' hk5
        have hl := fixL_len f k
        have HS := Lib.hid (fixL_succ f k)
        have l0 : (0 : Int) ≤ k := by omega
        have l5 : (k : Int) < 5 := by omega
        obtain ⟨A0, c0, rfl, _⟩ := hown.see
        by_cases he : f.to k = (k : Int)
        · rw [if_pos he] at HS
          have hd : (f.to k == (k : Int)) = true := beq_iff_eq.2 he
          generalize fixL f k = xs at *
          clear he
          go_wp2_with (at_builtin; refine wpList_push_int _ rfl (.tmp 32) (.tmp 34) rfl w.heap.size _ xs rfl (hown.below (kbelow _ _)) ⟨wr.heap.size, 0, none⟩ (k : Int) rfl (by simp [go_sem]) (by omega) (by go_size) ?_; intro v' w5 hown' hgrow hv')
          go_roundw
          case rel =>
            refine ⟨k + 1, by omega, by go_num, by rw [HS.out]; exact hown', fun e => ?_, ?_, Below.grown (w := wr.alloc (.cells #[.int .i64 (k : Int)] 2)) (by go_grown) hgrow (by simp; omega) (fun j hj => (hown.lt j hj).1)⟩
            · rcases hv' with h1 | h1
              · exact hne (h1 ▸ e)
              · rw [h1] at e; have := Option.some.inj e; simp at this; omega
            · have hlb2 : w3.heap.size + 1 < (wr.alloc (.cells #[.int .i64 (k : Int)] 2)).heap.size := by simp; omega
              obtain ⟨t, ht⟩ := hbx.keep (.cells #[.int .i64 (k : Int)] 2)
              exact ⟨t, (hgrow.block _ hlb2 (fun e => hne e.symm)).trans ht⟩
          case measure => simp [intOf]; omega
        · rw [if_neg he, List.append_nil] at HS
          have hd : (f.to k == (k : Int)) = false := beq_eq_false_iff_ne.2 he
          generalize fixL f k = xs at *
          clear he
          go_wp2
          go_roundw
          case rel => exact ⟨k + 1, by omega, by go_num, by rw [HS.out]; exact hown, hne, hbx, hb⟩
          case measure => simp [intOf]; omega
      · have hkk : f.p.toNat = k := by omega
        have HK := Lib.hid hkk
        obtain ⟨A0, c0, rfl, _⟩ := hown.see
        clear hkk
        go_wp2
        go_returns
        rw [HK.out]
        exact ⟨_, rfl, hown, hb⟩
  · have e1 : RFixedByWord ms word = ([], wcode ms word) := by unfold RFixedByWord; rw [if_neg hc]
    rw [e1]
    have d : (wcode ms word != 0) = true := by simpa using hc
    clear e1 h
    go_enter Try.func46, Try.ntmps46
    go_wp2_with (go_at_call 57; go_must (refine L.mono ?_); rintro e w2 ⟨rfl, hb2⟩)
    go_returns
    exact WPost.nil hb2
end Go.Proofs.Ythadgdmooacccaa
