/- 'FirstMeeting', on both sides. No condition. -/
import Derived.Test.YthadgdmooacccaaMeet
namespace Go.Proofs.Ythadgdmooacccaa
set_option linter.unusedSimpArgs false
set_option linter.unusedVariables false
set_option linter.unusedSectionVars false
open Go.RowKit
def RFirstMeeting (ms : List Mp) (p q : Int) : List Int × Int := if pcode ms [] [p, q] = 0 then fmeet ms p q else ([], pcode ms [] [p, q])
theorem RFirstMeeting_len (ms : List Mp) (p q : Int) : (RFirstMeeting ms p q).1.length ≤ 1000 := by
  unfold RFirstMeeting
  split
  · exact fw_length _ _ _ _
  · simp
theorem wcode_nil (ms : List Mp) : wcode ms [] = lcode ms [] := by
  unfold wcode
  split
  · rename_i h
    rw [if_pos (by simp [isWordB, InL]), h]
  · rfl
theorem inB_of {a b c : Int} (h : inB a b c = true) : b ≤ a ∧ a ≤ c := Classical.byContradiction fun hn => by rw [inB_false hn] at h; cases h
theorem pcode_two {ms : List Mp} {p q : Int} (h : lcode ms [] = 0) : pcode ms [] [p, q] = if inB p 0 ((ms.headD Mp.z).p - 1) = true ∧ inB q 0 ((ms.headD Mp.z).p - 1) = true then 0 else 2 := by
  unfold pcode
  rw [if_pos (by rw [wcode_nil]; exact h)]
  by_cases hi : 0 ≤ p ∧ p ≤ (ms.headD Mp.z).p - 1
  · by_cases hj : 0 ≤ q ∧ q ≤ (ms.headD Mp.z).p - 1
    · rw [if_pos (fun x hx => by
        rcases List.mem_cons.1 hx with rfl | hx
        · exact hi
        · rw [List.mem_singleton.1 hx]; exact hj), if_pos ⟨inB_true hi.1 hi.2, inB_true hj.1 hj.2⟩]
    · rw [if_neg (fun H => hj (H q (by simp))), if_neg (fun H => by rw [inB_false hj] at H; cases H.2)]
  · rw [if_neg (fun H => hi (H p (by simp))), if_neg (fun H => by rw [inB_false hi] at H; cases H.1)]
set_option maxHeartbeats 2000000 in
theorem implFirstMeeting_l {A : Option Addr} {c : Nat} {ms : List Mp} {p q : Int} {w : World} (h : SeeMaps w A ms) (hn : ms.length ≤ 2097152) (hA : NilOk A c) :
    Calls Try.prog 36 #[.slice A ms.length c, .int .i64 p, .int .i64 q] w (WPost (RFirstMeeting ms p q) w) := by
  have L := listCode_c A none c 0 ms [] w hn (by simp) h (fun h => absurd rfl h) hA (fun _ => rfl)
  by_cases hc : lcode ms [] = 0
  · have ep := pcode_two (p := p) (q := q) hc
    have hr := rightL_of hc
    obtain ⟨m0, h0, hm0, hp0⟩ := head_at hr
    have HR := Lib.hid hr
    have H0 := Lib.hid h0
    have HM0 := Lib.hid hm0
    have HP0 := Lib.hid hp0
    have HH := Lib.hid h
    rw [← hp0] at ep
    clear hr h0 hp0 hm0
    cases hp : inB p 0 (m0.p - 1)
    · have e1 : RFirstMeeting ms p q = ([], 2) := by unfold RFirstMeeting; rw [ep, hp]; simp
      rw [e1]
      clear e1 ep h
      go_enter Try.func36, Try.ntmps36
      go_wp2_with (first | (go_at_call 75; go_must (refine (valI L hc).mono ?_); rintro e w2 ⟨rfl, hb2⟩) | (go_at_call 60; go_must (refine (valB (isPoint_c A c ms m0 p _ (HH.out.below hb2) H0.out HM0.out) hp).mono ?_); rintro e w3 ⟨rfl, hb3⟩))
      go_returns
      exact WPost.nil (btrans hb2 hb3)
    · cases hq : inB q 0 (m0.p - 1)
      · have e1 : RFirstMeeting ms p q = ([], 2) := by unfold RFirstMeeting; rw [ep, hp, hq]; simp
        rw [e1]
        clear e1 ep h
        go_enter Try.func36, Try.ntmps36
        go_wp2_with fail
        refine (valI L hc).mono ?_
        rintro e w2 ⟨rfl, hb2⟩
        go_wp2_with fail
        refine (valB (isPoint_c A c ms m0 p _ (HH.out.below hb2) H0.out HM0.out) hp).mono ?_
        rintro e w3 ⟨rfl, hb3⟩
        replace hb3 := btrans hb2 hb3
        go_wp2_with fail
        refine (valB (isPoint_c A c ms m0 q _ (HH.out.below hb3) H0.out HM0.out) hq).mono ?_
        rintro e w4 ⟨rfl, hb4⟩
        go_wp2
        go_returns
        exact WPost.nil (btrans hb3 hb4)
      · have e1 : RFirstMeeting ms p q = fmeet ms p q := by unfold RFirstMeeting; rw [ep, hp, hq]; simp
        rw [e1]
        have i1 := inB_of hp
        have i2 := inB_of hq
        have i3 := HP0.out
        have hm := fun W hW => meeting_c A c ms m0.p p q W (h.below hW) (i3 ▸ HR.out) ⟨by omega, by omega⟩ ⟨by omega, by omega⟩
        generalize fmeet ms p q = r at hm ⊢
        have HMT := Lib.hid hm
        clear e1 ep h hm i1 i2 i3
        go_enter Try.func36, Try.ntmps36
        go_wp2_with fail
        refine (valI L hc).mono ?_
        rintro e w2 ⟨rfl, hb2⟩
        go_wp2_with fail
        refine (valB (isPoint_c A c ms m0 p _ (HH.out.below hb2) H0.out HM0.out) hp).mono ?_
        rintro e w3 ⟨rfl, hb3⟩
        replace hb3 := btrans hb2 hb3
        go_wp2_with fail
        refine (valB (isPoint_c A c ms m0 q _ (HH.out.below hb3) H0.out HM0.out) hq).mono ?_
        rintro e w4 ⟨rfl, hb4⟩
        replace hb4 := btrans hb3 hb4
        go_wp2_with fail
        refine (HMT.out _ hb4).mono ?_
        rintro e w5 ⟨v, rfl, hown, hb5⟩
        obtain ⟨A1, c1, rfl, _⟩ := hown.see
        go_wp2
        go_returns
        exact ⟨_, rfl, hown.mono hb4.size, btrans hb4 hb5⟩
  · have e1 : RFirstMeeting ms p q = ([], lcode ms []) := by simp [RFirstMeeting, pcode, wcode_nil, hc]
    rw [e1]
    have d : (lcode ms [] != 0) = true := by simpa using hc
    clear e1 h
    go_enter Try.func36, Try.ntmps36
    go_wp2_with (go_at_call 75; go_must (refine L.mono ?_); rintro e w2 ⟨rfl, hb2⟩)
    go_returns
    exact WPost.nil hb2
theorem fmeet_bool {ms : List Mp} {p q : Int} {r : List Int × Int} (h : r = fmeet ms p q) : (r.2 = 0) ∨ r = ([], 4) := by
  rw [h]
  rcases fw_cases (stB ms) ms.length (bitsN [p, q]) (onesP 1) with ⟨u, e⟩ | e
  · exact .inl (by unfold fmeet; rw [e])
  · exact .inr e
set_option maxHeartbeats 2000000 in
theorem specFirstMeeting_l {A : Option Addr} {c : Nat} {ms : List Mp} {p q : Int} {w : World} (h : SeeMaps w A ms) (hn : ms.length ≤ 2097152) (_ : NilOk A c) :
    Calls Try.prog 35 #[.slice A ms.length c, .int .i64 p, .int .i64 q] w (WPost (RFirstMeeting ms p q) w) := by
  have k0 : Below w.heap.size w ((w.alloc (.cells #[] 2)).alloc (.cells #[.int .i64 p, .int .i64 q] 2)) := by go_grown
  have hp2 := (OwnInts.two (w.alloc (.cells #[] 2)) 0 (Nat.zero_le _) p q).see'
  have e1 : (w.alloc (.cells #[] 2)).heap.size = w.heap.size + 1 := by simp
  rw [e1] at hp2
  have L := l05Code_c A (some ⟨w.heap.size, 0, none⟩) (some ⟨w.heap.size + 1, 0, none⟩) c 0 2 ms [] [p, q] _ hn (h.below k0) (fun h => absurd rfl h) (by simp) hp2 (by simp)
  by_cases hc : pcode ms [] [p, q] = 0
  · have e : RFirstMeeting ms p q = fmeet ms p q := by simp [RFirstMeeting, hc]
    rw [e]
    obtain ⟨hr, _, _, hpq⟩ := pcode_ok hc
    have ip := hpq p (by simp)
    have iq := hpq q (by simp)
    have hb := hr.bounds
    have hT := fun W hW => l05ToRank_c A c ms (ms.headD Mp.z).p 1 (bitsN [p, q]) W (h.below hW) hr (bits2_lt hb ⟨by omega, by omega⟩ ⟨by omega, by omega⟩)
    have hfb := fun r => fmeet_bool (ms := ms) (p := p) (q := q) (r := r)
    change ∀ W hW, Calls _ _ _ _ (TrPost (fmeet ms p q) W) at hT
    obtain ⟨r, hre⟩ : ∃ r, r = fmeet ms p q := ⟨_, rfl⟩
    have hrb := fmeet_bool hre
    rw [← hre] at hT ⊢
    have HT := Lib.hid hT
    have hx2 : ∀ x ∈ [p, q], 0 ≤ x ∧ x < 6 := fun x hx => by
      rcases List.mem_cons.1 hx with rfl | hx
      · exact ⟨ip.1, by omega⟩
      · rw [List.mem_singleton.1 hx]; exact ⟨iq.1, by omega⟩
    have HB := Lib.hid (fun W F fc hs => l01Bits_c F fc [p, q] W hs hx2 (by simp))
    clear hT hre e hr hpq ip iq hb hfb h hx2
    go_enter Try.func35, Try.ntmps35
    go_wp2_with fail
    refine (valI L hc).mono ?_
    rintro e w1 ⟨rfl, hb1⟩
    replace hb1 := btrans k0 hb1
    go_wp2_with fail
    have k2 : Below w.heap.size w (w1.alloc (.cells #[.int .i64 p, .int .i64 q] 2)) := btrans hb1 (kbelow _ _)
    refine (HB.out _ (some ⟨w1.heap.size, 0, none⟩) 2 (OwnInts.two w1 0 (Nat.zero_le _) p q).see').mono ?_
    rintro e w2 ⟨rfl, hb2⟩
    replace hb2 := btrans k2 hb2
    go_wp2_with fail
    refine (HT.out _ hb2).mono ?_
    rintro e w3 ⟨v, rfl, hown, hb3⟩
    obtain ⟨A1, c1, rfl, _⟩ := hown.see
    rcases hrb with h0 | rfl
    · rw [h0]
      go_wp2
      go_returns
      exact ⟨_, by rw [h0]; rfl, hown.mono hb2.size, btrans hb2 hb3⟩
    · go_wp2
      go_returns
      exact WPost.nil (btrans hb2 hb3)
  · have e : RFirstMeeting ms p q = ([], pcode ms [] [p, q]) := by simp [RFirstMeeting, hc]
    rw [e]
    have d : (pcode ms [] [p, q] != 0) = true := by simpa using hc
    clear e h
    go_enter Try.func35, Try.ntmps35
    go_wp2_with (go_at_call 57; go_must (refine L.mono ?_); rintro e w1 ⟨rfl, hb1⟩)
    go_returns
    exact WPost.nil (btrans k0 hb1)
end Go.Proofs.Ythadgdmooacccaa
