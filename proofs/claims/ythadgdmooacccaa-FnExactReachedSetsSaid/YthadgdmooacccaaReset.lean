/- 'FirstReset', 'FirstToRank', on both sides. No condition. -/
import Derived.Test.YthadgdmooacccaaToRankI
import Derived.Test.YthadgdmooacccaaMeetB
namespace Go.Proofs.Ythadgdmooacccaa
open Go.RowKit
def RFirstToRank (ms : List Mp) (r : Int) : List Int × Int := if lcode ms [] = 0 then (if inB r 1 5 = true then ftoRank ms (ms.headD Mp.z).p r else ([], 2)) else ([], lcode ms [])
def RFirstReset (ms : List Mp) : List Int × Int := if lcode ms [] = 0 then ftoRank ms (ms.headD Mp.z).p 1 else ([], lcode ms [])
theorem RFirstReset_len (ms : List Mp) : (RFirstReset ms).1.length ≤ 1000 := by
  unfold RFirstReset
  split
  · exact fw_length _ _ _ _
  · simp
theorem RFirstToRank_len (ms : List Mp) (r : Int) : (RFirstToRank ms r).1.length ≤ 1000 := by
  unfold RFirstToRank
  split
  · split
    · exact fw_length _ _ _ _
    · simp
  · simp
theorem frank_bool {ms : List Mp} {n r : Int} {q : List Int × Int} (h : q = ftoRank ms n r) : (q.2 = 0) ∨ q = ([], 4) := by
  rw [h]
  rcases fw_cases (stB ms) ms.length (2 ^ n.toNat - 1) (onesP r) with ⟨u, e⟩ | e
  · exact .inl (by unfold ftoRank; rw [e])
  · exact .inr e
set_option maxHeartbeats 1000000 in
theorem implFirstReset_l {A : Option Addr} {c : Nat} {ms : List Mp} {w : World} (h : SeeMaps w A ms) (hn : ms.length ≤ 2097152) (hA : NilOk A c) :
    Calls Try.prog 30 #[.slice A ms.length c] w (WPost (RFirstReset ms) w) := by
  have L := listCode_c A none c 0 ms [] w hn (by simp) h (fun h => absurd rfl h) hA (fun _ => rfl)
  by_cases hc : lcode ms [] = 0
  · have e1 : RFirstReset ms = ftoRank ms (ms.headD Mp.z).p 1 := by unfold RFirstReset; rw [if_pos hc]
    rw [e1]
    have hr := rightL_of hc
    have hm := fun W hW => toRank_c A c ms (ms.headD Mp.z).p 1 W (h.below hW) hr
    generalize ftoRank ms (ms.headD Mp.z).p 1 = r at hm ⊢
    have HM := Lib.hid hm
    clear e1 h hm hr
    go_enter Try.func30, Try.ntmps30
    go_wp2_with fail
    refine (valI L hc).mono ?_
    rintro e w2 ⟨rfl, hb2⟩
    go_wp2_with fail
    refine (HM.out _ hb2).mono ?_
    rintro e w5 ⟨v, rfl, hown, hb5⟩
    obtain ⟨A1, c1, rfl, _⟩ := hown.see
    go_wp2
    go_returns
    exact ⟨_, rfl, hown.mono hb2.size, btrans hb2 hb5⟩
  · have e1 : RFirstReset ms = ([], lcode ms []) := by unfold RFirstReset; rw [if_neg hc]
    rw [e1]
    have d : (lcode ms [] != 0) = true := by simpa using hc
    clear e1 h
    go_enter Try.func30, Try.ntmps30
    go_wp2_with (go_at_call 75; go_must (refine L.mono ?_); rintro e w2 ⟨rfl, hb2⟩)
    go_returns
    exact WPost.nil hb2
set_option maxHeartbeats 1000000 in
theorem specFirstReset_l {A : Option Addr} {c : Nat} {ms : List Mp} {w : World} (h : SeeMaps w A ms) (hn : ms.length ≤ 2097152) (_ : NilOk A c) :
    Calls Try.prog 29 #[.slice A ms.length c] w (WPost (RFirstReset ms) w) := by
  have L := l02Given_c A none c 0 ms [] w hn (by simp) h (fun h => absurd rfl h)
  by_cases hc : lcode ms [] = 0
  · have e1 : RFirstReset ms = ftoRank ms (ms.headD Mp.z).p 1 := by unfold RFirstReset; rw [if_pos hc]
    rw [e1]
    have hr := rightL_of hc
    have hfu := fun W hW => l05Full_c A c ms (ms.headD Mp.z).p W (h.below hW) hr
    have hp2 : 2 ^ (ms.headD Mp.z).p.toNat - 1 < 2 ^ (ms.headD Mp.z).p.toNat := by have := Nat.two_pow_pos (ms.headD Mp.z).p.toNat; omega
    have hm := fun W hW => l05ToRank_c A c ms (ms.headD Mp.z).p 1 _ W (h.below hW) hr hp2
    change ∀ W hW, Calls _ _ _ _ (TrPost (ftoRank ms (ms.headD Mp.z).p 1) W) at hm
    obtain ⟨r, hre⟩ : ∃ r, r = ftoRank ms (ms.headD Mp.z).p 1 := ⟨_, rfl⟩
    have hrb := frank_bool hre
    rw [← hre] at hm ⊢
    generalize 2 ^ (ms.headD Mp.z).p.toNat - 1 = full at *
    have HM := Lib.hid hm
    have HFU := Lib.hid hfu
    clear e1 h hm hr hfu hre hp2
    go_enter Try.func29, Try.ntmps29
    go_wp2_with fail
    refine (valI L hc).mono ?_
    rintro e w2 ⟨rfl, hb2⟩
    go_wp2_with fail
    refine (HFU.out _ hb2).mono ?_
    rintro e w3 ⟨rfl, hb3⟩
    replace hb3 := btrans hb2 hb3
    go_wp2_with fail
    refine (HM.out _ hb3).mono ?_
    rintro e w5 ⟨v, rfl, hown, hb5⟩
    obtain ⟨A1, c1, rfl, _⟩ := hown.see
    rcases hrb with h0 | rfl
    · rw [h0]
      go_wp2
      go_returns
      exact ⟨_, by rw [h0]; rfl, hown.mono hb3.size, btrans hb3 hb5⟩
    · go_wp2
      go_returns
      exact WPost.nil (btrans hb3 hb5)
  · have e1 : RFirstReset ms = ([], lcode ms []) := by unfold RFirstReset; rw [if_neg hc]
    rw [e1]
    have d : (lcode ms [] != 0) = true := by simpa using hc
    clear e1 h
    go_enter Try.func29, Try.ntmps29
    go_wp2_with (go_at_call 72; go_must (refine L.mono ?_); rintro e w2 ⟨rfl, hb2⟩)
    go_returns
    exact WPost.nil hb2
set_option maxHeartbeats 1000000 in
theorem implFirstToRank_l {A : Option Addr} {c : Nat} {ms : List Mp} {r : Int} {w : World} (h : SeeMaps w A ms) (hn : ms.length ≤ 2097152) (hA : NilOk A c) :
    Calls Try.prog 32 #[.slice A ms.length c, .int .i64 r] w (WPost (RFirstToRank ms r) w) := by
  have L := listCode_c A none c 0 ms [] w hn (by simp) h (fun h => absurd rfl h) hA (fun _ => rfl)
  by_cases hc : lcode ms [] = 0
  · cases hi : inB r 1 5
    · have e1 : RFirstToRank ms r = ([], 2) := by unfold RFirstToRank; rw [if_pos hc, hi]; simp
      rw [e1]
      clear e1 h
      go_enter Try.func32, Try.ntmps32
      go_wp2_with (first | (go_at_call 75; go_must (refine (valI L hc).mono ?_); rintro e w2 ⟨rfl, hb2⟩) | (go_at_call 78; go_must (refine (valB (within_c r 1 5 _) hi).mono ?_); rintro e w3 ⟨rfl, hb3⟩))
      go_returns
      exact WPost.nil (btrans hb2 hb3)
    · have e1 : RFirstToRank ms r = ftoRank ms (ms.headD Mp.z).p r := by unfold RFirstToRank; rw [if_pos hc, if_pos hi]
      rw [e1]
      have hr := rightL_of hc
      have hm := fun W hW => toRank_c A c ms (ms.headD Mp.z).p r W (h.below hW) hr
      generalize ftoRank ms (ms.headD Mp.z).p r = res at hm ⊢
      have HM := Lib.hid hm
      clear e1 h hm hr
      go_enter Try.func32, Try.ntmps32
      go_wp2_with fail
      refine (valI L hc).mono ?_
      rintro e w2 ⟨rfl, hb2⟩
      go_wp2_with fail
      refine (valB (within_c r 1 5 _) hi).mono ?_
      rintro e w3 ⟨rfl, hb3⟩
      replace hb3 := btrans hb2 hb3
      go_wp2_with fail
      refine (HM.out _ hb3).mono ?_
      rintro e w5 ⟨v, rfl, hown, hb5⟩
      obtain ⟨A1, c1, rfl, _⟩ := hown.see
      go_wp2
      go_returns
      exact ⟨_, rfl, hown.mono hb3.size, btrans hb3 hb5⟩
  · have e1 : RFirstToRank ms r = ([], lcode ms []) := by unfold RFirstToRank; rw [if_neg hc]
    rw [e1]
    have d : (lcode ms [] != 0) = true := by simpa using hc
    clear e1 h
    go_enter Try.func32, Try.ntmps32
    go_wp2_with (go_at_call 75; go_must (refine L.mono ?_); rintro e w2 ⟨rfl, hb2⟩)
    go_returns
    exact WPost.nil hb2
set_option maxHeartbeats 1000000 in
theorem specFirstToRank_l {A : Option Addr} {c : Nat} {ms : List Mp} {r : Int} {w : World} (h : SeeMaps w A ms) (hn : ms.length ≤ 2097152) (_ : NilOk A c) :
    Calls Try.prog 31 #[.slice A ms.length c, .int .i64 r] w (WPost (RFirstToRank ms r) w) := by
  have L := l02Given_c A none c 0 ms [] w hn (by simp) h (fun h => absurd rfl h)
  by_cases hc : lcode ms [] = 0
  · cases hi : inB r 1 5
    · have e1 : RFirstToRank ms r = ([], 2) := by unfold RFirstToRank; rw [if_pos hc, hi]; simp
      rw [e1]
      clear e1 h
      go_enter Try.func31, Try.ntmps31
      go_wp2_with fail
      refine (valI L hc).mono ?_
      rintro e w2 ⟨rfl, hb2⟩
      go_wp2_with fail
      refine (valB (l01In_c r 1 5 _) hi).mono ?_
      rintro e w3 ⟨rfl, hb3⟩
      go_wp2
      go_returns
      exact WPost.nil (btrans hb2 hb3)
    · have e1 : RFirstToRank ms r = ftoRank ms (ms.headD Mp.z).p r := by unfold RFirstToRank; rw [if_pos hc, if_pos hi]
      rw [e1]
      have hr := rightL_of hc
      have hfu := fun W hW => l05Full_c A c ms (ms.headD Mp.z).p W (h.below hW) hr
      have hp2 : 2 ^ (ms.headD Mp.z).p.toNat - 1 < 2 ^ (ms.headD Mp.z).p.toNat := by have := Nat.two_pow_pos (ms.headD Mp.z).p.toNat; omega
      have hm := fun W hW => l05ToRank_c A c ms (ms.headD Mp.z).p r _ W (h.below hW) hr hp2
      change ∀ W hW, Calls _ _ _ _ (TrPost (ftoRank ms (ms.headD Mp.z).p r) W) at hm
      obtain ⟨res, hre⟩ : ∃ res, res = ftoRank ms (ms.headD Mp.z).p r := ⟨_, rfl⟩
      have hrb := frank_bool hre
      rw [← hre] at hm ⊢
      generalize 2 ^ (ms.headD Mp.z).p.toNat - 1 = full at *
      have HM := Lib.hid hm
      have HFU := Lib.hid hfu
      clear e1 h hm hr hfu hre hp2
      go_enter Try.func31, Try.ntmps31
      go_wp2_with fail
      refine (valI L hc).mono ?_
      rintro e w2 ⟨rfl, hb2⟩
      go_wp2_with fail
      refine (valB (l01In_c r 1 5 _) hi).mono ?_
      rintro e w4 ⟨rfl, hb4⟩
      replace hb4 := btrans hb2 hb4
      go_wp2_with fail
      refine (HFU.out _ hb4).mono ?_
      rintro e w3 ⟨rfl, hb3⟩
      replace hb3 := btrans hb4 hb3
      go_wp2_with fail
      refine (HM.out _ hb3).mono ?_
      rintro e w5 ⟨v, rfl, hown, hb5⟩
      obtain ⟨A1, c1, rfl, _⟩ := hown.see
      rcases hrb with h0 | rfl
      · rw [h0]
        go_wp2
        go_returns
        exact ⟨_, by rw [h0]; rfl, hown.mono hb3.size, btrans hb3 hb5⟩
      · go_wp2
        go_returns
        exact WPost.nil (btrans hb3 hb5)
  · have e1 : RFirstToRank ms r = ([], lcode ms []) := by unfold RFirstToRank; rw [if_neg hc]
    rw [e1]
    have d : (lcode ms [] != 0) = true := by simpa using hc
    have d2 : (lcode ms [] == 0) = false := by simpa using hc
    clear e1 h
    go_enter Try.func31, Try.ntmps31
    go_wp2_with (go_at_call 72; go_must (refine L.mono ?_); rintro e w2 ⟨rfl, hb2⟩)
    go_returns
    exact WPost.nil hb2
end Go.Proofs.Ythadgdmooacccaa
