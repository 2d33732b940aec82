/- 'RankOfWord', 'ImageAlong', on both sides. No condition. -/
import Derived.Test.YthadgdmooacccaaAlong
namespace Go.Proofs.Ythadgdmooacccaa
set_option linter.unusedSimpArgs false
set_option linter.unusedVariables false
set_option linter.unusedSectionVars false
open Go.RowKit
theorem pcode_nil (ms : List Mp) (word : List Int) : pcode ms word [] = wcode ms word := by
  unfold pcode
  split
  · rename_i h; rw [if_pos (by simp), h]
  · rfl
def rankN (n : Int) (f : Mp) : Int := (onesB (movedB f (2 ^ n.toNat - 1)) : Int)
def RRankOfWord (ms : List Mp) (word : List Int) : Int × Int := if wcode ms word = 0 then (rankN (ms.headD Mp.z).p (mapW ms word), 0) else (0, wcode ms word)
set_option maxHeartbeats 1000000 in
theorem specRankOfWord_l {A A' : Option Addr} {c c' : Nat} {ms : List Mp} {word : List Int} {w : World} (h : SeeMaps w A ms) (hn : ms.length ≤ 2097152) (_ : NilOk A c) (h' : SeeInts w A' word) (hn' : word.length ≤ 2097152) (_ : NilOk A' c') :
    Calls Try.prog 25 #[.slice A ms.length c, .slice A' word.length c'] w fun e w' => e = .returned (.tuple #[.int .i64 (RRankOfWord ms word).1, .int .i64 (RRankOfWord ms word).2]) ∧ Below w.heap.size w w' := by
  have L := l05Code_c A A' none c c' 0 ms word [] w hn h h' hn' (fun h => absurd rfl h) (by simp)
  rw [pcode_nil] at L
  by_cases hc : wcode ms word = 0
  · have e1 : RRankOfWord ms word = (rankN (ms.headD Mp.z).p (mapW ms word), 0) := by unfold RRankOfWord; rw [if_pos hc]
    rw [e1]
    obtain ⟨hr, hw, hw40⟩ := wcode_ok hc
    have hm := fun W hW => l05Map_c A A' c c' ms word (ms.headD Mp.z).p W (h.below hW) (h'.below hW) hr hw hn'
    have hrk := fun W => l01Rank_c (mapW ms word) (ms.headD Mp.z).p W (mapW_MpN hr hw)
    change ∀ W, Calls _ _ _ _ (fun e w' => e = .returned (.int .i64 (rankN (ms.headD Mp.z).p (mapW ms word))) ∧ _) at hrk
    generalize rankN (ms.headD Mp.z).p (mapW ms word) = r at hrk ⊢
    generalize mapW ms word = f at *
    have HM := Lib.hid hm
    have HRK := Lib.hid hrk
    clear e1 hm hrk h h' hr hw
    go_enter Try.func25, Try.ntmps25
    go_wp2_with fail
    refine (valI L hc).mono ?_
    rintro e w2 ⟨rfl, hb2⟩
    go_wp2_with fail
    refine (HM.out _ hb2).mono ?_
    rintro e w3 ⟨rfl, hb3⟩
    go_wp2_with fail
    refine (HRK.out _).mono ?_
    rintro e w4 ⟨rfl, hb4⟩
    go_wp2
    go_returns
    exact ⟨rfl, btrans (btrans hb2 hb3) hb4⟩
  · have e1 : RRankOfWord ms word = (0, wcode ms word) := by unfold RRankOfWord; rw [if_neg hc]
    rw [e1]
    have d : (wcode ms word != 0) = true := by simpa using hc
    clear e1 h
    go_enter Try.func25, Try.ntmps25
    go_wp2_with (go_at_call 57; go_must (refine L.mono ?_); rintro e w2 ⟨rfl, hb2⟩)
    go_returns
    exact ⟨rfl, hb2⟩
set_option maxHeartbeats 1000000 in
theorem implRankOfWord_l {A A' : Option Addr} {c c' : Nat} {ms : List Mp} {word : List Int} {w : World} (h : SeeMaps w A ms) (hn : ms.length ≤ 2097152) (hA : NilOk A c) (h' : SeeInts w A' word) (hn' : word.length ≤ 2097152) (_ : NilOk A' c') :
    Calls Try.prog 26 #[.slice A ms.length c, .slice A' word.length c'] w fun e w' => e = .returned (.tuple #[.int .i64 (RRankOfWord ms word).1, .int .i64 (RRankOfWord ms word).2]) ∧ Below w.heap.size w w' := by
  have L := wordCode_c A A' c c' ms word _ hn h hA h' hn'
  by_cases hc : wcode ms word = 0
  · have e1 : RRankOfWord ms word = (rankN (ms.headD Mp.z).p (mapW ms word), 0) := by unfold RRankOfWord; rw [if_pos hc]
    rw [e1]
    obtain ⟨hr, hw, hw40⟩ := wcode_ok hc
    have hm := fun W hW => mapOf_c A A' c c' ms (ms.headD Mp.z).p word W hr (SeeMaps.below h hW) (SeeInts.below h' hW) hn' hw
    have hrk := fun W => rank_c (mapW ms word) (ms.headD Mp.z).p W (mapW_MpN hr hw)
    change ∀ W, Calls _ _ _ _ (fun e w' => e = .returned (.int .i64 (rankN (ms.headD Mp.z).p (mapW ms word))) ∧ _) at hrk
    generalize rankN (ms.headD Mp.z).p (mapW ms word) = r at hrk ⊢
    generalize mapW ms word = f at *
    have HM := Lib.hid hm
    have HRK := Lib.hid hrk
    clear e1 hm hrk h h' hr hw
    go_enter Try.func26, Try.ntmps26
    go_wp2_with fail
    refine (valI L hc).mono ?_
    rintro e w2 ⟨rfl, hb2⟩
    go_wp2_with fail
    refine (HM.out _ hb2).mono ?_
    rintro e w3 ⟨rfl, hb3⟩
    go_wp2_with fail
    refine (HRK.out _).mono ?_
    rintro e w4 ⟨rfl, hb4⟩
    go_wp2
    go_returns
    exact ⟨rfl, btrans (btrans hb2 hb3) hb4⟩
  · have e1 : RRankOfWord ms word = (0, wcode ms word) := by unfold RRankOfWord; rw [if_neg hc]
    rw [e1]
    have d : (wcode ms word != 0) = true := by simpa using hc
    clear e1 h
    go_enter Try.func26, Try.ntmps26
    go_wp2_with (go_at_call 59; go_must (refine L.mono ?_); rintro e w2 ⟨rfl, hb2⟩)
    go_returns
    exact ⟨rfl, hb2⟩
/-! ### ImageAlong -/
open Classical in
noncomputable def RImageAlong (ms : List Mp) (word set : List Int) : List Int × Int := if wcode ms word = 0 then (if isSetB set (ms.headD Mp.z).p = true then (imgL (mapW ms word) set, 0) else ([], 2)) else ([], wcode ms word)
theorem RImageAlong_len (ms : List Mp) (word set : List Int) : (RImageAlong ms word set).1.length ≤ 1000 := by
  unfold RImageAlong
  split
  · rename_i hc
    obtain ⟨hr, _, _⟩ := wcode_ok hc
    split
    · rename_i hi
      have h1 := imgL_len (mapW ms word) set
      have h2 := (setB_al hi).short hr.bounds.2
      show (imgL (mapW ms word) set).length ≤ _
      omega
    · simp
  · simp
set_option maxHeartbeats 1000000 in
theorem implImageAlong_l {A A' D : Option Addr} {c c' d : Nat} {ms : List Mp} {word set : List Int} {w : World} (h : SeeMaps w A ms) (hn : ms.length ≤ 2097152) (hA : NilOk A c) (h' : SeeInts w A' word) (hn' : word.length ≤ 2097152) (_ : NilOk A' c') (k' : SeeInts w D set) (kn' : set.length ≤ 2097152) (_ : NilOk D d) :
    Calls Try.prog 28 #[.slice A ms.length c, .slice A' word.length c', .slice D set.length d] w (WPost (RImageAlong ms word set) w) := by
  have L := wordCode_c A A' c c' ms word _ hn h hA h' hn'
  by_cases hc : wcode ms word = 0
  · have e2 : RImageAlong ms word set = if isSetB set (ms.headD Mp.z).p = true then (imgL (mapW ms word) set, 0) else ([], 2) := by unfold RImageAlong; rw [if_pos hc]
    obtain ⟨hr, hw, hw40⟩ := wcode_ok hc
    obtain ⟨b0, o0, m0, rfl, hm0, g0⟩ := h.at_ hr.pos
    have hmp : m0.p = (ms.headD Mp.z).p := (hr.all m0 (List.mem_of_getElem? hm0)).2
    have p0 := g0.h0
    rw [hmp, Nat.zero_mul, Nat.add_zero] at p0
    have lpos := hr.pos
    have hb := hr.bounds
    clear hm0 g0 hmp
    cases hi : isSetB set (ms.headD Mp.z).p
    · rw [hi] at e2
      rw [e2, if_neg (by decide)]
      generalize (ms.headD Mp.z).p = n at *
      clear e2 hr h
      go_enter Try.func28, Try.ntmps28
      go_wp2_with fail
      refine (valI L hc).mono ?_
      rintro e w2 ⟨rfl, hb2⟩
      have p2 := bcell hb2 p0
      go_wp2_with fail
      refine (valB (isSet_c D d set n _ (k'.below hb2) kn' (by omega) (by omega)) hi).mono ?_
      rintro e w3 ⟨rfl, hb3⟩
      go_wp2
      go_returns
      exact WPost.nil (btrans hb2 hb3)
    · rw [hi] at e2
      rw [e2, if_pos rfl]
      have hm := fun W hW => mapOf_c (some ⟨b0, o0, none⟩) A' c c' ms (ms.headD Mp.z).p word W hr (SeeMaps.below h hW) (SeeInts.below h' hW) hn' hw
      have him := fun W hW => image_c (mapW ms word) (ms.headD Mp.z).p D d set W (mapW_MpN hr hw) (SeeInts.below k' hW) (setB_al hi).2 kn'
      generalize (ms.headD Mp.z).p = n at *
      generalize imgL (mapW ms word) set = r at him ⊢
      generalize mapW ms word = f at *
      have HM := Lib.hid hm
      have HIM := Lib.hid him
      clear e2 hm him hr h h' hw
      go_enter Try.func28, Try.ntmps28
      go_wp2_with fail
      refine (valI L hc).mono ?_
      rintro e w2 ⟨rfl, hb2⟩
      have p2 := bcell hb2 p0
      go_wp2_with fail
      refine (valB (isSet_c D d set n _ (k'.below hb2) kn' (by omega) (by omega)) hi).mono ?_
      rintro e w3 ⟨rfl, hb3⟩
      replace hb3 := btrans hb2 hb3
      clear p2
      go_wp2_with fail
      refine (HM.out _ hb3).mono ?_
      rintro e w4 ⟨rfl, hb4⟩
      replace hb4 := btrans hb3 hb4
      go_wp2_with fail
      refine (HIM.out _ hb4).mono ?_
      rintro e w5 ⟨v, rfl, hown, hb5⟩
      obtain ⟨A1, c1, rfl, _⟩ := hown.see
      go_wp2
      go_returns
      exact ⟨_, rfl, hown.mono hb4.size, btrans hb4 hb5⟩
  · have e1 : RImageAlong ms word set = ([], wcode ms word) := by unfold RImageAlong; rw [if_neg hc]
    rw [e1]
    have dd : (wcode ms word != 0) = true := by simpa using hc
    clear e1 h
    go_enter Try.func28, Try.ntmps28
    go_wp2_with (go_at_call 59; go_must (refine L.mono ?_); rintro e w2 ⟨rfl, hb2⟩)
    go_returns
    exact WPost.nil hb2
set_option maxHeartbeats 2000000 in
theorem specImageAlong_l {A A' D : Option Addr} {c c' d : Nat} {ms : List Mp} {word set : List Int} {w : World} (h : SeeMaps w A ms) (hn : ms.length ≤ 2097152) (_ : NilOk A c) (h' : SeeInts w A' word) (hn' : word.length ≤ 2097152) (_ : NilOk A' c') (k' : SeeInts w D set) (kn' : set.length ≤ 2097152) (_ : NilOk D d) :
    Calls Try.prog 27 #[.slice A ms.length c, .slice A' word.length c', .slice D set.length d] w (WPost (RImageAlong ms word set) w) := by
  have L := l05Code_c A A' none c c' 0 ms word [] w hn h h' hn' (fun h => absurd rfl h) (by simp)
  rw [pcode_nil] at L
  by_cases hc : wcode ms word = 0
  · have e2 : RImageAlong ms word set = if isSetB set (ms.headD Mp.z).p = true then (imgL (mapW ms word) set, 0) else ([], 2) := by unfold RImageAlong; rw [if_pos hc]
    obtain ⟨hr, hw, hw40⟩ := wcode_ok hc
    obtain ⟨b0, o0, m0, rfl, hm0, g0⟩ := h.at_ hr.pos
    have hmp : m0.p = (ms.headD Mp.z).p := (hr.all m0 (List.mem_of_getElem? hm0)).2
    have p0 := g0.h0
    rw [hmp, Nat.zero_mul, Nat.add_zero] at p0
    have lpos := hr.pos
    have hb := hr.bounds
    clear hm0 g0 hmp
    cases hi : isSetB set (ms.headD Mp.z).p
    · rw [hi] at e2
      rw [e2, if_neg (by decide)]
      generalize (ms.headD Mp.z).p = n at *
      clear e2 hr h
      go_enter Try.func27, Try.ntmps27
      go_wp2_with fail
      refine (valI L hc).mono ?_
      rintro e w2 ⟨rfl, hb2⟩
      have p2 := bcell hb2 p0
      go_wp2_with fail
      refine (valB (l05Set_c D d set n _ (k'.below hb2) kn' (by omega) (by omega)) hi).mono ?_
      rintro e w3 ⟨rfl, hb3⟩
      go_wp2
      go_returns
      exact WPost.nil (btrans hb2 hb3)
    · rw [hi] at e2
      rw [e2, if_pos rfl]
      have hf := mapW_MpN hr hw
      have hal := setB_al hi
      have h32 : 2 ^ (ms.headD Mp.z).p.toNat ≤ 2 ^ 5 := Nat.pow_le_pow_right (by decide) (by omega)
      have hS := hal.bits_lt hb.2
      have hi32 := movedB_lt hf (bitsN set)
      have hpts : ptsOf (movedB (mapW ms word) (bitsN set)) = imgL (mapW ms word) set := by rw [movedB_img hf hal.2, (imgL_in hf hal.2).pts hb.2]
      have hm := fun W hW => l05Map_c (some ⟨b0, o0, none⟩) A' c c' ms word (ms.headD Mp.z).p W (SeeMaps.below h hW) (SeeInts.below h' hW) hr hw hn'
      have hmv := fun W => l01Moved_c (mapW ms word) (ms.headD Mp.z).p (bitsN set) W hf (by omega)
      have hpt := fun W => l01Points_c (movedB (mapW ms word) (bitsN set)) W (by omega)
      have hbt := fun W hW => l01Bits_c D d set W (SeeInts.below k' hW) (fun x hx => by have := hal.2 x hx; omega) kn'
      rw [hpts] at hpt
      generalize (ms.headD Mp.z).p = n at *
      generalize imgL (mapW ms word) set = r at hpt ⊢
      generalize movedB (mapW ms word) (bitsN set) = T at hmv hpt
      generalize mapW ms word = f at *
      generalize bitsN set = S at hbt hmv
      have HM := Lib.hid hm
      have HMV := Lib.hid hmv
      have HPT := Lib.hid hpt
      have HBT := Lib.hid hbt
      clear e2 hm hmv hpt hbt hr h h' hw hf hal h32 hS hi32 hpts
      go_enter Try.func27, Try.ntmps27
      go_wp2_with fail
      refine (valI L hc).mono ?_
      rintro e w2 ⟨rfl, hb2⟩
      have p2 := bcell hb2 p0
      go_wp2_with fail
      refine (valB (l05Set_c D d set n _ (k'.below hb2) kn' (by omega) (by omega)) hi).mono ?_
      rintro e w3 ⟨rfl, hb3⟩
      replace hb3 := btrans hb2 hb3
      clear p2
      go_wp2_with fail
      refine (HM.out _ hb3).mono ?_
      rintro e w4 ⟨rfl, hb4⟩
      replace hb4 := btrans hb3 hb4
      go_wp2_with fail
      refine (HBT.out _ hb4).mono ?_
      rintro e w5 ⟨rfl, hb5⟩
      replace hb5 := btrans hb4 hb5
      go_wp2_with fail
      refine (HMV.out _).mono ?_
      rintro e w6 ⟨rfl, hb6⟩
      replace hb6 := btrans hb5 hb6
      go_wp2_with fail
      refine (HPT.out _).mono ?_
      rintro e w7 ⟨v, rfl, hown, hb7⟩
      obtain ⟨A1, c1, rfl, _⟩ := hown.see
      go_wp2
      go_returns
      exact ⟨_, rfl, hown.mono hb6.size, btrans hb6 hb7⟩
  · have e1 : RImageAlong ms word set = ([], wcode ms word) := by unfold RImageAlong; rw [if_neg hc]
    rw [e1]
    have dd : (wcode ms word != 0) = true := by simpa using hc
    have d2 : (wcode ms word == 0) = false := by simpa using hc
    clear e1 h
    go_enter Try.func27, Try.ntmps27
    go_wp2_with (go_at_call 57; go_must (refine L.mono ?_); rintro e w2 ⟨rfl, hb2⟩)
    go_returns
    exact WPost.nil hb2
end Go.Proofs.Ythadgdmooacccaa
