/- 'wordCode', 'l05Code': the code of a list, a word, points. No condition. -/
import Derived.Test.YthadgdmooacccaaGiven
import Derived.Test.YthadgdmooacccaaWord
namespace Go.Proofs.Ythadgdmooacccaa
set_option linter.unusedSimpArgs false
set_option linter.unusedVariables false
set_option linter.unusedSectionVars false
open Go.RowKit
def wcode (ms : List Mp) (word : List Int) : Int := if lcode ms [] = 0 then (if isWordB ms.length word 40 = true then 0 else 2) else lcode ms []
theorem rightL_of {ms : List Mp} (h : lcode ms [] = 0) : RightL ms (ms.headD Mp.z).p := by
  have hs : sameB ms = true := by simp [sameB, h]
  have hl := sameB_len' hs
  refine ⟨by omega, hl.2, fun m hm => ⟨?_, sameB_points hs m hm⟩⟩
  refine Classical.byContradiction fun hn => ?_
  rw [lcode_bad (fun H => hn (H m (by simpa using hm)))] at h
  cases h
theorem wcode_ok {ms : List Mp} {word : List Int} (h : wcode ms word = 0) : RightL ms (ms.headD Mp.z).p ∧ InL ms.length word ∧ (word.length : Int) ≤ 40 := by
  unfold wcode at h
  split at h
  · rename_i h1
    split at h
    · rename_i h2
      have := of_decide_eq_true h2
      exact ⟨rightL_of h1, this.2, this.1⟩
    · cases h
  · rename_i h1; exact absurd h h1
theorem isWordB_in {l : Nat} {word : List Int} {most : Int} (h : isWordB l word most = true) : InL l word ∧ (word.length : Int) ≤ most := by
  have := of_decide_eq_true h
  exact ⟨this.2, this.1⟩
set_option maxHeartbeats 1000000 in
theorem wordCode_c (A A' : Option Addr) (c c' : Nat) (ms : List Mp) (word : List Int) (w : World) (hn : ms.length ≤ 2097152) (h : SeeMaps w A ms) (hA : NilOk A c) (h' : SeeInts w A' word) (hn' : word.length ≤ 2097152) :
    Calls Try.prog 59 #[.slice A ms.length c, .slice A' word.length c'] w fun e w' => e = .returned (.int .i64 (wcode ms word)) ∧ Below w.heap.size w w' := by
  have L := listCode_c A none c 0 ms [] w hn (by simp) h (fun h => absurd rfl h) hA (fun _ => rfl)
  by_cases hc : lcode ms [] = 0
  · have d : (lcode ms [] != 0) = false := by simpa using hc
    have e : wcode ms word = if isWordB ms.length word 40 = true then 0 else 2 := by simp [wcode, hc]
    have E := Lib.hid e
    clear e
    cases hw : isWordB ms.length word 40
    · go_enter Try.func59, Try.ntmps59
      go_wp2_with (first | (go_at_call 75; go_must (refine (valI L hc).mono ?_); rintro e w2 ⟨rfl, hb2⟩) | (go_at_call 93; go_must (refine (valB (isWord_c A A' c c' ms word 40 _ hn (h'.below hb2) hn' (by decide) (by decide)) hw).mono ?_); rintro e w3 ⟨rfl, hb3⟩))
      go_returns
      exact ⟨ret_int (by rw [E.out, hw]; rfl), btrans hb2 hb3⟩
    · go_enter Try.func59, Try.ntmps59
      go_wp2_with (first | (go_at_call 75; go_must (refine (valI L hc).mono ?_); rintro e w2 ⟨rfl, hb2⟩) | (go_at_call 93; go_must (refine (valB (isWord_c A A' c c' ms word 40 _ hn (h'.below hb2) hn' (by decide) (by decide)) hw).mono ?_); rintro e w3 ⟨rfl, hb3⟩))
      go_returns
      exact ⟨ret_int (by rw [E.out, hw]; rfl), btrans hb2 hb3⟩
  · have d : (lcode ms [] != 0) = true := by simpa using hc
    have e : wcode ms word = lcode ms [] := by simp [wcode, hc]
    rw [e]
    clear e
    go_enter Try.func59, Try.ntmps59
    go_wp2_with (go_at_call 75; go_must (refine L.mono ?_); rintro e w2 ⟨rfl, hb2⟩)
    go_returns
    exact ⟨rfl, hb2⟩
/-- the code of a list, a word, points -/
def pcode (ms : List Mp) (word pts : List Int) : Int := if wcode ms word = 0 then (if ∀ p ∈ pts, 0 ≤ p ∧ p ≤ (ms.headD Mp.z).p - 1 then 0 else 2) else wcode ms word
set_option maxHeartbeats 2000000 in
theorem l05Code_c (A A' D : Option Addr) (c c' d : Nat) (ms : List Mp) (word pts : List Int) (w : World) (hn : ms.length ≤ 2097152) (h : SeeMaps w A ms) (h' : SeeInts w A' word) (hn' : word.length ≤ 2097152) (k' : SeeInts w D pts) (kn' : pts.length ≤ 2097152) :
    Calls Try.prog 57 #[.slice A ms.length c, .slice A' word.length c', .slice D pts.length d] w fun e w' => e = .returned (.int .i64 (pcode ms word pts)) ∧ Below w.heap.size w w' := by
  have L := l02Given_c A none c 0 ms [] w hn (by simp) h (fun h => absurd rfl h)
  by_cases hc : lcode ms [] = 0
  · have dc : (lcode ms [] != 0) = false := by simpa using hc
    cases hw : isWordB ms.length word 40
    · have e : pcode ms word pts = 2 := by simp [pcode, wcode, hc, hw]
      rw [e]
      clear e
      go_enter Try.func57, Try.ntmps57
      go_wp2_with (first | (go_at_call 72; go_must (refine (valI L hc).mono ?_); rintro e w2 ⟨rfl, hb2⟩) | (go_at_call 94; go_must (refine (valB (l05Word_c A A' c c' ms word _ hn (h'.below hb2) hn') hw).mono ?_); rintro e w3 ⟨rfl, hb3⟩))
      go_returns
      exact ⟨rfl, btrans hb2 hb3⟩
    · have e : pcode ms word pts = if ∀ p ∈ pts, 0 ≤ p ∧ p ≤ (ms.headD Mp.z).p - 1 then 0 else 2 := by simp [pcode, wcode, hc, hw]
      have HR := rightL_of hc
      obtain ⟨b0, o0, m0, rfl, hm0, g0⟩ := h.at_ HR.pos
      have hd : ms.headD Mp.z = m0 := by
        cases ms with
        | nil => simp at hm0
        | cons x xs => simp at hm0; simp [hm0]
      rw [hd] at HR e
      have E := Lib.hid e
      clear e
      have hl0 := HR.pos
      have n1 := HR.bounds.1
      have n5 := HR.bounds.2
      have p0 : w.cell? ⟨b0, o0, none⟩ = some (.int .i64 m0.p) := by simpa using g0.h0
      clear hd hm0 g0 HR
      go_enter Try.func57, Try.ntmps57
      go_wp2_with (first | (go_at_call 72; go_must (refine (valI L hc).mono ?_); rintro e w2 ⟨rfl, hb2⟩) | (go_at_call 94; go_must (refine (valB (l05Word_c _ A' c c' ms word _ hn (h'.below hb2) hn') hw).mono ?_); rintro e w3 ⟨rfl, hb3⟩))
      replace hb3 := btrans hb2 hb3
      clear L h h' hw hc dc hb2
      go_loopw [8] (fun i wr => ∃ k : Nat, k ≤ pts.length ∧ i = .int .i64 k ∧ AllTo (fun p => 0 ≤ p ∧ p ≤ m0.p - 1) pts k ∧ Below w.heap.size w wr) (fun i _ => pts.length - (intOf i).toNat)
      case atStart => exact ⟨0, Nat.zero_le _, rfl, AllTo.zero _ _, hb3⟩
      case round =>
        clear hb3
        obtain ⟨k, hk, rfl, hj, hb⟩ := hrel
        by_cases hlt : k < pts.length
        · obtain ⟨b, o, x, rfl, hx, g⟩ := (k'.below hb).at_ hlt
          have gx := bwcell g
          have q0 := bwcell (bcell hb p0)
          have HJ := Lib.hid hj
          have HX := Lib.hid hx
          have hl : (0 : Int) ≤ k := by omega
          have hl' : (k : Int) < pts.length := by omega
          clear hj hx g p0 k'
          by_cases hi : 0 ≤ x ∧ x ≤ m0.p - 1
          · have hin := inB_true hi.1 hi.2
            go_wp2
            refine wp_region_bw (by kernel_rfl) (by kernel_rfl) ?_
            repeat go_big_quiet_step (((go_at_call 77; exact Calls.bw _ (valB (l01In_c _ _ _ _) hin))))
            refine wpQuiet_nil ?_
            rintro _ ⟨⟨w2, hb2⟩, rfl⟩
            go_wp2
            go_roundw
            case rel => exact ⟨k + 1, by omega, by go_num, HJ.out.snoc HX.out hi, btrans hb hb2⟩
            case measure => simp [intOf]; omega
          · have hin := inB_false hi
            go_wp2
            refine wp_region_bw (by kernel_rfl) (by kernel_rfl) ?_
            repeat go_big_quiet_step (((go_at_call 77; exact Calls.bw _ (valB (l01In_c _ _ _ _) hin))))
            refine wpQuiet_nil ?_
            rintro _ ⟨⟨w2, hb2⟩, rfl⟩
            go_wp2
            go_returns
            exact ⟨ret_int (by rw [E.out, if_neg (AllTo.not HX.out hi)]), btrans hb hb2⟩
        · obtain rfl : k = pts.length := by omega
          have ha := Lib.hid hj.all
          clear hj
          go_wp2
          go_returns
          exact ⟨ret_int (by rw [E.out, if_pos ha.out]), hb⟩
  · have dc : (lcode ms [] != 0) = true := by simpa using hc
    have e : pcode ms word pts = lcode ms [] := by simp [pcode, wcode, hc]
    rw [e]
    clear e
    go_enter Try.func57, Try.ntmps57
    go_wp2_with (go_at_call 72; go_must (refine L.mono ?_); rintro e w2 ⟨rfl, hb2⟩)
    go_returns
    exact ⟨rfl, hb2⟩
end Go.Proofs.Ythadgdmooacccaa
