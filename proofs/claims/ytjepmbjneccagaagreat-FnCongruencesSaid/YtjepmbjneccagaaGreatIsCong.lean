/- 'IsCongruence', 'IsRightCongruence', on both sides. No condition. -/
import Derived.Test.YtjepmbjneccagaaGreatIsMade
namespace Go.Proofs.YtjepmbjneccagaaGreat
set_option linter.unusedSimpArgs false
set_option linter.unusedVariables false
set_option linter.unusedSectionVars false
open Go.RowKit
noncomputable def RIsCongruence (ms : List Mp) (cl : List Int) : Bool × Int := RIsMade true ms cl
set_option maxHeartbeats 2000000 in
theorem implIsCongruence_l {A A' : Option Addr} {c c' : Nat} {ms : List Mp} {cl : List Int} {w : World} (h : SeeMaps w A ms) (hn : ms.length ≤ 2097152) (hA : NilOk A c) (h' : SeeInts w A' cl) (hn' : cl.length ≤ 2097152) (_ : NilOk A' c') :
    Calls Tryz.prog 28 #[.slice A ms.length c, .slice A' cl.length c'] w fun e w' => e = .returned (.tuple #[.bool (RIsCongruence ms cl).1, .int .i64 (RIsCongruence ms cl).2]) ∧ Below w.heap.size w w' := by
  have hm := isMade_c (c' := c') (both := true) h hn hA h' hn'
  unfold RIsCongruence
  generalize RIsMade true ms cl = r at *
  have HM := Lib.hid hm
  clear hm h h'
  go_enter Tryz.func28, Tryz.ntmps28
  go_wp2_with fail
  refine HM.out.mono ?_
  rintro e w2 ⟨rfl, hb2⟩
  go_wp2
  go_returns
  exact ⟨rfl, hb2⟩
set_option maxHeartbeats 2000000 in
set_option maxRecDepth 100000 in
theorem specIsCongruence_l {A A' : Option Addr} {c c' : Nat} {ms : List Mp} {cl : List Int} {w : World} (h : SeeMaps w A ms) (hn : ms.length ≤ 2097152) (_ : NilOk A c) (h' : SeeInts w A' cl) (hn' : cl.length ≤ 2097152) (hA' : NilOk A' c') :
    Calls Tryz.prog 29 #[.slice A ms.length c, .slice A' cl.length c'] w fun e w' => e = .returned (.tuple #[.bool (RIsCongruence ms cl).1, .int .i64 (RIsCongruence ms cl).2]) ∧ Below w.heap.size w w' := by
  have k0 := kbelow w (.cells #[.slice A' cl.length c'] 38)
  have q0 : (w.alloc (.cells #[.slice A' cl.length c'] 38)).cell? ⟨w.heap.size, 0, none⟩ = some (.slice A' cl.length c') := by simp [go_sem]
  have st := see_tab1 q0 (h'.below k0) hA'
  have hcl := l06Classes_c (A' := some ⟨w.heap.size, 0, none⟩) (c' := 1) (c := c) (lists := [cl]) (h.below k0) hn st (by simp) (fun x hx => by simp at hx; subst hx; exact hn')
  have HCL := Lib.hid hcl
  obtain ⟨r, hr⟩ : ∃ r, r = RIsCongruence ms cl := ⟨_, rfl⟩
  rw [← hr]
  have HR := Lib.hid hr
  have H' := Lib.hid h'
  clear hcl h hr h' st q0
  go_enter Tryz.func29, Tryz.ntmps29
  go_wp2_with fail
  refine HCL.out.mono ?_
  rintro e w1 ⟨hb1, hpost⟩
  rcases hpost with ⟨hc, rfl⟩ | ⟨hc, hall, rfl⟩ | ⟨hc, hall, v, rfl, own⟩
  · have E1 := Lib.hid (show r = (false, pcC 30 ms) by rw [HR.out]; unfold RIsCongruence RIsMade; rw [if_neg hc])
    have d : (pcC 30 ms != 0) = true := bne_iff_ne.2 hc
    clear hc
    go_wp2
    go_returns
    rw [E1.out]
    exact ⟨rfl, btrans k0 hb1⟩
  · have hcan : canB cl (elsOf ms).length = false := by simpa using hall
    have E1 := Lib.hid (show r = (false, 2) by rw [HR.out]; unfold RIsCongruence RIsMade; rw [if_pos hc, hcan]; rfl)
    clear hc hall hcan
    go_wp2
    go_returns
    rw [E1.out]
    exact ⟨rfl, btrans k0 hb1⟩
  · have hcan : canB cl (elsOf ms).length = true := by simpa using hall
    have htr := TabR.of hc
    have hcn := (canB_iff _ _).1 hcan
    have E1 := Lib.hid (show r = (decide (genL (elsOf ms).length (mpl (elsOf ms)) true (relL cl) = cl), 0) by rw [HR.out]; unfold RIsCongruence RIsMade; rw [if_pos hc, if_pos hcan, ← stabB_eq hcn htr.tab.lt])
    obtain ⟨Av, cv, rfl, _⟩ := own.see
    have htab := own.tab
    rw [tabOf_length]
    have hN := htr.le
    have hpos := htr.pos
    have HOK := Lib.hid htr.tab
    have HTAB := Lib.hid htab
    have hl := hcn.1
    clear hc htr own HR htab hall hcan hcn
    generalize tabOf (elsOf ms) = rows at *
    generalize mpl (elsOf ms) = T at *
    generalize (elsOf ms).length = N at *
    have HGL := Lib.hid (genL_length N T true (relL cl))
    have HC := Lib.hid (show Calls Tryz.prog 65 #[.slice Av N cv, .slice A' cl.length c', .bool true] w1 _ from by
      have := l06Closed_c Av A' cv c' cl true (relL cl) w1 HOK.out hpos (by omega) HTAB.out (H'.out.below (btrans k0 hb1)) ⟨hl, fun i k hi hk h => gen_of hi hk h, fun x y _ _ h => h⟩ hA'
      rw [show Value.slice A' cl.length c' = Value.slice A' N c' by rw [hl]]
      exact this)
    have hlN : (genL N T true (relL cl)).length = cl.length := by rw [HGL.out, hl]
    generalize genL N T true (relL cl) = G at *
    have HEQ := Lib.hid (fun W A2 c2 (h1 : SeeInts W A2 G) (h2 : SeeInts W A' cl) => l06Equal_c A2 A' c2 c' G cl W h1 h2 hlN (by omega))
    have HLN := Lib.hid hlN
    clear hl hlN HGL
    go_wp2_with fail
    refine HC.out.mono ?_
    rintro e w2 ⟨v2, rfl, own2, hb2⟩
    obtain ⟨A2, c2, rfl, s2⟩ := own2.see
    have heq := HEQ.out _ A2 c2 s2 (H'.out.below (btrans (btrans k0 hb1) hb2))
    rw [show Value.slice A' G.length c' = Value.slice A' cl.length c' by rw [HLN.out]] at heq
    have HE2 := Lib.hid heq
    clear heq s2 own2
    go_wp2_with fail
    refine HE2.out.mono ?_
    rintro e w3 ⟨rfl, hb3⟩
    go_wp2
    go_returns
    rw [E1.out]
    exact ⟨rfl, btrans k0 (btrans hb1 (btrans hb2 hb3))⟩
noncomputable def RIsRightCongruence (ms : List Mp) (cl : List Int) : Bool × Int := RIsMade false ms cl
set_option maxHeartbeats 2000000 in
theorem implIsRightCongruence_l {A A' : Option Addr} {c c' : Nat} {ms : List Mp} {cl : List Int} {w : World} (h : SeeMaps w A ms) (hn : ms.length ≤ 2097152) (hA : NilOk A c) (h' : SeeInts w A' cl) (hn' : cl.length ≤ 2097152) (_ : NilOk A' c') :
    Calls Tryz.prog 30 #[.slice A ms.length c, .slice A' cl.length c'] w fun e w' => e = .returned (.tuple #[.bool (RIsRightCongruence ms cl).1, .int .i64 (RIsRightCongruence ms cl).2]) ∧ Below w.heap.size w w' := by
  have hm := isMade_c (c' := c') (both := false) h hn hA h' hn'
  unfold RIsRightCongruence
  generalize RIsMade false ms cl = r at *
  have HM := Lib.hid hm
  clear hm h h'
  go_enter Tryz.func30, Tryz.ntmps30
  go_wp2_with fail
  refine HM.out.mono ?_
  rintro e w2 ⟨rfl, hb2⟩
  go_wp2
  go_returns
  exact ⟨rfl, hb2⟩
set_option maxHeartbeats 2000000 in
set_option maxRecDepth 100000 in
theorem specIsRightCongruence_l {A A' : Option Addr} {c c' : Nat} {ms : List Mp} {cl : List Int} {w : World} (h : SeeMaps w A ms) (hn : ms.length ≤ 2097152) (_ : NilOk A c) (h' : SeeInts w A' cl) (hn' : cl.length ≤ 2097152) (hA' : NilOk A' c') :
    Calls Tryz.prog 31 #[.slice A ms.length c, .slice A' cl.length c'] w fun e w' => e = .returned (.tuple #[.bool (RIsRightCongruence ms cl).1, .int .i64 (RIsRightCongruence ms cl).2]) ∧ Below w.heap.size w w' := by
  have k0 := kbelow w (.cells #[.slice A' cl.length c'] 38)
  have q0 : (w.alloc (.cells #[.slice A' cl.length c'] 38)).cell? ⟨w.heap.size, 0, none⟩ = some (.slice A' cl.length c') := by simp [go_sem]
  have st := see_tab1 q0 (h'.below k0) hA'
  have hcl := l06Classes_c (A' := some ⟨w.heap.size, 0, none⟩) (c' := 1) (c := c) (lists := [cl]) (h.below k0) hn st (by simp) (fun x hx => by simp at hx; subst hx; exact hn')
  have HCL := Lib.hid hcl
  obtain ⟨r, hr⟩ : ∃ r, r = RIsRightCongruence ms cl := ⟨_, rfl⟩
  rw [← hr]
  have HR := Lib.hid hr
  have H' := Lib.hid h'
  clear hcl h hr h' st q0
  go_enter Tryz.func31, Tryz.ntmps31
  go_wp2_with fail
  refine HCL.out.mono ?_
  rintro e w1 ⟨hb1, hpost⟩
  rcases hpost with ⟨hc, rfl⟩ | ⟨hc, hall, rfl⟩ | ⟨hc, hall, v, rfl, own⟩
  · have E1 := Lib.hid (show r = (false, pcC 30 ms) by rw [HR.out]; unfold RIsRightCongruence RIsMade; rw [if_neg hc])
    have d : (pcC 30 ms != 0) = true := bne_iff_ne.2 hc
    clear hc
    go_wp2
    go_returns
    rw [E1.out]
    exact ⟨rfl, btrans k0 hb1⟩
  · have hcan : canB cl (elsOf ms).length = false := by simpa using hall
    have E1 := Lib.hid (show r = (false, 2) by rw [HR.out]; unfold RIsRightCongruence RIsMade; rw [if_pos hc, hcan]; rfl)
    clear hc hall hcan
    go_wp2
    go_returns
    rw [E1.out]
    exact ⟨rfl, btrans k0 hb1⟩
  · have hcan : canB cl (elsOf ms).length = true := by simpa using hall
    have htr := TabR.of hc
    have hcn := (canB_iff _ _).1 hcan
    have E1 := Lib.hid (show r = (decide (genL (elsOf ms).length (mpl (elsOf ms)) false (relL cl) = cl), 0) by rw [HR.out]; unfold RIsRightCongruence RIsMade; rw [if_pos hc, if_pos hcan, ← stabB_eq hcn htr.tab.lt])
    obtain ⟨Av, cv, rfl, _⟩ := own.see
    have htab := own.tab
    rw [tabOf_length]
    have hN := htr.le
    have hpos := htr.pos
    have HOK := Lib.hid htr.tab
    have HTAB := Lib.hid htab
    have hl := hcn.1
    clear hc htr own HR htab hall hcan hcn
    generalize tabOf (elsOf ms) = rows at *
    generalize mpl (elsOf ms) = T at *
    generalize (elsOf ms).length = N at *
    have HGL := Lib.hid (genL_length N T false (relL cl))
    have HC := Lib.hid (show Calls Tryz.prog 65 #[.slice Av N cv, .slice A' cl.length c', .bool false] w1 _ from by
      have := l06Closed_c Av A' cv c' cl false (relL cl) w1 HOK.out hpos (by omega) HTAB.out (H'.out.below (btrans k0 hb1)) ⟨hl, fun i k hi hk h => gen_of hi hk h, fun x y _ _ h => h⟩ hA'
      rw [show Value.slice A' cl.length c' = Value.slice A' N c' by rw [hl]]
      exact this)
    have hlN : (genL N T false (relL cl)).length = cl.length := by rw [HGL.out, hl]
    generalize genL N T false (relL cl) = G at *
    have HEQ := Lib.hid (fun W A2 c2 (h1 : SeeInts W A2 G) (h2 : SeeInts W A' cl) => l06Equal_c A2 A' c2 c' G cl W h1 h2 hlN (by omega))
    have HLN := Lib.hid hlN
    clear hl hlN HGL
    go_wp2_with fail
    refine HC.out.mono ?_
    rintro e w2 ⟨v2, rfl, own2, hb2⟩
    obtain ⟨A2, c2, rfl, s2⟩ := own2.see
    have heq := HEQ.out _ A2 c2 s2 (H'.out.below (btrans (btrans k0 hb1) hb2))
    rw [show Value.slice A' G.length c' = Value.slice A' cl.length c' by rw [HLN.out]] at heq
    have HE2 := Lib.hid heq
    clear heq s2 own2
    go_wp2_with fail
    refine HE2.out.mono ?_
    rintro e w3 ⟨rfl, hb3⟩
    go_wp2
    go_returns
    rw [E1.out]
    exact ⟨rfl, btrans k0 (btrans hb1 (btrans hb2 hb3))⟩
end Go.Proofs.YtjepmbjneccagaaGreat
