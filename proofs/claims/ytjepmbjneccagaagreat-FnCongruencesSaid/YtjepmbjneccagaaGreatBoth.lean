/- What is asked of congruences that are given: 'congruences', 'l06Both'. No condition. -/
import Derived.Test.YtjepmbjneccagaaGreatIsMade
namespace Go.Proofs.YtjepmbjneccagaaGreat
set_option linter.unusedSimpArgs false
set_option linter.unusedVariables false
set_option linter.unusedSectionVars false
open Go.RowKit
/-- the code of classes that are to be congruences -/
noncomputable def bothC (ms : List Mp) (lists : List (List Int)) : Int :=
  if pcC 30 ms = 0 then (if lists.all (fun cl => canB cl (elsOf ms).length) = true then (if lists.all (fun cl => stabB (elsOf ms).length (mpl (elsOf ms)) true cl) = true then 0 else 5) else 2) else pcC 30 ms
def CsPost (ms : List Mp) (lists : List (List Int)) (w : World) (e : Ending) (w' : World) : Prop :=
  Below w.heap.size w w' ∧ ((bothC ms lists ≠ 0 ∧ e = .returned (.tuple #[.slice none 0 0, .int .i64 (bothC ms lists)])) ∨
    (bothC ms lists = 0 ∧ ∃ v, e = .returned (.tuple #[v, .int .i64 0]) ∧ OwnSS w' w.heap.size v (tabOf (elsOf ms))))
theorem bothC_zero {ms : List Mp} {lists : List (List Int)} (h : bothC ms lists = 0) : pcC 30 ms = 0 ∧ (∀ cl ∈ lists, canB cl (elsOf ms).length = true) ∧ ∀ cl ∈ lists, stabB (elsOf ms).length (mpl (elsOf ms)) true cl = true := by
  unfold bothC at h
  split at h
  · rename_i h0
    split at h
    · rename_i h1
      split at h
      · rename_i h2
        exact ⟨h0, List.all_eq_true.1 h1, List.all_eq_true.1 h2⟩
      · cases h
    · cases h
  · rename_i h0
    exact absurd h h0
set_option maxHeartbeats 2000000 in
theorem congruences1_p {N b6 cv : Nat} {Av : Option Addr} {w : World} {ws : List Sl} (hN : N ≤ 300) (vb : VBox w b6 (.slice Av N cv)) (hs : ∀ s ∈ ws, SeeInts w s.A s.xs ∧ NilOk s.A s.c) (hl : ∀ s ∈ ws, s.xs.length ≤ 2097152) :
    PredR 101 #[.pointer (some ⟨b6, 0, none⟩)] (fun xs => !canB xs N) ws w := fun W s hsm hW => by
  have q := (vb.below hW).cell
  have hcall := isClasses_c s.A s.c s.xs N W ((hs s hsm).1.below hW) (hl s hsm) (by omega)
  show Calls Tryz.prog 101 #[.slice s.A s.xs.length s.c, .pointer (some ⟨b6, 0, none⟩)] W fun e w' => e = .returned (.bool (!canB s.xs N)) ∧ Below W.heap.size W w'
  generalize canB s.xs N = r at *
  have HC := Lib.hid hcall
  clear hcall hsm hs hl hW vb
  go_enter Tryz.func101, Tryz.ntmps101
  go_wp2_with fail
  refine HC.out.mono ?_
  rintro e w2 ⟨rfl, hb2⟩
  go_wp2
  go_returns
  exact ⟨rfl, hb2⟩
section
variable {rows : List (List Int)} {N : Nat} {T : Nat → Nat → Nat}
theorem stab_post {both : Bool} {cl : List Int} {w w' : World} {e : Ending} (h : StPost N T both cl w e w') : Below w.heap.size w w' ∧ ∃ x y : Int, e = .returned (.tuple #[.int .i64 x, .int .i64 y, .bool (stabB N T both cl)]) := by
  obtain ⟨hb, hp⟩ := h
  refine ⟨hb, ?_⟩
  rcases hp with ⟨rfl, hs⟩ | ⟨x, y, rfl, hx, hy, hne, hforced⟩
  · exact ⟨0, 0, by rw [stabB_true hs]⟩
  · refine ⟨x, y, ?_⟩
    rw [stabB_false]
    intro hs
    obtain ⟨a, b, c, ha, hb, hc, hab, hh⟩ := hforced
    have := hs a b ha hb hab c hc
    rcases hh with ⟨rfl, rfl⟩ | ⟨hB, rfl, rfl⟩
    · exact hne this.1
    · exact hne (this.2 hB)
set_option maxHeartbeats 2000000 in
theorem congruences2_p {b6 cv : Nat} {Av : Option Addr} {w : World} {ws : List Sl} (ht : TabOk rows N T) (h0 : 0 < N) (hN : N ≤ 300) (hr : SeeTab w Av rows) (vb : VBox w b6 (.slice Av N cv)) (hs : ∀ s ∈ ws, SeeInts w s.A s.xs ∧ NilOk s.A s.c) (hl : ∀ s ∈ ws, s.xs.length = N) :
    PredR 102 #[.pointer (some ⟨b6, 0, none⟩)] (fun xs => !stabB N T true xs) ws w := fun W s hsm hW => by
  have q := (vb.below hW).cell
  have hcall := isStable_c Av s.A cv s.c s.xs true W ht h0 hN (hr.below hW) ((hs s hsm).1.below hW) (hl s hsm)
  show Calls Tryz.prog 102 #[.slice s.A s.xs.length s.c, .pointer (some ⟨b6, 0, none⟩)] W fun e w' => e = .returned (.bool (!stabB N T true s.xs)) ∧ Below W.heap.size W w'
  rw [hl s hsm]
  have HC := Lib.hid hcall
  obtain ⟨r, hr2⟩ : ∃ r, r = stabB N T true s.xs := ⟨_, rfl⟩
  rw [← hr2]
  have HR2 := Lib.hid hr2
  clear hcall hsm hs hl hW vb hr ht hr2
  go_enter Tryz.func102, Tryz.ntmps102
  go_wp2_with fail
  refine HC.out.mono ?_
  intro e w2 hp
  have hp2 := stab_post hp
  rw [← HR2.out] at hp2
  obtain ⟨hb2, x, y, rfl⟩ := hp2
  clear hp HC
  go_wp2
  go_returns
  exact ⟨rfl, hb2⟩
end
set_option maxHeartbeats 2000000 in
set_option maxRecDepth 100000 in
theorem congruences_c {A A' : Option Addr} {c c' : Nat} {ms : List Mp} {lists : List (List Int)} {w : World} (h : SeeMaps w A ms) (hn : ms.length ≤ 2097152) (hA : NilOk A c) (h' : SeeTab w A' lists) (hn' : lists.length ≤ 2097152) (hl' : ∀ cl ∈ lists, cl.length ≤ 2097152) :
    Calls Tryz.prog 67 #[.slice A ms.length c, .slice A' lists.length c'] w (CsPost ms lists w) := by
  have hpa := paired_c h hn hA
  have HPA := Lib.hid hpa
  have H' := Lib.hid h'
  have HL := Lib.hid hl'
  unfold CsPost
  obtain ⟨r, hr⟩ : ∃ r, r = bothC ms lists := ⟨_, rfl⟩
  rw [← hr]
  have HR := Lib.hid hr
  clear hpa h hr h' hl'
  go_enter Tryz.func67, Tryz.ntmps67
  go_wp2_with fail
  refine HPA.out.mono ?_
  rintro e w1 h1
  rcases h1 with ⟨hc, rfl, hb1⟩ | ⟨hc, v, rfl, own, hb1⟩
  · have E1 := Lib.hid (show r = pcC 30 ms by rw [HR.out]; unfold bothC; rw [if_neg hc])
    have d : (pcC 30 ms != 0) = true := bne_iff_ne.2 hc
    have HC := Lib.hid hc
    clear hc
    go_wp2
    go_returns
    rw [E1.out]
    exact ⟨btrans hb1 (kbelow _ _), .inl ⟨HC.out, rfl⟩⟩
  · have htr := TabR.of hc
    have E1 := Lib.hid (show r = if lists.all (fun cl => canB cl (elsOf ms).length) = true then (if lists.all (fun cl => stabB (elsOf ms).length (mpl (elsOf ms)) true cl) = true then 0 else 5) else 2 by rw [HR.out]; unfold bothC; rw [if_pos hc])
    obtain ⟨Av, cv, rfl, _⟩ := own.see
    have htab := own.tab
    rw [tabOf_length]
    rw [tabOf_length] at own
    have OWN := Lib.hid own
    have hN := htr.le
    have hpos := htr.pos
    have HOK := Lib.hid htr.tab
    have HTAB := Lib.hid htab
    clear hc htr own HR htab
    generalize hrr : tabOf (elsOf ms) = rows at *
    have HRR := Lib.hid hrr
    clear hrr
    generalize mpl (elsOf ms) = T at *
    generalize (elsOf ms).length = N at *
    have kk := kbelow w1 (.cells #[.slice Av N cv] 24)
    have vb := VBox.new (w := w1) (.slice Av N cv) 24 rfl
    have hbk := btrans hb1 kk
    obtain ⟨ws, hws, hsl, hse⟩ := (H'.out.below hbk).sls
    have hwl : ws.length = lists.length := by rw [← hws, List.length_map]
    have hcf := ContainsFuncR_c 101 #[.pointer (some ⟨w1.heap.size, 0, none⟩)] (fun xs => !canB xs N) (enters_of Tryz.func101 (by kernel_rfl) rfl) A' c' ws _ hsl (by omega) (congruences1_p (by omega) vb hse (fun s hs => HL.out _ (by rw [← hws]; exact List.mem_map.2 ⟨s, hs, rfl⟩)))
    rw [hws, hwl, show (lists.any fun xs => !canB xs N) = !(lists.all fun xs => canB xs N) by rw [List.not_all_eq_any_not]] at hcf
    have HCF := Lib.hid hcf
    cases e : lists.all fun xs => canB xs N
    · have E2 := Lib.hid (show r = 2 by rw [E1.out, e]; rfl)
      rw [e] at HCF
      clear e hcf hsl hse hws hwl vb
      go_wp2_with fail
      refine HCF.out.mono ?_
      rintro e w3 ⟨rfl, hb3⟩
      go_wp2
      go_returns
      rw [E2.out]
      exact ⟨btrans hbk hb3, .inl ⟨by decide, rfl⟩⟩
    · have hcan := List.all_eq_true.1 e
      have E2 := Lib.hid (show r = if lists.all (fun cl => stabB N T true cl) = true then 0 else 5 by rw [E1.out, e]; rfl)
      rw [e] at HCF
      have VB := Lib.hid vb
      have H2 := Lib.hid (fun W (hW : Below (w1.alloc (.cells #[.slice Av N cv] 24)).heap.size (w1.alloc (.cells #[.slice Av N cv] 24)) W) => by
        have h2 := ContainsFuncR_c 102 #[.pointer (some ⟨w1.heap.size, 0, none⟩)] (fun xs => !stabB N T true xs) (enters_of Tryz.func102 (by kernel_rfl) rfl) A' c' ws W (hsl.below hW) (by omega)
          (congruences2_p HOK.out hpos (by omega) ((HTAB.out.below kk).below hW) (vb.below hW) (fun s hs => ⟨(hse s hs).1.below hW, (hse s hs).2⟩) (fun s hs => ((canB_iff _ N).1 (hcan _ (by rw [← hws]; exact List.mem_map.2 ⟨s, hs, rfl⟩))).1))
        rw [hws, hwl, show (lists.any fun xs => !stabB N T true xs) = !(lists.all fun xs => stabB N T true xs) by rw [List.not_all_eq_any_not]] at h2
        exact h2)
      clear e hcf hsl hse hws hwl vb hcan
      generalize lists.all (fun xs => stabB N T true xs) = sb at *
      go_wp2_with fail
      refine HCF.out.mono ?_
      rintro e w3 ⟨rfl, hb3⟩
      have hcf2 := H2.out w3 hb3
      have q6 := (VB.out.below hb3).cell
      have HC2 := Lib.hid hcf2
      clear hcf2
      cases sb
      · have E3 := Lib.hid (show r = 5 by rw [E2.out]; rfl)
        go_wp2_with fail
        refine HC2.out.mono ?_
        rintro e w4 ⟨rfl, hb4⟩
        go_wp2
        go_returns
        rw [E3.out]
        exact ⟨btrans hbk (btrans hb3 hb4), .inl ⟨by decide, rfl⟩⟩
      · have E3 := Lib.hid (show r = 0 by rw [E2.out]; rfl)
        go_wp2_with fail
        refine HC2.out.mono ?_
        rintro e w4 ⟨rfl, hb4⟩
        have q6' := bcell hb4 q6
        go_wp2
        go_returns
        rw [E3.out, HRR.out]
        exact ⟨btrans hbk (btrans hb3 hb4), .inr ⟨rfl, _, rfl, (OWN.out.below kk).below (btrans hb3 hb4)⟩⟩
theorem see_tab2 {w : World} {b : Nat} {A A' : Option Addr} {c c' : Nat} {x y : List Int} (q : w.cell? ⟨b, 0, none⟩ = some (.slice A x.length c)) (q' : w.cell? ⟨b, 1, none⟩ = some (.slice A' y.length c')) (h : SeeInts w A x) (hA : NilOk A c) (h' : SeeInts w A' y) (hA' : NilOk A' c') : SeeTab w (some ⟨b, 0, none⟩) [x, y] := fun _ => ⟨b, 0, rfl, fun k xs hk => by
  match k with
  | 0 => simp at hk; subst hk; exact ⟨A, c, q, h, hA⟩
  | 1 => simp at hk; subst hk; exact ⟨A', c', q', h', hA'⟩
  | k + 2 => simp at hk⟩
/-- whether closed classes are equal to those that are given -/
theorem closedEq_c {rows : List (List Int)} {N : Nat} {T : Nat → Nat → Nat} {Av A' : Option Addr} {cv c' : Nat} {cl : List Int} (HOK : TabOk rows N T) (h0 : 0 < N) (hN : N ≤ 300) (hcan : canB cl N = true) (hA' : NilOk A' c') :
    (∀ W, SeeTab W Av rows → SeeInts W A' cl → Calls Tryz.prog 65 #[.slice Av N cv, .slice A' cl.length c', .bool true] W fun e w' => ∃ v, e = .returned v ∧ OwnInts w' W.heap.size v (genL N T true (relL cl)) ∧ Below W.heap.size W w') ∧
    (∀ W A2 c2, SeeInts W A2 (genL N T true (relL cl)) → SeeInts W A' cl → Calls Tryz.prog 64 #[.slice A2 (genL N T true (relL cl)).length c2, .slice A' cl.length c'] W fun e w' => e = .returned (.bool (stabB N T true cl)) ∧ Below W.heap.size W w') := by
  have hcn := (canB_iff cl N).1 hcan
  have hl := hcn.1
  have hlN : (genL N T true (relL cl)).length = cl.length := by rw [genL_length, hl]
  refine ⟨fun W h1 h2 => ?_, fun W A2 c2 h1 h2 => ?_⟩
  · have := l06Closed_c Av A' cv c' cl true (relL cl) W HOK h0 hN h1 h2 ⟨hl, fun i k hi hk h => gen_of hi hk h, fun x y _ _ h => h⟩ hA'
    rw [show Value.slice A' cl.length c' = Value.slice A' N c' by rw [hl]]
    exact this
  · have := l06Equal_c A2 A' c2 c' (genL N T true (relL cl)) cl W h1 h2 hlN (by rw [hlN, hl]; omega)
    rw [show Value.slice A' cl.length c' = Value.slice A' (genL N T true (relL cl)).length c' by rw [hlN]]
    rw [← stabB_eq hcn HOK.lt]
    exact this
set_option maxHeartbeats 4000000 in
set_option maxRecDepth 100000 in
theorem l06Both_c {A B C : Option Addr} {c d d' : Nat} {ms : List Mp} {a b : List Int} {w : World} (h : SeeMaps w A ms) (hn : ms.length ≤ 2097152) (ha : SeeInts w B a) (hna : a.length ≤ 2097152) (hB : NilOk B d) (hb : SeeInts w C b) (hnb : b.length ≤ 2097152) (hC : NilOk C d') :
    Calls Tryz.prog 68 #[.slice A ms.length c, .slice B a.length d, .slice C b.length d'] w (CsPost ms [a, b] w) := by
  obtain ⟨w0, hw0⟩ : ∃ w0, w0 = w.alloc (.cells #[.slice B a.length d, .slice C b.length d'] 38) := ⟨_, rfl⟩
  have k0 : Below w.heap.size w w0 := by rw [hw0]; exact kbelow w _
  have q0 : w0.cell? ⟨w.heap.size, 0, none⟩ = some (.slice B a.length d) := by rw [hw0]; simp [go_sem]
  have q1 : w0.cell? ⟨w.heap.size, 1, none⟩ = some (.slice C b.length d') := by rw [hw0]; simp [go_sem]
  have st := see_tab2 q0 q1 (ha.below k0) hB (hb.below k0) hC
  have hcl := l06Classes_c (A' := some ⟨w.heap.size, 0, none⟩) (c' := 2) (c := c) (lists := [a, b]) (h.below k0) hn st (by simp) (fun x hx => by simp at hx; rcases hx with rfl | rfl; exact hna; exact hnb)
  have HCL := Lib.hid hcl
  unfold CsPost
  obtain ⟨r, hr⟩ : ∃ r, r = bothC ms [a, b] := ⟨_, rfl⟩
  rw [← hr]
  have HR := Lib.hid hr
  have SA := Lib.hid (ha.below k0)
  have SB := Lib.hid (hb.below k0)
  have KK := Lib.hid k0
  have NB := Lib.hid hB
  have NC := Lib.hid hC
  clear hcl h hr ha hb st q0 q1 hB hC
  go_enter Tryz.func68, Tryz.ntmps68
  go_wp2_with fail
  rw [← hw0]
  clear hw0 k0
  refine HCL.out.mono ?_
  rintro e w1 ⟨hb1, hpost⟩
  rcases hpost with ⟨hc, rfl⟩ | ⟨hc, hall, rfl⟩ | ⟨hc, hall, v, rfl, own⟩
  · have E1 := Lib.hid (show r = pcC 30 ms by rw [HR.out]; unfold bothC; rw [if_neg hc])
    have d : (pcC 30 ms != 0) = true := bne_iff_ne.2 hc
    have HC := Lib.hid hc
    clear hc
    go_wp2
    go_returns
    rw [E1.out]
    exact ⟨btrans KK.out hb1, .inl ⟨HC.out, rfl⟩⟩
  · have E1 := Lib.hid (show r = 2 by rw [HR.out]; unfold bothC; rw [if_pos hc, if_neg (by rw [hall]; decide)])
    clear hc hall
    go_wp2
    go_returns
    rw [E1.out]
    exact ⟨btrans KK.out hb1, .inl ⟨by decide, rfl⟩⟩
  · have htr := TabR.of hc
    have E1 := Lib.hid (show r = if (stabB (elsOf ms).length (mpl (elsOf ms)) true a && stabB (elsOf ms).length (mpl (elsOf ms)) true b) = true then 0 else 5 by
      rw [HR.out]; unfold bothC; rw [if_pos hc, if_pos hall]; simp only [List.all_cons, List.all_nil, Bool.and_true])
    have hca : canB a (elsOf ms).length = true := List.all_eq_true.1 hall a (by simp)
    have hcb : canB b (elsOf ms).length = true := List.all_eq_true.1 hall b (by simp)
    obtain ⟨Av, cv, rfl, _⟩ := own.see
    have htab := own.tab
    rw [tabOf_length] at own ⊢
    have OWN := Lib.hid own
    have hN := htr.le
    have hpos := htr.pos
    have HOK := Lib.hid htr.tab
    have HTAB := Lib.hid htab
    clear hc htr own HR htab hall
    generalize hrr : tabOf (elsOf ms) = rows at *
    have HRR := Lib.hid hrr
    clear hrr
    generalize mpl (elsOf ms) = T at *
    generalize (elsOf ms).length = N at *
    have PA := Lib.hid (closedEq_c (Av := Av) (cv := cv) (A' := B) (c' := d) HOK.out hpos (by omega) hca NB.out)
    have PB := Lib.hid (closedEq_c (Av := Av) (cv := cv) (A' := C) (c' := d') HOK.out hpos (by omega) hcb NC.out)
    clear hca hcb
    generalize stabB N T true a = sa at *
    generalize stabB N T true b = sb at *
    generalize genL N T true (relL a) = Ga at *
    generalize genL N T true (relL b) = Gb at *
    have hc1 := PA.out.1 w1 HTAB.out (SA.out.below hb1)
    have HC1 := Lib.hid hc1
    clear hc1
    cases sa
    · have E2 := Lib.hid (show r = 5 by rw [E1.out]; rfl)
      go_wp2_with fail
      refine HC1.out.mono ?_
      rintro e w2 ⟨v2, rfl, own2, hb2⟩
      obtain ⟨A2, c2, rfl, s2⟩ := own2.see
      have HE2 := Lib.hid (PA.out.2 _ A2 c2 s2 (SA.out.below (btrans hb1 hb2)))
      clear s2 own2
      go_wp2_with fail
      refine HE2.out.mono ?_
      rintro e w3 ⟨rfl, hb3⟩
      go_wp2
      go_returns
      rw [E2.out]
      exact ⟨btrans KK.out (btrans hb1 (btrans hb2 hb3)), .inl ⟨by decide, rfl⟩⟩
    · go_wp2_with fail
      refine HC1.out.mono ?_
      rintro e w2 ⟨v2, rfl, own2, hb2⟩
      obtain ⟨A2, c2, rfl, s2⟩ := own2.see
      have HE2 := Lib.hid (PA.out.2 _ A2 c2 s2 (SA.out.below (btrans hb1 hb2)))
      clear s2 own2
      go_wp2_with fail
      refine HE2.out.mono ?_
      rintro e w3 ⟨rfl, hb3⟩
      have hb13 := btrans hb2 hb3
      have HC2 := Lib.hid (PB.out.1 w3 (HTAB.out.below hb13) (SB.out.below (btrans hb1 hb13)))
      go_wp2_with fail
      refine HC2.out.mono ?_
      rintro e w4 ⟨v4, rfl, own4, hb4⟩
      obtain ⟨A4, c4, rfl, s4⟩ := own4.see
      have HE4 := Lib.hid (PB.out.2 _ A4 c4 s4 (SB.out.below (btrans (btrans hb1 hb13) hb4)))
      clear s4 own4
      go_wp2_with fail
      refine HE4.out.mono ?_
      rintro e w5 ⟨rfl, hb5⟩
      have hbE := btrans hb13 (btrans hb4 hb5)
      cases sb
      · have E2 := Lib.hid (show r = 5 by rw [E1.out]; rfl)
        go_wp2
        go_returns
        rw [E2.out]
        exact ⟨btrans KK.out (btrans hb1 hbE), .inl ⟨by decide, rfl⟩⟩
      · have E2 := Lib.hid (show r = 0 by rw [E1.out]; rfl)
        go_wp2
        go_returns
        rw [E2.out, HRR.out]
        exact ⟨btrans KK.out (btrans hb1 hbE), .inr ⟨rfl, _, rfl, (OWN.out.below hbE).mono KK.out.size⟩⟩
end Go.Proofs.YtjepmbjneccagaaGreat
