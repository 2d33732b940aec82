/- 'RightCongruence', 'CongruenceOf': classes made by pairs, on both sides. No condition. -/
import Derived.Test.YtjepmbjneccagaaRowsL
import Derived.Test.YtjepmbjneccagaaPaired
import Derived.Test.YtjepmbjneccagaaClosed
namespace Go.Proofs.Ytjepmbjneccagaa
set_option linter.unusedSimpArgs false
set_option linter.unusedVariables false
set_option linter.unusedSectionVars false
open Go.RowKit
/-- a pair of numbers below N -/
def pairB (N : Int) (xs : List Int) : Bool := decide (xs.length = 2) && inB (cls xs 0) 0 (N - 1) && inB (cls xs 1) 0 (N - 1)
theorem pairB_not {N : Int} {xs : List Int} (h : xs.length ≠ 2) : pairB N xs = false := by unfold pairB; rw [decide_eq_false h]; rfl
theorem two_cls {xs : List Int} (h : xs.length = 2) : xs = [cls xs 0, cls xs 1] := by
  match xs, h with
  | [x, y], _ => rfl
theorem pairB_spec {N : Nat} {xs : List Int} (h : pairB N xs = true) : ∃ x y : Nat, xs = [(x : Int), (y : Int)] ∧ x < N ∧ y < N := by
  unfold pairB at h
  rw [Bool.and_eq_true, Bool.and_eq_true, decide_eq_true_eq] at h
  obtain ⟨⟨h1, h2⟩, h3⟩ := h
  unfold inB at h2 h3
  rw [decide_eq_true_eq] at h2 h3
  refine ⟨(cls xs 0).toNat, (cls xs 1).toNat, ?_, by omega, by omega⟩
  rw [Int.toNat_of_nonneg h2.1, Int.toNat_of_nonneg h3.1]
  exact two_cls h1
def pairsB (N : Nat) (prs : List (List Int)) : Bool := decide (prs.length ≤ 10) && prs.all (pairB N)
theorem pairsB_spec {N : Nat} {prs : List (List Int)} (h : pairsB N prs = true) : prs.length ≤ 10 ∧ ∀ pr ∈ prs, ∃ x y : Nat, pr = [(x : Int), (y : Int)] ∧ x < N ∧ y < N := by
  unfold pairsB at h
  rw [Bool.and_eq_true, decide_eq_true_eq, List.all_eq_true] at h
  exact ⟨h.1, fun pr hpr => pairB_spec (h.2 pr hpr)⟩
noncomputable def RMadeBy (both : Bool) (ms : List Mp) (prs : List (List Int)) : List Int × Int :=
  if pcC 30 ms = 0 then (if pairsB (elsOf ms).length prs = true then (genL (elsOf ms).length (mpl (elsOf ms)) both (PairP prs), 0) else ([], 2)) else ([], pcC 30 ms)
theorem RMadeBy_len (both : Bool) (ms : List Mp) (prs : List (List Int)) : (RMadeBy both ms prs).1.length ≤ 1000 := by
  unfold RMadeBy
  split
  · rename_i h
    split
    · have := (TabR.of h).le
      show (genL _ _ _ _).length ≤ 1000
      rw [genL_length]
      omega
    · simp
  · simp
set_option maxHeartbeats 2000000 in
theorem madeBy1_p {N b10 : Nat} {w : World} {ws : List Sl} (hN : N ≤ 300) (vb : VBox w b10 (.int .i64 (N : Int))) (hs : ∀ s ∈ ws, SeeInts w s.A s.xs ∧ NilOk s.A s.c) (hl : ∀ s ∈ ws, s.xs.length ≤ 2097152) :
    PredR 69 #[.pointer (some ⟨b10, 0, none⟩)] (fun xs => !pairB N xs) ws w := fun W s hsm hW => by
  have q := bwcell (vb.below hW).cell
  have see := (hs s hsm).1.below hW
  have hlen := hl s hsm
  show Calls Try.prog 69 #[.slice s.A s.xs.length s.c, .pointer (some ⟨b10, 0, none⟩)] W fun e w' => e = .returned (.bool (!pairB N s.xs)) ∧ Below W.heap.size W w'
  by_cases h2 : s.xs.length = 2
  · obtain ⟨b, o, e, g⟩ := see.cls (by omega)
    rw [e, h2]
    have g0 := bwcell (g 0 (by omega))
    have g1 := bwcell (g 1 (by omega))
    rw [Nat.add_zero] at g0
    have HP := Lib.hid (show pairB N s.xs = (inB (cls s.xs 0) 0 ((N : Int) - 1) && inB (cls s.xs 1) 0 ((N : Int) - 1)) by unfold pairB; rw [decide_eq_true h2]; rfl)
    have HW := Lib.hid (fun W x => within_c x 0 ((N : Int) - 1) W)
    obtain ⟨r, hr⟩ : ∃ r, r = pairB N s.xs := ⟨_, rfl⟩
    rw [← hr] at HP ⊢
    clear see hsm e g hr h2 hlen hl hs vb hW
    generalize cls s.xs 0 = x at *
    generalize cls s.xs 1 = y at *
    cases e1 : inB x 0 ((N : Int) - 1)
    · have HR := Lib.hid (show r = false by rw [HP.out, e1]; rfl)
      have H1 := Lib.hid (fun W => valB (HW.out W x) e1)
      clear HP e1
      go_enter Try.func69, Try.ntmps69
      go_wp2
      refine wp_region_bw (by kernel_rfl) (by kernel_rfl) ?_
      repeat go_big_quiet_step ((go_at_call 70; exact Calls.bw _ (H1.out _)))
      refine wpQuiet_nil ?_
      rintro w2 ⟨⟨w2x, hb2⟩, rfl⟩
      go_wp2
      go_returns
      exact ⟨ret_bool (by rw [HR.out]; rfl), hb2⟩
    · cases e2 : inB y 0 ((N : Int) - 1)
      · have HR := Lib.hid (show r = false by rw [HP.out, e1, e2]; rfl)
        have H1 := Lib.hid (fun W => valB (HW.out W x) e1)
        have H2 := Lib.hid (fun W => valB (HW.out W y) e2)
        clear HP e1 e2
        go_enter Try.func69, Try.ntmps69
        go_wp2
        refine wp_region_bw (by kernel_rfl) (by kernel_rfl) ?_
        repeat go_big_quiet_step ((first | (go_at_call_of 70 (Value.int .i64 x); exact Calls.bw _ (H1.out _)) | (go_at_call_of 70 (Value.int .i64 y); exact Calls.bw _ (H2.out _))))
        refine wpQuiet_nil ?_
        rintro w2 ⟨⟨w2x, hb2⟩, rfl⟩
        go_wp2
        go_returns
        exact ⟨ret_bool (by rw [HR.out]; rfl), hb2⟩
      · have HR := Lib.hid (show r = true by rw [HP.out, e1, e2]; rfl)
        have H1 := Lib.hid (fun W => valB (HW.out W x) e1)
        have H2 := Lib.hid (fun W => valB (HW.out W y) e2)
        clear HP e1 e2
        go_enter Try.func69, Try.ntmps69
        go_wp2
        refine wp_region_bw (by kernel_rfl) (by kernel_rfl) ?_
        repeat go_big_quiet_step ((first | (go_at_call_of 70 (Value.int .i64 x); exact Calls.bw _ (H1.out _)) | (go_at_call_of 70 (Value.int .i64 y); exact Calls.bw _ (H2.out _))))
        refine wpQuiet_nil ?_
        rintro w2 ⟨⟨w2x, hb2⟩, rfl⟩
        go_wp2
        go_returns
        exact ⟨ret_bool (by rw [HR.out]; rfl), hb2⟩
  · have HR := Lib.hid (show (!pairB N s.xs) = true by rw [pairB_not h2]; rfl)
    have d : ((s.xs.length : Int) != 2) = true := bne_iff_ne.2 (by omega)
    rw [HR.out]
    clear see hsm h2 hs hl vb hW
    go_enter Try.func69, Try.ntmps69
    go_wp2
    refine wp_region_bw (by kernel_rfl) (by kernel_rfl) ?_
    repeat go_big_quiet_step (fail)
    refine wpQuiet_nil ?_
    rintro w2 ⟨⟨w2x, hb2⟩, rfl⟩
    go_wp2
    go_returns
    exact ⟨rfl, hb2⟩
set_option maxHeartbeats 2000000 in
set_option maxRecDepth 100000 in
theorem madeBy_c {A A' : Option Addr} {c c' : Nat} {ms : List Mp} {prs : List (List Int)} {both : Bool} {w : World} (h : SeeMaps w A ms) (hn : ms.length ≤ 2097152) (hA : NilOk A c) (h' : SeeTab w A' prs) (hn' : prs.length ≤ 2097152) (hl' : ∀ pr ∈ prs, pr.length ≤ 2097152) :
    Calls Try.prog 50 #[.slice A ms.length c, .slice A' prs.length c', .bool both] w fun e w' => ∃ v, e = .returned (.tuple #[v, .int .i64 (RMadeBy both ms prs).2]) ∧ OwnInts w' w.heap.size v (RMadeBy both ms prs).1 ∧ Below w.heap.size w w' := by
  have hpa := paired_c h hn hA
  have HPA := Lib.hid hpa
  obtain ⟨r, hr⟩ : ∃ r, r = RMadeBy both ms prs := ⟨_, rfl⟩
  rw [← hr]
  have HR := Lib.hid hr
  have H' := Lib.hid h'
  have HL := Lib.hid hl'
  clear hpa h hr h' hl'
  go_enter Try.func50, Try.ntmps50
  go_wp2_with fail
  refine HPA.out.mono ?_
  rintro e w1 h1
  rcases h1 with ⟨hc, rfl, hb1⟩ | ⟨hc, v, rfl, own, hb1⟩
  · have E1 := Lib.hid (show r = ([], pcC 30 ms) by rw [HR.out]; unfold RMadeBy; rw [if_neg hc])
    have d : (pcC 30 ms != 0) = true := bne_iff_ne.2 hc
    clear hc
    go_wp2
    go_returns
    rw [E1.out]
    exact ⟨_, rfl, OwnInts.nil _ _, hb1⟩
  · have htr := TabR.of hc
    have E1 := Lib.hid (show r = if pairsB (elsOf ms).length prs = true then (genL (elsOf ms).length (mpl (elsOf ms)) both (PairP prs), 0) else ([], 2) by rw [HR.out]; unfold RMadeBy; rw [if_pos hc])
    obtain ⟨Av, cv, rfl, _⟩ := own.see
    have htab := own.tab
    rw [tabOf_length]
    have hN := htr.le
    have hpos := htr.pos
    have HOK := Lib.hid htr.tab
    have HTAB := Lib.hid htab
    clear hc htr own HR htab
    generalize tabOf (elsOf ms) = rows at *
    generalize mpl (elsOf ms) = T at *
    generalize (elsOf ms).length = N at *
    by_cases h10 : 10 < prs.length
    · have d : (10 : Int) < prs.length := by omega
      have E2 := Lib.hid (show r = ([], 2) by rw [E1.out, if_neg]; unfold pairsB; rw [decide_eq_false (by omega)]; simp)
      clear h10
      go_wp2
      go_returns
      rw [E2.out]
      exact ⟨_, rfl, OwnInts.nil _ _, btrans hb1 (kbelow _ _)⟩
    · have d : ¬ (10 : Int) < prs.length := by omega
      have kk := kbelow w1 (.cells #[.int .i64 (N : Int)] 2)
      have vb := VBox.new (w := w1) (.int .i64 (N : Int)) 2 rfl
      obtain ⟨ws, hws, hsl, hse⟩ := (H'.out.below (btrans hb1 kk)).sls
      have hwl : ws.length = prs.length := by rw [← hws, List.length_map]
      have hcf := ContainsFuncR_c 69 #[.pointer (some ⟨w1.heap.size, 0, none⟩)] (fun xs => !pairB N xs) (enters_of Try.func69 (by kernel_rfl) rfl) A' c' ws _ hsl (by omega) (madeBy1_p (by omega) vb hse (fun s hs => HL.out _ (by rw [← hws]; exact List.mem_map.2 ⟨s, hs, rfl⟩)))
      rw [hws, hwl] at hcf
      have hall : prs.any (fun xs => !pairB N xs) = !pairsB N prs := by
        unfold pairsB
        rw [decide_eq_true (by omega), Bool.true_and, List.not_all_eq_any_not]
      rw [hall] at hcf
      have HCF := Lib.hid hcf
      clear hcf hall hsl hse hws hwl h10 vb
      cases e : pairsB N prs
      · have E2 := Lib.hid (show r = ([], 2) by rw [E1.out, e]; rfl)
        rw [e] at HCF
        clear e
        go_wp2_with fail
        refine HCF.out.mono ?_
        rintro e w3 ⟨rfl, hb3⟩
        go_wp2
        go_returns
        rw [E2.out]
        exact ⟨_, rfl, OwnInts.nil _ _, btrans hb1 (btrans kk hb3)⟩
      · have E2 := Lib.hid (show r = (genL N T both (PairP prs), 0) by rw [E1.out, e]; rfl)
        rw [e] at HCF
        obtain ⟨_, hpp⟩ := pairsB_spec e
        have HM := Lib.hid (fun W (h1 : SeeTab W Av rows) (h2 : SeeTab W A' prs) => made_c Av A' cv c' prs both W HOK.out hpos (by omega) h1 h2 hpp (by omega))
        clear e hpp
        go_wp2_with fail
        refine HCF.out.mono ?_
        rintro e w3 ⟨rfl, hb3⟩
        have hb13 := btrans kk hb3
        go_wp2_with fail
        refine (HM.out _ (HTAB.out.below hb13) (H'.out.below (btrans hb1 hb13))).mono ?_
        rintro e w4 ⟨v4, rfl, own4, hb4⟩
        obtain ⟨A4, c4, rfl, _⟩ := own4.see
        go_wp2
        go_returns
        rw [E2.out]
        have hb5 := btrans hb1 hb13
        exact ⟨_, rfl, own4.mono hb5.size, btrans hb5 hb4⟩
end Go.Proofs.Ytjepmbjneccagaa
