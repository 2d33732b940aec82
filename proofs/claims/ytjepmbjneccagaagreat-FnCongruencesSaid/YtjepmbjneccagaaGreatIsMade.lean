/- 'RightCongruence', 'CongruenceOf': classes made by pairs, on both sides. No condition. -/
import Derived.Test.YtjepmbjneccagaaGreatRowsL
import Derived.Test.YtjepmbjneccagaaGreatPaired
import Derived.Test.YtjepmbjneccagaaGreatClosed
namespace Go.Proofs.YtjepmbjneccagaaGreat
set_option linter.unusedSimpArgs false
set_option linter.unusedVariables false
set_option linter.unusedSectionVars false
open Go.RowKit
/-- a pair of numbers below N -/
def pairB (N : Int) (xs : List Int) : Bool := decide (xs.length = 2) && inB (cls xs 0) 0 (N - 1) && inB (cls xs 1) 0 (N - 1)
theorem pairB_not {N : Int} {xs : List Int} (h : xs.length ≠ 2) : pairB N xs = false := by unfold pairB; rw [decide_eq_false h]; rfl
theorem two_cls {xs : List Int} (h : xs.length = 2) : xs = [cls xs 0, cls xs 1] := by
  match xs, h with
  | [x, y], _ => rfl
theorem pairB_spec {N : Nat} {xs : List Int} (h : pairB N xs = true) : ∃ x y : Nat, xs = [(x : Int), (y : Int)] ∧ x < N ∧ y < N := by
  unfold pairB at h
  rw [Bool.and_eq_true, Bool.and_eq_true, decide_eq_true_eq] at h
  obtain ⟨⟨h1, h2⟩, h3⟩ := h
  unfold inB at h2 h3
  rw [decide_eq_true_eq] at h2 h3
  refine ⟨(cls xs 0).toNat, (cls xs 1).toNat, ?_, by omega, by omega⟩
  rw [Int.toNat_of_nonneg h2.1, Int.toNat_of_nonneg h3.1]
  exact two_cls h1
def pairsB (N : Nat) (prs : List (List Int)) : Bool := decide (prs.length ≤ 10) && prs.all (pairB N)
theorem pairsB_spec {N : Nat} {prs : List (List Int)} (h : pairsB N prs = true) : prs.length ≤ 10 ∧ ∀ pr ∈ prs, ∃ x y : Nat, pr = [(x : Int), (y : Int)] ∧ x < N ∧ y < N := by
  unfold pairsB at h
  rw [Bool.and_eq_true, decide_eq_true_eq, List.all_eq_true] at h
  exact ⟨h.1, fun pr hpr => pairB_spec (h.2 pr hpr)⟩
noncomputable def RMadeBy (both : Bool) (ms : List Mp) (prs : List (List Int)) : List Int × Int :=
  if pcC 30 ms = 0 then (if pairsB (elsOf ms).length prs = true then (genL (elsOf ms).length (mpl (elsOf ms)) both (PairP prs), 0) else ([], 2)) else ([], pcC 30 ms)
theorem RMadeBy_len (both : Bool) (ms : List Mp) (prs : List (List Int)) : (RMadeBy both ms prs).1.length ≤ 1000 := by
  unfold RMadeBy
  split
  · rename_i h
    split
    · have := (TabR.of h).le
      show (genL _ _ _ _).length ≤ 1000
      rw [genL_length]
      omega
    · simp
  · simp
set_option maxHeartbeats 2000000 in
theorem madeBy1_p {N b10 : Nat} {w : World} {ws : List Sl} (hN : N ≤ 300) (vb : VBox w b10 (.int .i64 (N : Int))) (hs : ∀ s ∈ ws, SeeInts w s.A s.xs ∧ NilOk s.A s.c) (hl : ∀ s ∈ ws, s.xs.length ≤ 2097152) :
    PredR 95 #[.pointer (some ⟨b10, 0, none⟩)] (fun xs => !pairB N xs) ws w := fun W s hsm hW => by
  have q := bwcell (vb.below hW).cell
  have see := (hs s hsm).1.below hW
  have hlen := hl s hsm
  show Calls Tryz.prog 95 #[.slice s.A s.xs.length s.c, .pointer (some ⟨b10, 0, none⟩)] W fun e w' => e = .returned (.bool (!pairB N s.xs)) ∧ Below W.heap.size W w'
  by_cases h2 : s.xs.length = 2
  · obtain ⟨b, o, e, g⟩ := see.cls (by omega)
    rw [e, h2]
    have g0 := bwcell (g 0 (by omega))
    have g1 := bwcell (g 1 (by omega))
    rw [Nat.add_zero] at g0
    have HP := Lib.hid (show pairB N s.xs = (inB (cls s.xs 0) 0 ((N : Int) - 1) && inB (cls s.xs 1) 0 ((N : Int) - 1)) by unfold pairB; rw [decide_eq_true h2]; rfl)
    have HW := Lib.hid (fun W x => within_c x 0 ((N : Int) - 1) W)
    obtain ⟨r, hr⟩ : ∃ r, r = pairB N s.xs := ⟨_, rfl⟩
    rw [← hr] at HP ⊢
    clear see hsm e g hr h2 hlen hl hs vb hW
    generalize cls s.xs 0 = x at *
    generalize cls s.xs 1 = y at *
    cases e1 : inB x 0 ((N : Int) - 1)
    · have HR := Lib.hid (show r = false by rw [HP.out, e1]; rfl)
      have H1 := Lib.hid (fun W => valB (HW.out W x) e1)
      clear HP e1
      go_enter Tryz.func95, Tryz.ntmps95
      go_wp2
      refine wp_region_bw (by kernel_rfl) (by kernel_rfl) ?_
      repeat go_big_quiet_step ((go_at_call 96; exact Calls.bw _ (H1.out _)))
      refine wpQuiet_nil ?_
      rintro w2 ⟨⟨w2x, hb2⟩, rfl⟩
      go_wp2
      go_returns
      exact ⟨ret_bool (by rw [HR.out]; rfl), hb2⟩
    · cases e2 : inB y 0 ((N : Int) - 1)
      · have HR := Lib.hid (show r = false by rw [HP.out, e1, e2]; rfl)
        have H1 := Lib.hid (fun W => valB (HW.out W x) e1)
        have H2 := Lib.hid (fun W => valB (HW.out W y) e2)
        clear HP e1 e2
        go_enter Tryz.func95, Tryz.ntmps95
        go_wp2
        refine wp_region_bw (by kernel_rfl) (by kernel_rfl) ?_
        repeat go_big_quiet_step ((first | (go_at_call_of 96 (Value.int .i64 x); exact Calls.bw _ (H1.out _)) | (go_at_call_of 96 (Value.int .i64 y); exact Calls.bw _ (H2.out _))))
        refine wpQuiet_nil ?_
        rintro w2 ⟨⟨w2x, hb2⟩, rfl⟩
        go_wp2
        go_returns
        exact ⟨ret_bool (by rw [HR.out]; rfl), hb2⟩
      · have HR := Lib.hid (show r = true by rw [HP.out, e1, e2]; rfl)
        have H1 := Lib.hid (fun W => valB (HW.out W x) e1)
        have H2 := Lib.hid (fun W => valB (HW.out W y) e2)
        clear HP e1 e2
        go_enter Tryz.func95, Tryz.ntmps95
        go_wp2
        refine wp_region_bw (by kernel_rfl) (by kernel_rfl) ?_
        repeat go_big_quiet_step ((first | (go_at_call_of 96 (Value.int .i64 x); exact Calls.bw _ (H1.out _)) | (go_at_call_of 96 (Value.int .i64 y); exact Calls.bw _ (H2.out _))))
        refine wpQuiet_nil ?_
        rintro w2 ⟨⟨w2x, hb2⟩, rfl⟩
        go_wp2
        go_returns
        exact ⟨ret_bool (by rw [HR.out]; rfl), hb2⟩
  · have HR := Lib.hid (show (!pairB N s.xs) = true by rw [pairB_not h2]; rfl)
    have d : ((s.xs.length : Int) != 2) = true := bne_iff_ne.2 (by omega)
    rw [HR.out]
    clear see hsm h2 hs hl vb hW
    go_enter Tryz.func95, Tryz.ntmps95
    go_wp2
    refine wp_region_bw (by kernel_rfl) (by kernel_rfl) ?_
    repeat go_big_quiet_step (fail)
    refine wpQuiet_nil ?_
    rintro w2 ⟨⟨w2x, hb2⟩, rfl⟩
    go_wp2
    go_returns
    exact ⟨rfl, hb2⟩
set_option maxHeartbeats 2000000 in
set_option maxRecDepth 100000 in
theorem madeBy_c {A A' : Option Addr} {c c' : Nat} {ms : List Mp} {prs : List (List Int)} {both : Bool} {w : World} (h : SeeMaps w A ms) (hn : ms.length ≤ 2097152) (hA : NilOk A c) (h' : SeeTab w A' prs) (hn' : prs.length ≤ 2097152) (hl' : ∀ pr ∈ prs, pr.length ≤ 2097152) :
    Calls Tryz.prog 59 #[.slice A ms.length c, .slice A' prs.length c', .bool both] w fun e w' => ∃ v, e = .returned (.tuple #[v, .int .i64 (RMadeBy both ms prs).2]) ∧ OwnInts w' w.heap.size v (RMadeBy both ms prs).1 ∧ Below w.heap.size w w' := by
  have hpa := paired_c h hn hA
  have HPA := Lib.hid hpa
  obtain ⟨r, hr⟩ : ∃ r, r = RMadeBy both ms prs := ⟨_, rfl⟩
  rw [← hr]
  have HR := Lib.hid hr
  have H' := Lib.hid h'
  have HL := Lib.hid hl'
  clear hpa h hr h' hl'
  go_enter Tryz.func59, Tryz.ntmps59
  go_wp2_with fail
  refine HPA.out.mono ?_
  rintro e w1 h1
  rcases h1 with ⟨hc, rfl, hb1⟩ | ⟨hc, v, rfl, own, hb1⟩
  · have E1 := Lib.hid (show r = ([], pcC 30 ms) by rw [HR.out]; unfold RMadeBy; rw [if_neg hc])
    have d : (pcC 30 ms != 0) = true := bne_iff_ne.2 hc
    clear hc
    go_wp2
    go_returns
    rw [E1.out]
    exact ⟨_, rfl, OwnInts.nil _ _, hb1⟩
  · have htr := TabR.of hc
    have E1 := Lib.hid (show r = if pairsB (elsOf ms).length prs = true then (genL (elsOf ms).length (mpl (elsOf ms)) both (PairP prs), 0) else ([], 2) by rw [HR.out]; unfold RMadeBy; rw [if_pos hc])
    obtain ⟨Av, cv, rfl, _⟩ := own.see
    have htab := own.tab
    rw [tabOf_length]
    have hN := htr.le
    have hpos := htr.pos
    have HOK := Lib.hid htr.tab
    have HTAB := Lib.hid htab
    clear hc htr own HR htab
    generalize tabOf (elsOf ms) = rows at *
    generalize mpl (elsOf ms) = T at *
    generalize (elsOf ms).length = N at *
    by_cases h10 : 10 < prs.length
    · have d : (10 : Int) < prs.length := by omega
      have E2 := Lib.hid (show r = ([], 2) by rw [E1.out, if_neg]; unfold pairsB; rw [decide_eq_false (by omega)]; simp)
      clear h10
      go_wp2
      go_returns
      rw [E2.out]
      exact ⟨_, rfl, OwnInts.nil _ _, btrans hb1 (kbelow _ _)⟩
    · have d : ¬ (10 : Int) < prs.length := by omega
      have kk := kbelow w1 (.cells #[.int .i64 (N : Int)] 2)
      have vb := VBox.new (w := w1) (.int .i64 (N : Int)) 2 rfl
      obtain ⟨ws, hws, hsl, hse⟩ := (H'.out.below (btrans hb1 kk)).sls
      have hwl : ws.length = prs.length := by rw [← hws, List.length_map]
      have hcf := ContainsFuncR_c 95 #[.pointer (some ⟨w1.heap.size, 0, none⟩)] (fun xs => !pairB N xs) (enters_of Tryz.func95 (by kernel_rfl) rfl) A' c' ws _ hsl (by omega) (madeBy1_p (by omega) vb hse (fun s hs => HL.out _ (by rw [← hws]; exact List.mem_map.2 ⟨s, hs, rfl⟩)))
      rw [hws, hwl] at hcf
      have hall : prs.any (fun xs => !pairB N xs) = !pairsB N prs := by
        unfold pairsB
        rw [decide_eq_true (by omega), Bool.true_and, List.not_all_eq_any_not]
      rw [hall] at hcf
      have HCF := Lib.hid hcf
      clear hcf hall hsl hse hws hwl h10 vb
      cases e : pairsB N prs
      · have E2 := Lib.hid (show r = ([], 2) by rw [E1.out, e]; rfl)
        rw [e] at HCF
        clear e
        go_wp2_with fail
        refine HCF.out.mono ?_
        rintro e w3 ⟨rfl, hb3⟩
        go_wp2
        go_returns
        rw [E2.out]
        exact ⟨_, rfl, OwnInts.nil _ _, btrans hb1 (btrans kk hb3)⟩
      · have E2 := Lib.hid (show r = (genL N T both (PairP prs), 0) by rw [E1.out, e]; rfl)
        rw [e] at HCF
        obtain ⟨_, hpp⟩ := pairsB_spec e
        have HM := Lib.hid (fun W (h1 : SeeTab W Av rows) (h2 : SeeTab W A' prs) => made_c Av A' cv c' prs both W HOK.out hpos (by omega) h1 h2 hpp (by omega))
        clear e hpp
        go_wp2_with fail
        refine HCF.out.mono ?_
        rintro e w3 ⟨rfl, hb3⟩
        have hb13 := btrans kk hb3
        go_wp2_with fail
        refine (HM.out _ (HTAB.out.below hb13) (H'.out.below (btrans hb1 hb13))).mono ?_
        rintro e w4 ⟨v4, rfl, own4, hb4⟩
        obtain ⟨A4, c4, rfl, _⟩ := own4.see
        go_wp2
        go_returns
        rw [E2.out]
        have hb5 := btrans hb1 hb13
        exact ⟨_, rfl, own4.mono hb5.size, btrans hb5 hb4⟩
/-! The reference's 'l06Apart', 'l06Pairs', 'l06Made'. -/
/-- what 'l06Pairs' hands back -/
def PrPost (N : Nat) (prs : List (List Int)) (w : World) (e : Ending) (w' : World) : Prop :=
  Below w.heap.size w w' ∧ ((pairsB N prs = false ∧ ∃ v cl, e = .returned (.tuple #[v, .bool false]) ∧ OwnInts w' w.heap.size v cl) ∨
    (pairsB N prs = true ∧ ∃ g c cl, e = .returned (.tuple #[.slice (some ⟨g, 0, none⟩) N c, .bool true]) ∧ OwnInts w' w.heap.size (.slice (some ⟨g, 0, none⟩) N c) cl ∧ ∀ T both, ClI N T both (PairP prs) cl))
theorem pairs_stop {N : Nat} {prs : List (List Int)} {k : Nat} {pr : List Int} (hk : prs[k]? = some pr) (h : pairB N pr = false) : pairsB N prs = false := by
  unfold pairsB
  rw [List.all_eq_false.2 ⟨pr, List.mem_of_getElem? hk, by rw [h]; decide⟩, Bool.and_false]
set_option maxHeartbeats 8000000 in
set_option maxRecDepth 100000 in
theorem l06Pairs_c {A' : Option Addr} {c' : Nat} {N : Nat} {prs : List (List Int)} {w : World} (h0 : 0 < N) (hN : N ≤ 300) (h' : SeeTab w A' prs) (hn' : prs.length ≤ 2097152) (hl' : ∀ pr ∈ prs, pr.length ≤ 2097152) :
    Calls Tryz.prog 97 #[.int .i64 (N : Int), .slice A' prs.length c'] w (PrPost N prs w) := by
  have HP := Lib.hid h'
  have HL := Lib.hid hl'
  clear h' hl'
  unfold PrPost
  obtain ⟨okv, hok⟩ : ∃ okv, okv = pairsB N prs := ⟨_, rfl⟩
  obtain ⟨C, hC⟩ : ∃ C : List Int → Prop, C = fun cl => ∀ T both, ClI N T both (PairP prs) cl := ⟨_, rfl⟩
  have HC := Lib.hid (show ∀ cl, (∀ T both, ClI N T both (PairP prs) cl) → C cl from fun cl h => by rw [hC]; exact h)
  have HG : (∀ (e : Ending) (w' : World), (Below w.heap.size w w' ∧ ((okv = false ∧ ∃ v cl, e = .returned (.tuple #[v, .bool false]) ∧ OwnInts w' w.heap.size v cl) ∨ (okv = true ∧ ∃ g c cl, e = .returned (.tuple #[.slice (some ⟨g, 0, none⟩) N c, .bool true]) ∧ OwnInts w' w.heap.size (.slice (some ⟨g, 0, none⟩) N c) cl ∧ C cl))) → (Below w.heap.size w w' ∧ ((pairsB N prs = false ∧ ∃ v cl, e = .returned (.tuple #[v, .bool false]) ∧ OwnInts w' w.heap.size v cl) ∨ (pairsB N prs = true ∧ ∃ g c cl, e = .returned (.tuple #[.slice (some ⟨g, 0, none⟩) N c, .bool true]) ∧ OwnInts w' w.heap.size (.slice (some ⟨g, 0, none⟩) N c) cl ∧ ∀ T both, ClI N T both (PairP prs) cl)))) := fun e w' h => by rw [hok, hC] at h; exact h
  refine Calls.mono ?_ HG
  clear HG hC
  have HOK := Lib.hid hok
  clear hok
  go_enter Tryz.func97, Tryz.ntmps97
  go_wp2_with fail
  refine (l06Apart_c N w (by omega)).mono ?_
  rintro e w1 ⟨v1, rfl, own1, hb1⟩
  obtain ⟨A1, c1, rfl, s1⟩ := own1.see
  rw [idL_length] at own1 ⊢
  obtain ⟨g, o, e1, _⟩ := s1.cls (by rw [idL_length]; exact h0)
  subst e1
  have eo : o = 0 := by
    rcases own1.2 with ⟨h1, _⟩ | ⟨_, _, _, h1, _⟩
    · simp at h1
    · simp at h1; exact h1.1.2
  subst eo
  have hg0 := (own1.lt g rfl).1
  clear s1
  by_cases h10 : 10 < prs.length
  · have d : (10 : Int) < prs.length := by omega
    have E2 := Lib.hid (show okv = false by rw [HOK.out]; unfold pairsB; rw [decide_eq_false (by omega)]; rfl)
    clear h10
    go_wp2
    go_returns
    exact ⟨hb1, .inl ⟨E2.out, _, _, rfl, own1⟩⟩
  · have d : ¬ (10 : Int) < prs.length := by omega
    have hs0 : ∀ T both i k, i < N → k < N → relL (idL N) i k → Gen N T both (PairP prs) i k := fun T both i k hi hk hr => by
      have e : (cls (idL N) i) = cls (idL N) k := hr
      rw [idL_cls hi, idL_cls hk] at e
      have e2 : i = k := by omega
      subst e2
      exact gen_eqv.refl i hi
    have HS0 := Lib.hid hs0
    have h10' : prs.length ≤ 10 := by omega
    clear hs0 h10
    go_wp2
    go_loopw [7] (fun kv wr => ∃ (k : Nat) (cl : List Int), k ≤ prs.length ∧ kv = .int .i64 k ∧ cl.length = N ∧ OwnInts wr w.heap.size (.slice (some ⟨g, 0, none⟩) N c1) cl ∧ Hid (∀ T both i k, i < N → k < N → relL cl i k → Gen N T both (PairP prs) i k) ∧ Hid (∀ j x y, j < k → prs[j]? = some [(x : Int), (y : Int)] → relL cl x.toNat y.toNat) ∧ Hid (AllTo (fun pr => pairB N pr = true) prs k) ∧ Below w.heap.size w wr) (fun kv _ => prs.length - (intOf kv).toNat)
    case atStart => exact ⟨0, _, Nat.zero_le _, rfl, idL_length N, own1, HS0, Lib.hid (fun j x y h => by omega), Lib.hid (AllTo.zero _ _), hb1⟩
    case round =>
      clear own1 HS0 hb1
      obtain ⟨k, cl, hk, rfl, hl, own, hS, hPk, hAll, hb⟩ := hrel
      have l0 : (0 : Int) ≤ k := by omega
      by_cases hlt : k < prs.length
      · have l1 : (k : Int) < prs.length := by omega
        obtain ⟨pr, hpk⟩ := el hlt
        obtain ⟨bp, op, rfl, gp⟩ := HP.out (ne_of_lt hlt)
        obtain ⟨Ar, cr, qr, sr, _⟩ := gp k _ hpk
        have r0 := bcell hb qr
        have R0 := bwcell r0
        have hprl := HL.out pr (List.mem_of_getElem? hpk)
        by_cases h2 : pr.length = 2
        · obtain ⟨br, or_, rfl, q1⟩ := sr.cls (by omega)
          have g0 := bcell hb (q1 0 (by omega))
          have g1 := bcell hb (q1 1 (by omega))
          rw [Nat.add_zero] at g0
          rw [h2] at r0 R0
          have G0 := bwcell g0
          have G1 := bwcell g1
          have HPB := Lib.hid (show pairB N pr = (inB (cls pr 0) 0 ((N : Int) - 1) && inB (cls pr 1) 0 ((N : Int) - 1)) by unfold pairB; rw [decide_eq_true h2]; rfl)
          have HTW := Lib.hid (two_cls h2)
          have HPK := Lib.hid hpk
          have HW := Lib.hid (fun W x => l01In_c x 0 ((N : Int) - 1) W)
          clear sr q1 qr gp hpk hprl h2
          generalize cls pr 0 = x at *
          generalize cls pr 1 = y at *
          cases e1 : inB x 0 ((N : Int) - 1)
          · have E2 := Lib.hid (show okv = false by rw [HOK.out]; exact pairs_stop HPK.out (by rw [HPB.out, e1]; rfl))
            have H1 := Lib.hid (fun W => valB (HW.out W x) e1)
            clear e1
            clear R0 G0 G1
            go_wp2_with fail
            refine (H1.out _).mono ?_
            rintro e w2 ⟨rfl, hb2⟩
            go_wp2
            go_returns
            exact ⟨btrans hb hb2, .inl ⟨E2.out, _, _, rfl, own.below hb2⟩⟩
          · cases e2 : inB y 0 ((N : Int) - 1)
            · have E2 := Lib.hid (show okv = false by rw [HOK.out]; exact pairs_stop HPK.out (by rw [HPB.out, e1, e2]; rfl))
              have H1 := Lib.hid (fun W => valB (HW.out W x) e1)
              have H2 := Lib.hid (fun W => valB (HW.out W y) e2)
              clear e1 e2
              clear R0 G0 G1
              go_wp2_with fail
              refine (H1.out _).mono ?_
              rintro e w2 ⟨rfl, hb2⟩
              replace r0 := bcell hb2 r0
              replace g1 := bcell hb2 g1
              clear g0
              go_wp2_with fail
              refine (H2.out _).mono ?_
              rintro e w3 ⟨rfl, hb3⟩
              go_wp2
              go_returns
              exact ⟨btrans hb (btrans hb2 hb3), .inl ⟨E2.out, _, _, rfl, (own.below hb2).below hb3⟩⟩
            · have HT := Lib.hid (show pairB N pr = true by rw [HPB.out, e1, e2]; rfl)
              have H1 := Lib.hid (fun W => valB (HW.out W x) e1)
              have H2 := Lib.hid (fun W => valB (HW.out W y) e2)
              unfold inB at e1 e2
              rw [decide_eq_true_eq] at e1 e2
              obtain ⟨xn, rfl⟩ : ∃ xn : Nat, x = (xn : Int) := ⟨x.toNat, by omega⟩
              obtain ⟨yn, rfl⟩ : ∃ yn : Nat, y = (yn : Int) := ⟨y.toNat, by omega⟩
              have hx : xn < N := by omega
              have hy : yn < N := by omega
              clear e1 e2
              have x0 : (0 : Int) ≤ xn := by omega
              have x1 : (xn : Int) < N := by omega
              have y0 : (0 : Int) ≤ yn := by omega
              have y1 : (yn : Int) < N := by omega
              have hgxy : ∀ T both, Gen N T both (PairP prs) xn yn := fun T both => gen_of hx hy (by have := List.mem_of_getElem? HPK.out; rw [HTW.out] at this; exact this)
              have HS2 := Lib.hid (fun T both => sound_join (T := T) (both := both) (P := PairP prs) (cl := cl) (x := xn) (y := yn) hl (hS.out T both) hx hy (hgxy T both))
              have HJC := Lib.hid (fun W (hW : OwnInts W w.heap.size (.slice (some ⟨g, 0, none⟩) cl.length c1) cl) => l06Join_c g c1 w.heap.size cl (cls cl xn) (cls cl yn) W hW (by omega))
              rw [hl] at HJC
              have cx := own.at_ (cls_get (cl := cl) (i := xn) (by omega))
              have cy := own.at_ (cls_get (cl := cl) (i := yn) (by omega))
              have HH := Lib.hid (show relL (joinL cl (cls cl xn) (cls cl yn)) xn yn from join_has (by omega) (by omega))
              have HK := Lib.hid (show ∀ i k, i < N → k < N → relL cl i k → relL (joinL cl (cls cl xn) (cls cl yn)) i k from fun i k hi hk h => join_keeps (by omega) (by omega) h)
              have OWN := Lib.hid own
              clear hgxy own
              generalize cls cl xn = vx at *
              generalize cls cl yn = vy at *
              clear R0 G0 G1
              go_wp2_with fail
              refine (H1.out _).mono ?_
              rintro e w20 ⟨rfl, hb20⟩
              replace r0 := bcell hb20 r0
              replace g0 := bcell hb20 g0
              replace g1 := bcell hb20 g1
              replace cx := bcell hb20 cx
              replace cy := bcell hb20 cy
              go_wp2_with fail
              refine (H2.out _).mono ?_
              rintro e w2 ⟨rfl, hb21⟩
              have hb2 := btrans hb20 hb21
              replace r0 := bcell hb21 r0
              replace g0 := bcell hb21 g0
              replace g1 := bcell hb21 g1
              replace cx := bcell hb21 cx
              replace cy := bcell hb21 cy
              go_wp2
              go_still_tail 19, (by kernel_rfl)
              change wpList _ _ _ _ _ w2.drew
              go_wp2_with fail
              refine (HJC.out _ (OWN.out.below (btrans hb2 (bdr (Below.refl _ _))))).mono ?_
              rintro e w7 ⟨rfl, own7, hk7⟩
              have hb7 : Below w.heap.size w w7 := (btrans hb hb2).trans (Below.trans (bdrewN (Below.refl _ _) 1) (hk7.below (by show w.heap.size ≤ w2.heap.size; exact (btrans hb hb2).size) (fun j hj => by show j ≠ g; omega)))
              clear r0 g0 g1 cx cy
              go_wp2
              go_roundw
              case rel =>
                refine ⟨k + 1, joinL cl vx vy, by omega, by go_num, by rw [joinL_length]; exact hl, own7, HS2, Lib.hid (fun j x' y' hj hp => ?_), Lib.hid (hAll.out.snoc HPK.out HT.out), hb7⟩
                by_cases e : j = k
                · subst e
                  rw [HPK.out, HTW.out] at hp
                  have hp' := Option.some.inj hp
                  simp only [List.cons.injEq, and_true] at hp'
                  rw [← hp'.1, ← hp'.2]
                  exact HH.out
                · obtain ⟨x2, y2, e2, hx2, hy2⟩ := pairB_spec (hAll.out j _ (by omega) hp)
                  simp only [List.cons.injEq, and_true] at e2
                  exact HK.out _ _ (by omega) (by omega) (hPk.out j x' y' (by omega) hp)
              case measure => simp [intOf]; omega
        · have E2 := Lib.hid (show okv = false by rw [HOK.out]; exact pairs_stop hpk (pairB_not h2))
          have d2 : ((pr.length : Int) != 2) = true := bne_iff_ne.2 (by omega)
          clear sr qr gp hpk h2
          clear R0
          go_wp2
          go_returns
          exact ⟨hb, .inl ⟨E2.out, _, _, rfl, own⟩⟩
      · have ek : k = prs.length := by omega
        have E2 := Lib.hid (show okv = true by
          rw [HOK.out]
          unfold pairsB
          rw [decide_eq_true h10', Bool.true_and, List.all_eq_true]
          have := hAll.out
          rw [ek] at this
          exact this.all)
        have HCL := Lib.hid (HC.out cl fun T both => ⟨hl, hS.out T both, fun x y _ _ hp => by
          obtain ⟨j, hj⟩ := List.getElem?_of_mem hp
          have := hPk.out j x y (by have := (List.getElem?_eq_some_iff.1 hj).1; omega) hj
          simpa using this⟩)
        have nlt : ¬ (k : Int) < prs.length := by omega
        clear ek hlt hk hAll hPk hS
        go_wp2
        go_returns
        exact ⟨hb, .inr ⟨E2.out, g, c1, by first | exact ⟨cl, rfl, own, HCL.out⟩ | exact ⟨rfl, cl, own, HCL.out⟩⟩⟩
set_option maxHeartbeats 2000000 in
set_option maxRecDepth 100000 in
theorem l06Made_c {A A' : Option Addr} {c c' : Nat} {ms : List Mp} {prs : List (List Int)} {both : Bool} {w : World} (h : SeeMaps w A ms) (hn : ms.length ≤ 2097152) (h' : SeeTab w A' prs) (hn' : prs.length ≤ 2097152) (hl' : ∀ pr ∈ prs, pr.length ≤ 2097152) :
    Calls Tryz.prog 60 #[.slice A ms.length c, .slice A' prs.length c', .bool both] w fun e w' => ∃ v, e = .returned (.tuple #[v, .int .i64 (RMadeBy both ms prs).2]) ∧ OwnInts w' w.heap.size v (RMadeBy both ms prs).1 ∧ Below w.heap.size w w' := by
  have hpa := l06Given_c (most := 30) (c := c) h hn (by omega)
  have HPA := Lib.hid hpa
  obtain ⟨r, hr⟩ : ∃ r, r = RMadeBy both ms prs := ⟨_, rfl⟩
  rw [← hr]
  have HR := Lib.hid hr
  have H' := Lib.hid h'
  have HL := Lib.hid hl'
  clear hpa h hr h' hl'
  go_enter Tryz.func60, Tryz.ntmps60
  go_wp2_with fail
  refine HPA.out.mono ?_
  rintro e w1 h1
  rcases h1 with ⟨hc, rfl, hb1⟩ | ⟨hc, v, rfl, own, hb1⟩
  · have E1 := Lib.hid (show r = ([], pcC 30 ms) by rw [HR.out]; unfold RMadeBy; rw [if_neg hc])
    have d : (pcC 30 ms != 0) = true := bne_iff_ne.2 hc
    clear hc
    go_wp2
    go_returns
    rw [E1.out]
    exact ⟨_, rfl, OwnInts.nil _ _, hb1⟩
  · have htr := TabR.of hc
    have E1 := Lib.hid (show r = if pairsB (elsOf ms).length prs = true then (genL (elsOf ms).length (mpl (elsOf ms)) both (PairP prs), 0) else ([], 2) by rw [HR.out]; unfold RMadeBy; rw [if_pos hc])
    obtain ⟨Av, cv, rfl, _⟩ := own.see
    have htab := own.tab
    rw [tabOf_length]
    have hN := htr.le
    have hpos := htr.pos
    have HOK := Lib.hid htr.tab
    have HTAB := Lib.hid htab
    clear hc htr own HR htab
    generalize tabOf (elsOf ms) = rows at *
    generalize mpl (elsOf ms) = T at *
    generalize (elsOf ms).length = N at *
    have HPR := Lib.hid (l06Pairs_c (c' := c') hpos (by omega) (H'.out.below hb1) hn' HL.out)
    go_wp2_with fail
    refine HPR.out.mono ?_
    rintro e w3 ⟨hb3, hpost⟩
    rcases hpost with ⟨hf, v3, cl, rfl, own3⟩ | ⟨ht, g, c3, cl, rfl, own3, hcl⟩
    · have E2 := Lib.hid (show r = ([], 2) by rw [E1.out, hf]; rfl)
      obtain ⟨A3, c3, rfl, _⟩ := own3.see
      clear hf
      go_wp2
      go_returns
      rw [E2.out]
      exact ⟨_, rfl, OwnInts.nil _ _, btrans hb1 hb3⟩
    · have E2 := Lib.hid (show r = (genL N T both (PairP prs), 0) by rw [E1.out, ht]; rfl)
      have HCL := Lib.hid (l06Closed_c Av (some ⟨g, 0, none⟩) cv c3 cl both (PairP prs) w3 HOK.out hpos (by omega) (HTAB.out.below hb3) own3.see' (hcl T both) own3.nilok)
      clear ht hcl
      go_wp2_with fail
      refine HCL.out.mono ?_
      rintro e w4 ⟨v4, rfl, own4, hb4⟩
      obtain ⟨A4, c4, rfl, _⟩ := own4.see
      go_wp2
      go_returns
      rw [E2.out]
      have hb5 := btrans hb1 hb3
      exact ⟨_, rfl, own4.mono hb5.size, btrans hb5 hb4⟩
/-! Whether classes are those that they make: 'isMade', 'l06Classes'. -/
open Classical in
noncomputable def stabB (N : Nat) (T : Nat → Nat → Nat) (both : Bool) (cl : List Int) : Bool := decide (StabN N T both (relL cl))
open Classical in
/-- canonical classes are those that they make, exactly if they are stable -/
theorem genL_self {N : Nat} {T : Nat → Nat → Nat} {both : Bool} {cl : List Int} (hc : IsCan cl N) (hT : ∀ i k, i < N → k < N → T i k < N) : genL N T both (relL cl) = cl ↔ StabN N T both (relL cl) := by
  constructor
  · intro e
    -- the numbers tell the relation that is generated
    have hr := numL_rel (S := fun k i => decide (Gen N T both (relL cl) k i)) (n := N)
      (fun i hi => decide_eq_true (gen_eqv.refl i hi)) (fun i k hi hk h => decide_eq_true (gen_eqv.symm i k hi hk (of_decide_eq_true h))) (fun i j k hi hj hk h1 h2 => decide_eq_true (gen_eqv.trans i j k hi hj hk (of_decide_eq_true h1) (of_decide_eq_true h2)))
    have key : ∀ i k, i < N → k < N → (relL cl i k ↔ Gen N T both (relL cl) i k) := fun i k hi hk => by
      have h1 := hr i k hi hk
      have e2 : numL (fun k i => decide (Gen N T both (relL cl) k i)) N = cl := e
      rw [e2, decide_eq_true_eq] at h1
      exact h1
    exact fun a b ha hb h c hc' => by
      have hg := gen_stab (T := T) (both := both) (P := relL cl) a b ha hb ((key a b ha hb).1 h) c hc'
      exact ⟨(key _ _ (hT a c ha hc') (hT b c hb hc')).2 hg.1, fun hB => (key _ _ (hT c a hc' ha) (hT c b hc' hb)).2 (hg.2 hB)⟩
  · intro hs
    have h1 := num_can hc
    rw [genL_of (T := T) (both := both) (P := relL cl) (cl := cl) (fun i k hi hk h => gen_of hi hk h) (fun x y _ _ h => h) hs] at h1
    exact h1
theorem TabOk.lt {rows : List (List Int)} {N : Nat} {T : Nat → Nat → Nat} (h : TabOk rows N T) : ∀ i k, i < N → k < N → T i k < N := fun i k hi hk => by
  obtain ⟨_, _, _, _, h⟩ := h.row i k hi hk
  exact h
open Classical in
theorem stabB_eq {N : Nat} {T : Nat → Nat → Nat} {both : Bool} {cl : List Int} (hc : IsCan cl N) (hT : ∀ i k, i < N → k < N → T i k < N) : decide (genL N T both (relL cl) = cl) = stabB N T both cl := by
  unfold stabB
  rw [decide_eq_decide]
  exact genL_self hc hT
open Classical in
theorem stabB_true {N : Nat} {T : Nat → Nat → Nat} {both : Bool} {cl : List Int} (h : StabN N T both (relL cl)) : stabB N T both cl = true := by unfold stabB; exact decide_eq_true h
open Classical in
theorem stabB_false {N : Nat} {T : Nat → Nat → Nat} {both : Bool} {cl : List Int} (h : ¬ StabN N T both (relL cl)) : stabB N T both cl = false := by unfold stabB; exact decide_eq_false h
noncomputable def RIsMade (both : Bool) (ms : List Mp) (cl : List Int) : Bool × Int :=
  if pcC 30 ms = 0 then (if canB cl (elsOf ms).length = true then (stabB (elsOf ms).length (mpl (elsOf ms)) both cl, 0) else (false, 2)) else (false, pcC 30 ms)
/-- what 'l06Classes' hands back -/
def ClPost (ms : List Mp) (lists : List (List Int)) (w : World) (e : Ending) (w' : World) : Prop :=
  Below w.heap.size w w' ∧ ((pcC 30 ms ≠ 0 ∧ e = .returned (.tuple #[.slice none 0 0, .int .i64 (pcC 30 ms)])) ∨
    (pcC 30 ms = 0 ∧ lists.all (fun cl => canB cl (elsOf ms).length) = false ∧ e = .returned (.tuple #[.slice none 0 0, .int .i64 2])) ∨
    (pcC 30 ms = 0 ∧ lists.all (fun cl => canB cl (elsOf ms).length) = true ∧ ∃ v, e = .returned (.tuple #[v, .int .i64 0]) ∧ OwnSS w' w.heap.size v (tabOf (elsOf ms))))
set_option maxHeartbeats 2000000 in
set_option maxRecDepth 100000 in
theorem l06Classes_c {A A' : Option Addr} {c c' : Nat} {ms : List Mp} {lists : List (List Int)} {w : World} (h : SeeMaps w A ms) (hn : ms.length ≤ 2097152) (h' : SeeTab w A' lists) (hn' : lists.length ≤ 2097152) (hl' : ∀ cl ∈ lists, cl.length ≤ 2097152) :
    Calls Tryz.prog 63 #[.slice A ms.length c, .slice A' lists.length c'] w (ClPost ms lists w) := by
  have hpa := l06Given_c (most := 30) (c := c) h hn (by omega)
  have HPA := Lib.hid hpa
  have H' := Lib.hid h'
  have HL := Lib.hid hl'
  clear hpa h h' hl'
  unfold ClPost
  obtain ⟨okv, hok⟩ : ∃ okv, okv = lists.all (fun cl => canB cl (elsOf ms).length) := ⟨_, rfl⟩
  rw [← hok]
  have HOK := Lib.hid hok
  clear hok
  go_enter Tryz.func63, Tryz.ntmps63
  go_wp2_with fail
  refine HPA.out.mono ?_
  rintro e w1 h1
  rcases h1 with ⟨hc, rfl, hb1⟩ | ⟨hc, v, rfl, own, hb1⟩
  · have HC := Lib.hid hc
    have d : (pcC 30 ms != 0) = true := bne_iff_ne.2 hc
    clear hc
    go_wp2
    go_returns
    exact ⟨hb1, .inl ⟨HC.out, rfl⟩⟩
  · have HC := Lib.hid hc
    have hN := (TabR.of hc).le
    obtain ⟨Av, cv, rfl, _⟩ := own.see
    rw [tabOf_length] at own ⊢
    have OWN := Lib.hid own
    clear hc own
    obtain ⟨N, hNN⟩ : ∃ N, N = (elsOf ms).length := ⟨_, rfl⟩
    rw [← hNN] at hN HOK OWN ⊢
    clear hNN
    go_wp2
    go_loopw [8] (fun kv wr => ∃ k : Nat, k ≤ lists.length ∧ kv = .int .i64 k ∧ Hid (AllTo (fun cl => canB cl N = true) lists k) ∧ Below w.heap.size w wr ∧ Below w1.heap.size w1 wr) (fun kv _ => lists.length - (intOf kv).toNat)
    case atStart => exact ⟨0, Nat.zero_le _, rfl, Lib.hid (AllTo.zero _ _), hb1, Below.refl _ _⟩
    case round =>
      obtain ⟨k, hk, rfl, hAll, hb, hb'⟩ := hrel
      have l0 : (0 : Int) ≤ k := by omega
      by_cases hlt : k < lists.length
      · have l1 : (k : Int) < lists.length := by omega
        obtain ⟨cl, hcl⟩ := el hlt
        obtain ⟨bp, op, rfl, gp⟩ := H'.out (ne_of_lt hlt)
        obtain ⟨Ar, cr, qr, sr, _⟩ := gp k _ hcl
        have r0 := bcell hb qr
        have hll := HL.out cl (List.mem_of_getElem? hcl)
        have hcall := l06Is_c Ar cr cl N wr (sr.below hb) hll (by omega)
        have HK := Lib.hid hcl
        clear gp qr sr hcl
        cases e : canB cl N
        · have HC2 := Lib.hid (valB hcall e)
          have E2 := Lib.hid (show okv = false by rw [HOK.out]; exact List.all_eq_false.2 ⟨cl, List.mem_of_getElem? HK.out, by rw [e]; decide⟩)
          clear hcall e
          go_wp2_with fail
          refine HC2.out.mono ?_
          rintro e w2 ⟨rfl, hb2⟩
          go_wp2
          go_returns
          exact ⟨btrans hb hb2, .inr (.inl ⟨HC.out, E2.out, rfl⟩)⟩
        · have HC2 := Lib.hid (valB hcall e)
          have HE := Lib.hid e
          clear hcall e
          go_wp2_with fail
          refine HC2.out.mono ?_
          rintro e w2 ⟨rfl, hb2⟩
          go_wp2
          go_roundw
          case rel => exact ⟨k + 1, by omega, by go_num, Lib.hid (hAll.out.snoc HK.out HE.out), btrans hb hb2, btrans hb' hb2⟩
          case measure => simp [intOf]; omega
      · have ek : k = lists.length := by omega
        have E2 := Lib.hid (show okv = true by
          rw [HOK.out, List.all_eq_true]
          have := hAll.out
          rw [ek] at this
          exact this.all)
        have nlt : ¬ (k : Int) < lists.length := by omega
        clear ek hlt hk hAll
        go_wp2
        go_returns
        exact ⟨hb, .inr (.inr ⟨HC.out, E2.out, _, rfl, OWN.out.below hb'⟩)⟩
set_option maxHeartbeats 2000000 in
set_option maxRecDepth 100000 in
theorem isMade_c {A A' : Option Addr} {c c' : Nat} {ms : List Mp} {cl : List Int} {both : Bool} {w : World} (h : SeeMaps w A ms) (hn : ms.length ≤ 2097152) (hA : NilOk A c) (h' : SeeInts w A' cl) (hn' : cl.length ≤ 2097152) :
    Calls Tryz.prog 62 #[.slice A ms.length c, .slice A' cl.length c', .bool both] w fun e w' => e = .returned (.tuple #[.bool (RIsMade both ms cl).1, .int .i64 (RIsMade both ms cl).2]) ∧ Below w.heap.size w w' := by
  have hpa := paired_c h hn hA
  have HPA := Lib.hid hpa
  obtain ⟨r, hr⟩ : ∃ r, r = RIsMade both ms cl := ⟨_, rfl⟩
  rw [← hr]
  have HR := Lib.hid hr
  have H' := Lib.hid h'
  clear hpa h hr h'
  go_enter Tryz.func62, Tryz.ntmps62
  go_wp2_with fail
  refine HPA.out.mono ?_
  rintro e w1 h1
  rcases h1 with ⟨hc, rfl, hb1⟩ | ⟨hc, v, rfl, own, hb1⟩
  · have E1 := Lib.hid (show r = (false, pcC 30 ms) by rw [HR.out]; unfold RIsMade; rw [if_neg hc])
    have d : (pcC 30 ms != 0) = true := bne_iff_ne.2 hc
    clear hc
    go_wp2
    go_returns
    rw [E1.out]
    exact ⟨rfl, hb1⟩
  · have htr := TabR.of hc
    have E1 := Lib.hid (show r = if canB cl (elsOf ms).length = true then (stabB (elsOf ms).length (mpl (elsOf ms)) both cl, 0) else (false, 2) by rw [HR.out]; unfold RIsMade; rw [if_pos hc])
    obtain ⟨Av, cv, rfl, _⟩ := own.see
    have htab := own.tab
    rw [tabOf_length]
    have hN := htr.le
    have hpos := htr.pos
    have HOK := Lib.hid htr.tab
    have HTAB := Lib.hid htab
    clear hc htr own HR htab
    generalize tabOf (elsOf ms) = rows at *
    generalize mpl (elsOf ms) = T at *
    generalize (elsOf ms).length = N at *
    have hic := isClasses_c A' c' cl N w1 (H'.out.below hb1) hn' (by omega)
    cases e : canB cl N
    · have E2 := Lib.hid (show r = (false, 2) by rw [E1.out, e]; rfl)
      have HIC := Lib.hid (valB hic e)
      clear e hic
      go_wp2_with fail
      refine HIC.out.mono ?_
      rintro e w3 ⟨rfl, hb3⟩
      go_wp2
      go_returns
      rw [E2.out]
      exact ⟨rfl, btrans hb1 hb3⟩
    · have E2 := Lib.hid (show r = (stabB N T both cl, 0) by rw [E1.out, e]; rfl)
      have HIC := Lib.hid (valB hic e)
      have hl : cl.length = N := ((canB_iff cl N).1 e).1
      have HST := Lib.hid (show ∀ W, SeeTab W Av rows → SeeInts W A' cl → Calls Tryz.prog 99 #[.slice Av N cv, .slice A' cl.length c', .bool both] W (StPost N T both cl W) from fun W h1 h2 => by
        have := isStable_c Av A' cv c' cl both W HOK.out hpos (by omega) h1 h2 hl
        rw [show Value.slice A' cl.length c' = Value.slice A' N c' by rw [hl]]
        exact this)
      clear e hic hl
      go_wp2_with fail
      refine HIC.out.mono ?_
      rintro e w3 ⟨rfl, hb3⟩
      go_wp2_with fail
      refine (HST.out _ (HTAB.out.below hb3) (H'.out.below (btrans hb1 hb3))).mono ?_
      rintro e w4 ⟨hb4, hpost⟩
      have hb5 := btrans hb1 (btrans hb3 hb4)
      rcases hpost with ⟨rfl, hstab⟩ | ⟨x, y, rfl, hx, hy, hne, hforced⟩
      · have E3 := Lib.hid (show r = (true, 0) by rw [E2.out, stabB_true hstab])
        clear hstab
        go_wp2
        go_returns
        rw [E3.out]
        exact ⟨rfl, hb5⟩
      · have E3 := Lib.hid (show r = (false, 0) by
          rw [E2.out, stabB_false]
          intro hs
          obtain ⟨a, b, c, ha, hb, hc, hab, hh⟩ := hforced
          have := hs a b ha hb hab c hc
          rcases hh with ⟨rfl, rfl⟩ | ⟨hB, rfl, rfl⟩
          · exact hne this.1
          · exact hne (this.2 hB))
        clear hforced
        go_wp2
        go_returns
        rw [E3.out]
        exact ⟨rfl, hb5⟩
end Go.Proofs.YtjepmbjneccagaaGreat
