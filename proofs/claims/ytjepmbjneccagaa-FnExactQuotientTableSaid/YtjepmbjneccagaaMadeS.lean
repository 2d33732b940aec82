/- The reference's 'l06Apart', 'l06Pairs', 'l06Made'. No condition. -/
import Derived.Test.YtjepmbjneccagaaMadeBy
namespace Go.Proofs.Ytjepmbjneccagaa
set_option linter.unusedSimpArgs false
set_option linter.unusedVariables false
set_option linter.unusedSectionVars false
open Go.RowKit
set_option maxHeartbeats 1000000 in
theorem l06Apart_c (n : Nat) (w : World) (hn : n ≤ 100000) :
    Calls Try.prog 79 #[.int .i64 (n : Int)] w fun e w' => ∃ v, e = .returned v ∧ OwnInts w' w.heap.size v (idL n) ∧ Below w.heap.size w w' := by
  have own0 : OwnInts (w.alloc (.cells #[] 2)) w.heap.size (.slice (some ⟨w.heap.size, 0, none⟩) 0 0) (idL 0) := own_mono (World.ownsRow_made (e := 2) (size := 1) w #[] 0 (Nat.le_refl _) (by decide) rfl) (Nat.le_refl _)
  have kk := kbelow w (.cells #[] 2)
  go_enter Try.func79, Try.ntmps79
  go_wp2
  go_loopw [4, 3] (fun i out wr => ∃ k : Nat, k ≤ n ∧ i = .int .i64 k ∧ OwnInts wr w.heap.size out (idL k) ∧ Below w.heap.size w wr) (fun i _ _ => n - (intOf i).toNat)
  case atStart => exact ⟨0, Nat.zero_le _, rfl, own0, kk⟩
  case round =>
    clear own0 kk
    obtain ⟨k, hk, rfl, hown, hb⟩ := hrel
    have hz := hb.size
    by_cases hlt : k < n
    · have l0 : (k : Int) < n := by omega
      have hl := idL_length k
      have HS := Lib.hid (idL_succ k)
      generalize idL k = xs at *
      go_wp2_with (at_builtin; refine wpList_push_int _ rfl (.tmp 11) (.tmp 13) rfl w.heap.size _ _ rfl (hown.below (by go_grown)) ⟨wr.heap.size, 0, none⟩ (k : Int) rfl (by simp [go_sem]) (by omega) (by go_size) ?_; intro v' w3 hown' hgrow hv')
      go_roundw
      case rel => exact ⟨k + 1, by omega, by go_num, by rw [HS.out]; exact hown', Below.grown (w := wr.alloc (.cells #[.int .i64 (k : Int)] 2)) (by go_grown) hgrow (by simp; omega) (fun j hj => (hown.lt j hj).1)⟩
      case measure => simp [intOf]; omega
    · obtain rfl : n = k := by omega
      go_wp2
      go_returns
      exact ⟨_, rfl, hown, hb⟩
/-- what 'l06Pairs' hands back -/
def PrPost (N : Nat) (prs : List (List Int)) (w : World) (e : Ending) (w' : World) : Prop :=
  Below w.heap.size w w' ∧ ((pairsB N prs = false ∧ ∃ v cl, e = .returned (.tuple #[v, .bool false]) ∧ OwnInts w' w.heap.size v cl) ∨
    (pairsB N prs = true ∧ ∃ g c cl, e = .returned (.tuple #[.slice (some ⟨g, 0, none⟩) N c, .bool true]) ∧ OwnInts w' w.heap.size (.slice (some ⟨g, 0, none⟩) N c) cl ∧ ∀ T both, ClI N T both (PairP prs) cl))
theorem pairs_stop {N : Nat} {prs : List (List Int)} {k : Nat} {pr : List Int} (hk : prs[k]? = some pr) (h : pairB N pr = false) : pairsB N prs = false := by
  unfold pairsB
  rw [List.all_eq_false.2 ⟨pr, List.mem_of_getElem? hk, by rw [h]; decide⟩, Bool.and_false]
set_option maxHeartbeats 8000000 in
set_option maxRecDepth 100000 in
theorem l06Pairs_c {A' : Option Addr} {c' : Nat} {N : Nat} {prs : List (List Int)} {w : World} (h0 : 0 < N) (hN : N ≤ 300) (h' : SeeTab w A' prs) (hn' : prs.length ≤ 2097152) (hl' : ∀ pr ∈ prs, pr.length ≤ 2097152) :
    Calls Try.prog 68 #[.int .i64 (N : Int), .slice A' prs.length c'] w (PrPost N prs w) := by
  have HP := Lib.hid h'
  have HL := Lib.hid hl'
  clear h' hl'
  unfold PrPost
  obtain ⟨okv, hok⟩ : ∃ okv, okv = pairsB N prs := ⟨_, rfl⟩
  obtain ⟨C, hC⟩ : ∃ C : List Int → Prop, C = fun cl => ∀ T both, ClI N T both (PairP prs) cl := ⟨_, rfl⟩
  have HC := Lib.hid (show ∀ cl, (∀ T both, ClI N T both (PairP prs) cl) → C cl from fun cl h => by rw [hC]; exact h)
  have HG : (∀ (e : Ending) (w' : World), (Below w.heap.size w w' ∧ ((okv = false ∧ ∃ v cl, e = .returned (.tuple #[v, .bool false]) ∧ OwnInts w' w.heap.size v cl) ∨ (okv = true ∧ ∃ g c cl, e = .returned (.tuple #[.slice (some ⟨g, 0, none⟩) N c, .bool true]) ∧ OwnInts w' w.heap.size (.slice (some ⟨g, 0, none⟩) N c) cl ∧ C cl))) → (Below w.heap.size w w' ∧ ((pairsB N prs = false ∧ ∃ v cl, e = .returned (.tuple #[v, .bool false]) ∧ OwnInts w' w.heap.size v cl) ∨ (pairsB N prs = true ∧ ∃ g c cl, e = .returned (.tuple #[.slice (some ⟨g, 0, none⟩) N c, .bool true]) ∧ OwnInts w' w.heap.size (.slice (some ⟨g, 0, none⟩) N c) cl ∧ ∀ T both, ClI N T both (PairP prs) cl)))) := fun e w' h => by rw [hok, hC] at h; exact h
  refine Calls.mono ?_ HG
  clear HG hC
  have HOK := Lib.hid hok
  clear hok
  go_enter Try.func68, Try.ntmps68
  go_wp2_with fail
  refine (l06Apart_c N w (by omega)).mono ?_
  rintro e w1 ⟨v1, rfl, own1, hb1⟩
  obtain ⟨A1, c1, rfl, s1⟩ := own1.see
  rw [idL_length] at own1 ⊢
  obtain ⟨g, o, e1, _⟩ := s1.cls (by rw [idL_length]; exact h0)
  subst e1
  have eo : o = 0 := by
    rcases own1.2 with ⟨h1, _⟩ | ⟨_, _, _, h1, _⟩
    · simp at h1
    · simp at h1; exact h1.1.2
  subst eo
  have hg0 := (own1.lt g rfl).1
  clear s1
  by_cases h10 : 10 < prs.length
  · have d : (10 : Int) < prs.length := by omega
    have E2 := Lib.hid (show okv = false by rw [HOK.out]; unfold pairsB; rw [decide_eq_false (by omega)]; rfl)
    clear h10
    go_wp2
    go_returns
    exact ⟨hb1, .inl ⟨E2.out, _, _, rfl, own1⟩⟩
  · have d : ¬ (10 : Int) < prs.length := by omega
    have hs0 : ∀ T both i k, i < N → k < N → relL (idL N) i k → Gen N T both (PairP prs) i k := fun T both i k hi hk hr => by
      have e : (cls (idL N) i) = cls (idL N) k := hr
      rw [idL_cls hi, idL_cls hk] at e
      have e2 : i = k := by omega
      subst e2
      exact gen_eqv.refl i hi
    have HS0 := Lib.hid hs0
    have h10' : prs.length ≤ 10 := by omega
    clear hs0 h10
    go_wp2
    go_loopw [7] (fun kv wr => ∃ (k : Nat) (cl : List Int), k ≤ prs.length ∧ kv = .int .i64 k ∧ cl.length = N ∧ OwnInts wr w.heap.size (.slice (some ⟨g, 0, none⟩) N c1) cl ∧ Hid (∀ T both i k, i < N → k < N → relL cl i k → Gen N T both (PairP prs) i k) ∧ Hid (∀ j x y, j < k → prs[j]? = some [(x : Int), (y : Int)] → relL cl x.toNat y.toNat) ∧ Hid (AllTo (fun pr => pairB N pr = true) prs k) ∧ Below w.heap.size w wr) (fun kv _ => prs.length - (intOf kv).toNat)
    case atStart => exact ⟨0, _, Nat.zero_le _, rfl, idL_length N, own1, HS0, Lib.hid (fun j x y h => by omega), Lib.hid (AllTo.zero _ _), hb1⟩
    case round =>
      clear own1 HS0 hb1
      obtain ⟨k, cl, hk, rfl, hl, own, hS, hPk, hAll, hb⟩ := hrel
      have l0 : (0 : Int) ≤ k := by omega
      by_cases hlt : k < prs.length
      · have l1 : (k : Int) < prs.length := by omega
        obtain ⟨pr, hpk⟩ := el hlt
        obtain ⟨bp, op, rfl, gp⟩ := HP.out (ne_of_lt hlt)
        obtain ⟨Ar, cr, qr, sr, _⟩ := gp k _ hpk
        have r0 := bcell hb qr
        have R0 := bwcell r0
        have hprl := HL.out pr (List.mem_of_getElem? hpk)
        by_cases h2 : pr.length = 2
        · obtain ⟨br, or_, rfl, q1⟩ := sr.cls (by omega)
          have g0 := bcell hb (q1 0 (by omega))
          have g1 := bcell hb (q1 1 (by omega))
          rw [Nat.add_zero] at g0
          rw [h2] at r0 R0
          have G0 := bwcell g0
          have G1 := bwcell g1
          have HPB := Lib.hid (show pairB N pr = (inB (cls pr 0) 0 ((N : Int) - 1) && inB (cls pr 1) 0 ((N : Int) - 1)) by unfold pairB; rw [decide_eq_true h2]; rfl)
          have HTW := Lib.hid (two_cls h2)
          have HPK := Lib.hid hpk
          have HW := Lib.hid (fun W x => l01In_c x 0 ((N : Int) - 1) W)
          clear sr q1 qr gp hpk hprl h2
          generalize cls pr 0 = x at *
          generalize cls pr 1 = y at *
          cases e1 : inB x 0 ((N : Int) - 1)
          · have E2 := Lib.hid (show okv = false by rw [HOK.out]; exact pairs_stop HPK.out (by rw [HPB.out, e1]; rfl))
            have H1 := Lib.hid (fun W => valB (HW.out W x) e1)
            clear e1
            clear R0 G0 G1
            go_wp2_with fail
            refine (H1.out _).mono ?_
            rintro e w2 ⟨rfl, hb2⟩
            go_wp2
            go_returns
            exact ⟨btrans hb hb2, .inl ⟨E2.out, _, _, rfl, own.below hb2⟩⟩
          · cases e2 : inB y 0 ((N : Int) - 1)
            · have E2 := Lib.hid (show okv = false by rw [HOK.out]; exact pairs_stop HPK.out (by rw [HPB.out, e1, e2]; rfl))
              have H1 := Lib.hid (fun W => valB (HW.out W x) e1)
              have H2 := Lib.hid (fun W => valB (HW.out W y) e2)
              clear e1 e2
              clear R0 G0 G1
              go_wp2_with fail
              refine (H1.out _).mono ?_
              rintro e w2 ⟨rfl, hb2⟩
              replace r0 := bcell hb2 r0
              replace g1 := bcell hb2 g1
              clear g0
              go_wp2_with fail
              refine (H2.out _).mono ?_
              rintro e w3 ⟨rfl, hb3⟩
              go_wp2
              go_returns
              exact ⟨btrans hb (btrans hb2 hb3), .inl ⟨E2.out, _, _, rfl, (own.below hb2).below hb3⟩⟩
            · have HT := Lib.hid (show pairB N pr = true by rw [HPB.out, e1, e2]; rfl)
              have H1 := Lib.hid (fun W => valB (HW.out W x) e1)
              have H2 := Lib.hid (fun W => valB (HW.out W y) e2)
              unfold inB at e1 e2
              rw [decide_eq_true_eq] at e1 e2
              obtain ⟨xn, rfl⟩ : ∃ xn : Nat, x = (xn : Int) := ⟨x.toNat, by omega⟩
              obtain ⟨yn, rfl⟩ : ∃ yn : Nat, y = (yn : Int) := ⟨y.toNat, by omega⟩
              have hx : xn < N := by omega
              have hy : yn < N := by omega
              clear e1 e2
              have x0 : (0 : Int) ≤ xn := by omega
              have x1 : (xn : Int) < N := by omega
              have y0 : (0 : Int) ≤ yn := by omega
              have y1 : (yn : Int) < N := by omega
              have hgxy : ∀ T both, Gen N T both (PairP prs) xn yn := fun T both => gen_of hx hy (by have := List.mem_of_getElem? HPK.out; rw [HTW.out] at this; exact this)
              have HS2 := Lib.hid (fun T both => sound_join (T := T) (both := both) (P := PairP prs) (cl := cl) (x := xn) (y := yn) hl (hS.out T both) hx hy (hgxy T both))
              have HJC := Lib.hid (fun W (hW : OwnInts W w.heap.size (.slice (some ⟨g, 0, none⟩) cl.length c1) cl) => l06Join_c g c1 w.heap.size cl (cls cl xn) (cls cl yn) W hW (by omega))
              rw [hl] at HJC
              have cx := own.at_ (cls_get (cl := cl) (i := xn) (by omega))
              have cy := own.at_ (cls_get (cl := cl) (i := yn) (by omega))
              have HH := Lib.hid (show relL (joinL cl (cls cl xn) (cls cl yn)) xn yn from join_has (by omega) (by omega))
              have HK := Lib.hid (show ∀ i k, i < N → k < N → relL cl i k → relL (joinL cl (cls cl xn) (cls cl yn)) i k from fun i k hi hk h => join_keeps (by omega) (by omega) h)
              have OWN := Lib.hid own
              clear hgxy own
              generalize cls cl xn = vx at *
              generalize cls cl yn = vy at *
              clear R0 G0 G1
              go_wp2_with fail
              refine (H1.out _).mono ?_
              rintro e w20 ⟨rfl, hb20⟩
              replace r0 := bcell hb20 r0
              replace g0 := bcell hb20 g0
              replace g1 := bcell hb20 g1
              replace cx := bcell hb20 cx
              replace cy := bcell hb20 cy
              go_wp2_with fail
              refine (H2.out _).mono ?_
              rintro e w2 ⟨rfl, hb21⟩
              have hb2 := btrans hb20 hb21
              replace r0 := bcell hb21 r0
              replace g0 := bcell hb21 g0
              replace g1 := bcell hb21 g1
              replace cx := bcell hb21 cx
              replace cy := bcell hb21 cy
              go_wp2
              go_still_tail 19, (by kernel_rfl)
              change wpList _ _ _ _ _ w2.drew
              go_wp2_with fail
              refine (HJC.out _ (OWN.out.below (btrans hb2 (bdr (Below.refl _ _))))).mono ?_
              rintro e w7 ⟨rfl, own7, hk7⟩
              have hb7 : Below w.heap.size w w7 := (btrans hb hb2).trans (Below.trans (bdrewN (Below.refl _ _) 1) (hk7.below (by show w.heap.size ≤ w2.heap.size; exact (btrans hb hb2).size) (fun j hj => by show j ≠ g; omega)))
              clear r0 g0 g1 cx cy
              go_wp2
              go_roundw
              case rel =>
                refine ⟨k + 1, joinL cl vx vy, by omega, by go_num, by rw [joinL_length]; exact hl, own7, HS2, Lib.hid (fun j x' y' hj hp => ?_), Lib.hid (hAll.out.snoc HPK.out HT.out), hb7⟩
                by_cases e : j = k
                · subst e
                  rw [HPK.out, HTW.out] at hp
                  have hp' := Option.some.inj hp
                  simp only [List.cons.injEq, and_true] at hp'
                  rw [← hp'.1, ← hp'.2]
                  exact HH.out
                · obtain ⟨x2, y2, e2, hx2, hy2⟩ := pairB_spec (hAll.out j _ (by omega) hp)
                  simp only [List.cons.injEq, and_true] at e2
                  exact HK.out _ _ (by omega) (by omega) (hPk.out j x' y' (by omega) hp)
              case measure => simp [intOf]; omega
        · have E2 := Lib.hid (show okv = false by rw [HOK.out]; exact pairs_stop hpk (pairB_not h2))
          have d2 : ((pr.length : Int) != 2) = true := bne_iff_ne.2 (by omega)
          clear sr qr gp hpk h2
          clear R0
          go_wp2
          go_returns
          exact ⟨hb, .inl ⟨E2.out, _, _, rfl, own⟩⟩
      · have ek : k = prs.length := by omega
        have E2 := Lib.hid (show okv = true by
          rw [HOK.out]
          unfold pairsB
          rw [decide_eq_true h10', Bool.true_and, List.all_eq_true]
          have := hAll.out
          rw [ek] at this
          exact this.all)
        have HCL := Lib.hid (HC.out cl fun T both => ⟨hl, hS.out T both, fun x y _ _ hp => by
          obtain ⟨j, hj⟩ := List.getElem?_of_mem hp
          have := hPk.out j x y (by have := (List.getElem?_eq_some_iff.1 hj).1; omega) hj
          simpa using this⟩)
        have nlt : ¬ (k : Int) < prs.length := by omega
        clear ek hlt hk hAll hPk hS
        go_wp2
        go_returns
        exact ⟨hb, .inr ⟨E2.out, g, c1, by first | exact ⟨cl, rfl, own, HCL.out⟩ | exact ⟨rfl, cl, own, HCL.out⟩⟩⟩
set_option maxHeartbeats 2000000 in
set_option maxRecDepth 100000 in
theorem l06Made_c {A A' : Option Addr} {c c' : Nat} {ms : List Mp} {prs : List (List Int)} {both : Bool} {w : World} (h : SeeMaps w A ms) (hn : ms.length ≤ 2097152) (h' : SeeTab w A' prs) (hn' : prs.length ≤ 2097152) (hl' : ∀ pr ∈ prs, pr.length ≤ 2097152) :
    Calls Try.prog 49 #[.slice A ms.length c, .slice A' prs.length c', .bool both] w fun e w' => ∃ v, e = .returned (.tuple #[v, .int .i64 (RMadeBy both ms prs).2]) ∧ OwnInts w' w.heap.size v (RMadeBy both ms prs).1 ∧ Below w.heap.size w w' := by
  have hpa := l06Given_c (most := 30) (c := c) h hn (by omega)
  have HPA := Lib.hid hpa
  obtain ⟨r, hr⟩ : ∃ r, r = RMadeBy both ms prs := ⟨_, rfl⟩
  rw [← hr]
  have HR := Lib.hid hr
  have H' := Lib.hid h'
  have HL := Lib.hid hl'
  clear hpa h hr h' hl'
  go_enter Try.func49, Try.ntmps49
  go_wp2_with fail
  refine HPA.out.mono ?_
  rintro e w1 h1
  rcases h1 with ⟨hc, rfl, hb1⟩ | ⟨hc, v, rfl, own, hb1⟩
  · have E1 := Lib.hid (show r = ([], pcC 30 ms) by rw [HR.out]; unfold RMadeBy; rw [if_neg hc])
    have d : (pcC 30 ms != 0) = true := bne_iff_ne.2 hc
    clear hc
    go_wp2
    go_returns
    rw [E1.out]
    exact ⟨_, rfl, OwnInts.nil _ _, hb1⟩
  · have htr := TabR.of hc
    have E1 := Lib.hid (show r = if pairsB (elsOf ms).length prs = true then (genL (elsOf ms).length (mpl (elsOf ms)) both (PairP prs), 0) else ([], 2) by rw [HR.out]; unfold RMadeBy; rw [if_pos hc])
    obtain ⟨Av, cv, rfl, _⟩ := own.see
    have htab := own.tab
    rw [tabOf_length]
    have hN := htr.le
    have hpos := htr.pos
    have HOK := Lib.hid htr.tab
    have HTAB := Lib.hid htab
    clear hc htr own HR htab
    generalize tabOf (elsOf ms) = rows at *
    generalize mpl (elsOf ms) = T at *
    generalize (elsOf ms).length = N at *
    have HPR := Lib.hid (l06Pairs_c (c' := c') hpos (by omega) (H'.out.below hb1) hn' HL.out)
    go_wp2_with fail
    refine HPR.out.mono ?_
    rintro e w3 ⟨hb3, hpost⟩
    rcases hpost with ⟨hf, v3, cl, rfl, own3⟩ | ⟨ht, g, c3, cl, rfl, own3, hcl⟩
    · have E2 := Lib.hid (show r = ([], 2) by rw [E1.out, hf]; rfl)
      obtain ⟨A3, c3, rfl, _⟩ := own3.see
      clear hf
      go_wp2
      go_returns
      rw [E2.out]
      exact ⟨_, rfl, OwnInts.nil _ _, btrans hb1 hb3⟩
    · have E2 := Lib.hid (show r = (genL N T both (PairP prs), 0) by rw [E1.out, ht]; rfl)
      have HCL := Lib.hid (l06Closed_c Av (some ⟨g, 0, none⟩) cv c3 cl both (PairP prs) w3 HOK.out hpos (by omega) (HTAB.out.below hb3) own3.see' (hcl T both) own3.nilok)
      clear ht hcl
      go_wp2_with fail
      refine HCL.out.mono ?_
      rintro e w4 ⟨v4, rfl, own4, hb4⟩
      obtain ⟨A4, c4, rfl, _⟩ := own4.see
      go_wp2
      go_returns
      rw [E2.out]
      have hb5 := btrans hb1 hb3
      exact ⟨_, rfl, own4.mono hb5.size, btrans hb5 hb4⟩
end Go.Proofs.Ytjepmbjneccagaa
