/- 'made': the finest classes with pairs that are stable. No condition. -/
import Derived.Test.YtjepmbjneccagaaGreatStab
import Derived.Test.YtjepmbjneccagaaGreatNum
import Derived.StillTailTactics
namespace Go.Proofs.YtjepmbjneccagaaGreat
set_option linter.unusedSimpArgs false
set_option linter.unusedVariables false
set_option linter.unusedSectionVars false
open Go.RowKit
def idL (n : Nat) : List Int := (List.range n).map fun (i : Nat) => (i : Int)
theorem idL_length (n : Nat) : (idL n).length = n := by simp [idL]
theorem idL_succ (k : Nat) : idL (k + 1) = idL k ++ [(k : Int)] := by unfold idL; rw [List.range_succ, List.map_append]; rfl
theorem idL_cls {n i : Nat} (h : i < n) : cls (idL n) i = i := by
  unfold cls idL
  rw [List.getD_eq_getElem?_getD, List.getElem?_map, List.getElem?_range h]
  rfl
set_option maxHeartbeats 1000000 in
theorem pointsN_c (n : Nat) (w : World) (hn : n ≤ 100000) :
    Calls Tryz.prog 54 #[.int .i64 (n : Int)] w fun e w' => ∃ v, e = .returned v ∧ OwnInts w' w.heap.size v (idL n) ∧ Below w.heap.size w w' := by
  go_enter Tryz.func54, Tryz.ntmps54
  go_wp2
  go_loopw [6, 3] (fun i out wr => ∃ k : Nat, k ≤ n ∧ i = .int .i64 k ∧ OwnInts wr w.heap.size out (idL k) ∧ Below w.heap.size w wr) (fun i _ _ => n - (intOf i).toNat)
  case atStart => exact ⟨0, Nat.zero_le _, rfl, OwnInts.nil _ _, Below.refl _ _⟩
  case round =>
    obtain ⟨k, hk, rfl, hown, hb⟩ := hrel
    have hz := hb.size
    by_cases hlt : k < n
    · have l0 : (k : Int) < n := by omega
      have hl := idL_length k
      have HS := Lib.hid (idL_succ k)
      generalize idL k = xs at *
      go_wp2_with (at_builtin; refine wpList_push_int _ rfl (.tmp 9) (.tmp 11) rfl w.heap.size _ _ rfl (hown.below (by go_grown)) ⟨wr.heap.size, 0, none⟩ (k : Int) rfl (by simp [go_sem]) (by omega) (by go_size) ?_; intro v' w3 hown' hgrow hv')
      go_roundw
      case rel => exact ⟨k + 1, by omega, by go_num, by rw [HS.out]; exact hown', Below.grown (w := wr.alloc (.cells #[.int .i64 (k : Int)] 2)) (by go_grown) hgrow (by simp; omega) (fun j hj => (hown.lt j hj).1)⟩
      case measure => simp [intOf]; omega
    · obtain rfl : k = n := by omega
      go_wp2
      go_returns
      exact ⟨_, rfl, hown, hb⟩
def PairP (prs : List (List Int)) (x y : Nat) : Prop := [(x : Int), (y : Int)] ∈ prs
open Classical in
noncomputable def genL (N : Nat) (T : Nat → Nat → Nat) (both : Bool) (P : Nat → Nat → Prop) : List Int := numL (fun k i => decide (Gen N T both P k i)) N
theorem genL_length (N : Nat) (T : Nat → Nat → Nat) (both : Bool) (P : Nat → Nat → Prop) : (genL N T both P).length = N := numL_length _ _
open Classical in
theorem genL_of {N : Nat} {T : Nat → Nat → Nat} {both : Bool} {P : Nat → Nat → Prop} {cl : List Int} (hs : ∀ i k, i < N → k < N → relL cl i k → Gen N T both P i k) (hp : ∀ x y, x < N → y < N → P x y → relL cl x y) (hst : StabN N T both (relL cl)) :
    numL (fun k i => decide (cls cl k = cls cl i)) N = genL N T both P := by
  unfold genL
  refine numL_congr fun i k hk hi => ?_
  rw [decide_eq_decide]
  exact gen_eq hs hp hst (by omega) hi
theorem mem_cls {cl : List Int} {i : Nat} (h : i < cl.length) : cls cl i ∈ cl := List.mem_of_getElem? (cls_get h)
set_option maxHeartbeats 1000000 in
theorem made1_same {N : Nat} {cl : List Int} {g c base b7 : Nat} {w : World} (own : OwnInts w base (.slice (some ⟨g, 0, none⟩) N c) cl) (hl : cl.length = N) (vb : VBox w b7 (.slice (some ⟨g, 0, none⟩) N c)) :
    SameP 113 #[.pointer (some ⟨b7, 0, none⟩)] (fun k i => decide (cls cl k = cls cl i)) N w := fun W k i hW hki hiN => by
  have q7 := bwcell (vb.below hW).cell
  have qk := bwcell ((own.below hW).at_ (cls_get (cl := cl) (i := k) (by omega)))
  have qi := bwcell ((own.below hW).at_ (cls_get (cl := cl) (i := i) (by omega)))
  have k0 : (0 : Int) ≤ k := by omega
  have k1 : (k : Int) < N := by omega
  have i0 : (0 : Int) ≤ i := by omega
  have i1 : (i : Int) < N := by omega
  show Calls Tryz.prog 113 #[.int .i64 (k : Int), .int .i64 (i : Int), .pointer (some ⟨b7, 0, none⟩)] W fun e w' => e = .returned (.bool (decide (cls cl k = cls cl i))) ∧ Below W.heap.size W w'
  have hd : (cls cl k == cls cl i) = decide (cls cl k = cls cl i) := by
    by_cases e : cls cl k = cls cl i
    · rw [e]; simp
    · rw [decide_eq_false e]; exact beq_eq_false_iff_ne.2 e
  have HD := Lib.hid hd
  clear hd own vb hW
  generalize cls cl k = x at *
  generalize cls cl i = y at *
  go_enter Tryz.func113, Tryz.ntmps113
  go_wp2
  refine wp_region_bw (by kernel_rfl) (by kernel_rfl) ?_
  repeat go_big_quiet_step (fail)
  refine wpQuiet_nil ?_
  rintro w2 ⟨⟨w2x, hb2⟩, rfl⟩
  go_wp2
  go_returns
  exact ⟨ret_bool HD.out, hb2⟩
section
variable {rows : List (List Int)} {N : Nat} {T : Nat → Nat → Nat}
set_option maxHeartbeats 8000000 in
set_option maxRecDepth 100000 in
theorem made_c (A Ap : Option Addr) (c cp : Nat) (prs : List (List Int)) (both : Bool) (w : World) (ht : TabOk rows N T) (h0 : 0 < N) (hN : N ≤ 300) (h : SeeTab w A rows) (hp : SeeTab w Ap prs)
    (hpr : ∀ pr ∈ prs, ∃ x y : Nat, pr = [(x : Int), (y : Int)] ∧ x < N ∧ y < N) (hlp : prs.length ≤ 100000) :
    Calls Tryz.prog 78 #[.slice A N c, .slice Ap prs.length cp, .bool both] w fun e w' => ∃ v, e = .returned v ∧ OwnInts w' w.heap.size v (genL N T both (PairP prs)) ∧ Below w.heap.size w w' := by
  have HST := Lib.hid (fun W A' c' cl (hW : SeeTab W A rows) (h' : SeeInts W A' cl) hl => isStable_c A A' c c' cl both W ht h0 hN hW h' hl)
  have HT := Lib.hid h
  have HP := Lib.hid hp
  have HPR := Lib.hid hpr
  obtain ⟨P, hP⟩ : ∃ P, P = PairP prs := ⟨_, rfl⟩
  rw [← hP]
  have HPP := Lib.hid hP
  obtain ⟨res, hres⟩ : ∃ res, res = genL N T both P := ⟨_, rfl⟩
  rw [← hres]
  have HRES := Lib.hid hres
  clear h hp hpr hP hres ht
  go_enter Tryz.func78, Tryz.ntmps78
  go_wp2_with fail
  refine (pointsN_c N w (by omega)).mono ?_
  rintro e w1 ⟨v1, rfl, own1, hb1⟩
  obtain ⟨A1, c1, rfl, s1⟩ := own1.see
  rw [idL_length] at own1 ⊢
  obtain ⟨g, o, e1, _⟩ := s1.cls (by rw [idL_length]; exact h0)
  subst e1
  have eo : o = 0 := by
    rcases own1.2 with ⟨h1, _⟩ | ⟨_, _, _, h1, _⟩
    · simp at h1
    · simp at h1; exact h1.1.2
  subst eo
  have hg := own1.lt g rfl
  have hg0 := hg.1
  have hg1 := hg.2
  have kk := kbelow w1 (.cells #[.slice (some ⟨g, 0, none⟩) N c1] 38)
  have vb0 := VBox.new (w := w1) (.slice (some ⟨g, 0, none⟩) N c1) 38 rfl
  have own0 := own1.below kk
  have hbw := btrans hb1 kk
  have gne : w1.heap.size ≠ g := by omega
  have hs0 : ∀ i k, i < N → k < N → relL (idL N) i k → Gen N T both P i k := fun i k hi hk hr => by
    have e : (cls (idL N) i) = cls (idL N) k := hr
    rw [idL_cls hi, idL_cls hk] at e
    have e2 : i = k := by omega
    subst e2
    exact gen_eqv.refl i hi
  have HS0 := Lib.hid hs0
  clear hs0 own1 s1
  go_wp2
  generalize hB7 : w1.heap.size = b7 at *
  clear hB7
  generalize hW1 : w1.alloc (.cells #[.slice (some ⟨g, 0, none⟩) N c1] 38) = W1 at *
  clear hW1
  go_loopw [18] (fun kv wr => ∃ (k : Nat) (cl : List Int), k ≤ prs.length ∧ kv = .int .i64 k ∧ cl.length = N ∧ OwnInts wr w.heap.size (.slice (some ⟨g, 0, none⟩) N c1) cl ∧ VBox wr b7 (.slice (some ⟨g, 0, none⟩) N c1) ∧ Hid (∀ i k, i < N → k < N → relL cl i k → Gen N T both P i k) ∧ Hid (∀ j x y, j < k → prs[j]? = some [(x : Int), (y : Int)] → relL cl x.toNat y.toNat) ∧ Below w.heap.size w wr) (fun kv _ => prs.length - (intOf kv).toNat)
  case atStart => exact ⟨0, _, Nat.zero_le _, rfl, idL_length N, own0, vb0, HS0, Lib.hid (fun j x y h => by omega), hbw⟩
  case round =>
    clear own0 vb0 HS0 hbw
    obtain ⟨k, cl, hk, rfl, hl, own, vb, hS, hPk, hb⟩ := hrel
    have l0 : (0 : Int) ≤ k := by omega
    by_cases hlt : k < prs.length
    · have l1 : (k : Int) < prs.length := by omega
      obtain ⟨pr, hpk⟩ := el hlt
      obtain ⟨x, y, e, hx, hy⟩ := HPR.out pr (List.mem_of_getElem? hpk)
      subst e
      obtain ⟨bp, op, rfl, gp⟩ := HP.out (ne_of_lt hlt)
      obtain ⟨Ar, cr, qr, sr, _⟩ := gp k _ hpk
      obtain ⟨br, or_, rfl, q1⟩ := sr (by simp)
      have r0 := bcell hb qr
      have r1 := bcell hb (q1 0 (x : Int) rfl)
      have r2 := bcell hb (q1 1 (y : Int) rfl)
      rw [Nat.add_zero] at r1
      have q7 := vb.cell
      have xx0 : (0 : Int) ≤ x := by omega
      have hm := fun W (hW : OwnInts W w.heap.size (.slice (some ⟨g, 0, none⟩) cl.length c1) cl) => merge_c g c1 w.heap.size cl x y W hW (by omega) (by omega) (by omega)
      rw [hl] at hm
      have HM := Lib.hid hm
      have hgxy : Gen N T both P x y := gen_of hx hy (by rw [HPP.out]; exact List.mem_of_getElem? hpk)
      have hS2 := sound_join (cl := cl) (x := y) (y := x) hl hS.out hy hx (gen_eqv.symm x y hx hy hgxy)
      have HS2 := Lib.hid hS2
      have HPK := Lib.hid hpk
      clear hm hS2 hgxy hpk gp qr sr q1
      go_wp2
      go_still_tail 7, (by kernel_rfl)
      change wpList _ _ _ _ _ wr.drew
      go_wp2_with fail
      refine (HM.out _ (own.below (bdr (Below.refl _ _)))).mono ?_
      rintro e w3 ⟨⟨t, rfl⟩, own3, hk3⟩
      have vb3 : VBox w3 b7 (.slice (some ⟨g, 0, none⟩) N c1) := (vb.below (bdr (Below.refl _ _))).keepS hk3 gne
      have hb3 : Below w.heap.size w w3 := hb.trans (Below.trans (bdrewN (Below.refl _ _) 1) (hk3.below (by show w.heap.size ≤ wr.heap.size; exact hb.size) (fun j hj => by show j ≠ g; omega)))
      clear own vb q7 r0 r1 r2
      go_wp2
      go_roundw
      case rel =>
        refine ⟨k + 1, joinL cl (cls cl y) (cls cl x), by omega, by go_num, by rw [joinL_length]; exact hl, own3, vb3, HS2, Lib.hid (fun j x' y' hj hp => ?_), hb3⟩
        obtain ⟨x2, y2, e2, hx2, hy2⟩ := HPR.out _ (List.mem_of_getElem? hp)
        simp only [List.cons.injEq, and_true] at e2
        by_cases e : j = k
        · subst e
          rw [HPK.out] at hp
          have hp' := Option.some.inj hp
          simp only [List.cons.injEq, and_true] at hp'
          rw [← hp'.1, ← hp'.2]
          exact join_has' (by omega) (by omega)
        · refine join_keeps (by omega) (by omega) (hPk.out j x' y' (by omega) hp)
      case measure => simp [intOf]; omega
    · have ek : prs.length = k := by omega
      have hp0 : ∀ x y, x < N → y < N → P x y → relL cl x y := fun x y _ _ h => by
        rw [HPP.out] at h
        obtain ⟨j, hj⟩ := List.getElem?_of_mem h
        have := hPk.out j x y (by have := (List.getElem?_eq_some_iff.1 hj).1; omega) hj
        simpa using this
      have HP0 := Lib.hid hp0
      have nlt : ¬ (k : Int) < prs.length := by omega
      clear hp0 hPk ek hlt hk
      go_wp2
      go_loopg [] N (fun m wr => ∃ cl : List Int, dist cl ≤ m ∧ cl.length = N ∧ OwnInts wr w.heap.size (.slice (some ⟨g, 0, none⟩) N c1) cl ∧ VBox wr b7 (.slice (some ⟨g, 0, none⟩) N c1) ∧ Hid (∀ i k, i < N → k < N → relL cl i k → Gen N T both P i k) ∧ Hid (∀ x y, x < N → y < N → P x y → relL cl x y) ∧ Below w.heap.size w wr)
      case atStart => exact ⟨cl, by rw [← hl]; exact dist_le cl, hl, own, vb, hS, HP0, hb⟩
      case round =>
        clear own vb hS HP0 hb hl
        obtain ⟨cl, hd, hl, own, vb, hS, hP0, hb⟩ := hrel
        have q7 := vb.cell
        have hst := HST.out wr (some ⟨g, 0, none⟩) c1 cl (HT.out.below hb) own.see' hl
        have HSTW := Lib.hid hst
        clear hst
        go_wp2_with fail
        refine HSTW.out.mono ?_
        rintro e w2 ⟨hb2, hpost⟩
        have hb' := btrans hb hb2
        have own2 := own.below hb2
        have vb2 := vb.below hb2
        have q72 := vb2.cell
        clear own vb q7
        rcases hpost with ⟨rfl, hstab⟩ | ⟨x, y, rfl, hx, hy, hne, hforced⟩
        · have hnum := numbered_c 113 #[.pointer (some ⟨b7, 0, none⟩)] _ (enters_of Tryz.func113 (by kernel_rfl) rfl) N w2 (by omega) (made1_same own2 hl vb2)
          rw [genL_of hS.out hP0.out hstab, ← HRES.out] at hnum
          have HN := Lib.hid hnum
          clear hnum hstab
          go_wp2_with fail
          refine HN.out.mono ?_
          rintro e w3 ⟨v3, rfl, own3, hb3⟩
          obtain ⟨A3, c3, rfl, _⟩ := own3.see
          go_wp2
          go_returns
          exact ⟨_, rfl, own3.mono hb'.size, btrans hb' hb3⟩
        · have hg := forced_gen hS.out hforced
          have hS2 := sound_join (cl := cl) (x := y) (y := x) hl hS.out hy hx (gen_eqv.symm x y hx hy hg)
          have hdj : dist (joinL cl (cls cl y) (cls cl x)) < dist cl := dist_join (mem_cls (by omega)) (mem_cls (by omega)) (fun e => hne (Eq.symm e))
          have HS2 := Lib.hid hS2
          have HD := Lib.hid hdj
          have HP2 := Lib.hid (show ∀ x' y', x' < N → y' < N → P x' y' → relL (joinL cl (cls cl y) (cls cl x)) x' y' from fun x' y' hx' hy' h => join_keeps (by omega) (by omega) (hP0.out x' y' hx' hy' h))
          have hm := merge_c g c1 w.heap.size cl x y w2 (by rw [hl]; exact own2) (by omega) (by omega) (by omega)
          rw [hl] at hm
          have HM := Lib.hid hm
          clear hm hdj hS2 hg hforced
          go_wp2_with fail
          refine HM.out.mono ?_
          rintro e w3 ⟨⟨t, rfl⟩, own3, hk3⟩
          have vb3 : VBox w3 b7 (.slice (some ⟨g, 0, none⟩) N c1) := vb2.keepS hk3 gne
          have hb3 : Below w.heap.size w w3 := hb'.trans (hk3.below (by exact hb'.size) (fun j hj => by show j ≠ g; omega))
          clear own2 vb2 q72
          go_wp2
          go_roundg (gk - 1)
          case measure => have := HD.out; omega
          case rel => exact ⟨_, by have := HD.out; omega, by rw [joinL_length]; exact hl, own3, vb3, HS2, HP2, hb3⟩
end
set_option maxHeartbeats 1000000 in
theorem l06Apart_c (n : Nat) (w : World) (hn : n ≤ 100000) :
    Calls Tryz.prog 51 #[.int .i64 (n : Int)] w fun e w' => ∃ v, e = .returned v ∧ OwnInts w' w.heap.size v (idL n) ∧ Below w.heap.size w w' := by
  have own0 : OwnInts (w.alloc (.cells #[] 2)) w.heap.size (.slice (some ⟨w.heap.size, 0, none⟩) 0 0) (idL 0) := own_mono (World.ownsRow_made (e := 2) (size := 1) w #[] 0 (Nat.le_refl _) (by decide) rfl) (Nat.le_refl _)
  have kk := kbelow w (.cells #[] 2)
  go_enter Tryz.func51, Tryz.ntmps51
  go_wp2
  go_loopw [4, 3] (fun i out wr => ∃ k : Nat, k ≤ n ∧ i = .int .i64 k ∧ OwnInts wr w.heap.size out (idL k) ∧ Below w.heap.size w wr) (fun i _ _ => n - (intOf i).toNat)
  case atStart => exact ⟨0, Nat.zero_le _, rfl, own0, kk⟩
  case round =>
    clear own0 kk
    obtain ⟨k, hk, rfl, hown, hb⟩ := hrel
    have hz := hb.size
    by_cases hlt : k < n
    · have l0 : (k : Int) < n := by omega
      have hl := idL_length k
      have HS := Lib.hid (idL_succ k)
      generalize idL k = xs at *
      go_wp2_with (at_builtin; refine wpList_push_int _ rfl (.tmp 11) (.tmp 13) rfl w.heap.size _ _ rfl (hown.below (by go_grown)) ⟨wr.heap.size, 0, none⟩ (k : Int) rfl (by simp [go_sem]) (by omega) (by go_size) ?_; intro v' w3 hown' hgrow hv')
      go_roundw
      case rel => exact ⟨k + 1, by omega, by go_num, by rw [HS.out]; exact hown', Below.grown (w := wr.alloc (.cells #[.int .i64 (k : Int)] 2)) (by go_grown) hgrow (by simp; omega) (fun j hj => (hown.lt j hj).1)⟩
      case measure => simp [intOf]; omega
    · obtain rfl : n = k := by omega
      go_wp2
      go_returns
      exact ⟨_, rfl, hown, hb⟩
end Go.Proofs.YtjepmbjneccagaaGreat
