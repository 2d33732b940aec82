/- 'ReachedSets', on both sides. No condition. -/
import Derived.Test.YthadgdmooacccaaSetsP
import Derived.Test.YthadgdmooacccaaSortS
import Derived.Test.YthadgdmooacccaaAlong
import Derived.Test.YthadgdmooacccaaPairs
namespace Go.Proofs.Ythadgdmooacccaa
set_option linter.unusedSimpArgs false
set_option linter.unusedVariables false
set_option linter.unusedSectionVars false
open Go.RowKit
set_option maxHeartbeats 4000000 in
theorem specReachedSets_l {A : Option Addr} {c : Nat} {ms : List Mp} {w : World} (h : SeeMaps w A ms) (hn : ms.length ≤ 2097152) (_ : NilOk A c) :
    Calls Try.prog 42 #[.slice A ms.length c] w (SSPost (RReachedSets ms) w) := by
  have L := l02Given_c A none c 0 ms [] w hn (by simp) h (fun h => absurd rfl h)
  by_cases hc : lcode ms [] = 0
  · have e1 : RReachedSets ms = (reachTo (gF (stB ms) ms.length (2 ^ (ms.headD Mp.z).p.toNat - 1)) (2 ^ (ms.headD Mp.z).p.toNat - 1), 0) := by unfold RReachedSets; rw [if_pos hc]
    rw [e1]
    have hr := rightL_of hc
    generalize (ms.headD Mp.z).p = n at *
    have hb := hr.bounds
    have hp2 : 2 ^ n.toNat - 1 < 2 ^ n.toNat := by have := Nat.two_pow_pos n.toNat; omega
    have h32 : 2 ^ n.toNat ≤ 2 ^ 5 := Nat.pow_le_pow_right (by decide) (by omega)
    have hfu := fun W hW => l05Full_c A c ms n W (h.below hW) hr
    have hW := fun W hW => l05Walk_c A c ms n _ W (h.below hW) hr hp2
    have hlt := gF_lt hr hp2
    have hlen := gF_length (univB hr hp2)
    generalize gF (stB ms) ms.length (2 ^ n.toNat - 1) = Q at hW hlt hlen ⊢
    generalize hfull : 2 ^ n.toNat - 1 = full at *
    have hf31 : full ≤ 31 := by omega
    have HW := Lib.hid hW
    have HFU := Lib.hid hfu
    have HL := Lib.hid hlt
    clear hW hlt h hr hfu hp2 e1 hfull h32
    go_enter Try.func42, Try.ntmps42
    go_wp2_with fail
    refine (valI L hc).mono ?_
    rintro e w2 ⟨rfl, hb2⟩
    go_wp2_with fail
    refine (HFU.out _ hb2).mono ?_
    rintro e w4 ⟨rfl, hb4⟩
    replace hb4 := btrans hb2 hb4
    go_wp2_with fail
    refine (HW.out _ hb4).mono ?_
    rintro e w1 ⟨vs, vw, ws, rfl, hos, how, hew, hwq, hb1⟩
    replace hb1 := btrans hb4 hb1
    obtain ⟨As, cs, rfl, hss⟩ := hos.see
    obtain ⟨Aw, cw, rfl, gw⟩ := how.at_
    have SS := Lib.hid (show ∀ W, Below w1.heap.size w1 W → SeeInts W As (Q.map fun m => (m.1 : Int)) from fun W hW => hss.below hW)
    rw [List.length_map]
    clear gw hwq hew how hos hb4 hb2 L hss
    go_wp2
    go_loopw [8, 7] (fun i out wr => ∃ k : Nat, k ≤ full ∧ i = .int .i64 ((k : Int) + 1) ∧ OwnSS wr w1.heap.size out (reachTo Q k) ∧ Below w1.heap.size w1 wr) (fun i _ _ => full + 1 - (intOf i).toNat)
    case atStart => exact ⟨0, Nat.zero_le _, rfl, by simpa [reachTo] using (⟨[], ⟨rfl, .inr ⟨w1.heap.size, 0, #[], rfl, Nat.le_refl _, heap_alloc_new w1 _, Nat.le_refl _, by decide, rfl, rfl⟩⟩, ElsOk.nil _ _, List.Pairwise.nil, rfl⟩ : OwnSS (w1.alloc (.cells #[] 23)) w1.heap.size (.slice (some ⟨w1.heap.size, 0, none⟩) 0 0) []), kbelow _ _⟩
    case round =>
      obtain ⟨k, hk, rfl, ho, hbr⟩ := hrel
      obtain ⟨Ao, co, rfl, _⟩ := ho.see
      go_wp2_with fail
      refine (HFU.out _ (btrans hb1 hbr)).mono ?_
      rintro e w5 ⟨rfl, hb5⟩
      replace ho := ho.below hb5
      replace hbr := btrans hbr hb5
      clear hb5
      by_cases hlt : k < full
      · have l0 : (k : Int) + 1 ≤ full := by omega
        have HAS := Lib.hid (reachTo_succ Q k)
        have hal := reachTo_len Q k
        have h25 : k * Q.length ≤ 31 * 1000 := Nat.mul_le_mul (by omega) hlen
        have hl25 : (reachTo Q k).length ≤ 31000 := by omega
        generalize reachTo Q k = rows at *
        clear hal h25
        go_wp2
        go_loopw [9, 7] (fun i out wr => ∃ j : Nat, j ≤ Q.length ∧ i = .int .i64 j ∧ OwnSS wr w1.heap.size out (rows ++ reachRow Q (k + 1) j) ∧ Below w1.heap.size w1 wr) (fun i _ _ => Q.length - (intOf i).toNat)
        case atStart => exact ⟨0, Nat.zero_le _, rfl, by rw [reachRow_zero, List.append_nil]; exact ho, hbr⟩
        case round =>
          clear ho hbr
          obtain ⟨j, hj, rfl, ho, hbr⟩ := hrel
          have hrl := reachRow_len Q (k + 1) j
          obtain ⟨ws, h1, h2, h3, h4⟩ := ho.ex
          obtain ⟨Ao, co, rfl, _⟩ := h1.at_
          by_cases hjl : j < Q.length
          · obtain ⟨m, hm⟩ := el hjl
            have m32 := HL.out m (List.mem_of_getElem? hm)
            obtain ⟨bs0, os0, xs0, rfl, hxs0, qs0⟩ := (SS.out _ hbr).at_ (k := j) (by simpa using hjl)
            rw [List.getElem?_map, hm] at hxs0
            have hxe : xs0 = (m.1 : Int) := (Option.some.inj hxs0).symm
            subst hxe
            have l0' : (0 : Int) ≤ j := by omega
            have l1 : (j : Int) < Q.length := by omega
            have HRS := Lib.hid (reachRow_succ (k + 1) hm)
            have hwl : ws.length ≤ 40000 := by
              have := congrArg List.length h4
              rw [List.length_map, List.length_append] at this
              omega
            have H4 := Lib.hid h4
            have hz := hbr.size
            by_cases he : m.1 = k + 1
            · have dq : ((m.1 : Int) == (k : Int) + 1) = true := by rw [he]; simp
              have HE := Lib.hid he
              have hpt := l01Points_c (k + 1) wr (by omega)
              rw [show (((k + 1 : Nat)) : Int) = (k : Int) + 1 by omega] at hpt
              have HPT := Lib.hid hpt
              clear hm ho hrl h4 hpt he m32
              generalize (m.1 : Int) = mi at *
              go_wp2_with fail
              refine HPT.out.mono ?_
              rintro e w7 ⟨v7, rfl, own7, hb7⟩
              have hpl := pts_len (k + 1)
              generalize ptsOf (k + 1) = row at *
              obtain ⟨Ar, cr, rfl, _⟩ := own7.see
              have h17 := h1.below hb7
              have hbx : Below w7.heap.size w7 (w7.alloc (.cells #[.slice Ar row.length cr] 23)) := by go_grown
              have hz7 := hb7.size
              go_wp2_with (at_builtin; refine wpList_push_sl _ rfl (.tmp 41) (.tmp 44) rfl w1.heap.size _ ws rfl (h17.below hbx) ⟨w7.heap.size, 0, none⟩ ⟨Ar, cr, row⟩ rfl (by simp [go_sem]) (by omega) (by simp; omega) ?_; intro v8 w8 hown8 hgrow8 hv8; have hss := ss_push (s := ⟨Ar, cr, row⟩) h1 h2 h3 H4.out (btrans hb7 hbx) ((own7.mono hz).below hbx) (fun i hi => (own7.lt i hi).1) hgrow8 hown8; obtain ⟨A8, c8, rfl, _⟩ := hown8.at_)
              go_roundw
              case rel =>
                refine ⟨j + 1, by omega, by go_num, ?_, (btrans hbr (btrans hb7 hbx)).grown hgrow8 (by simp; omega) (fun i hi => (h17.lt i hi).1)⟩
                rw [HRS.out, if_pos HE.out, ← List.append_assoc]
                simp only [List.length_append, List.length_cons, List.length_nil, Nat.zero_add] at hss
                exact hss
              case measure => simp [intOf]; omega
            · have dq : ((m.1 : Int) == (k : Int) + 1) = false := by rw [beq_eq_false_iff_ne]; omega
              have HE := Lib.hid he
              clear hm he h4
              generalize (m.1 : Int) = mi at *
              go_wp2
              go_roundw
              case rel => exact ⟨j + 1, by omega, by go_num, by rw [HRS.out, if_neg HE.out, List.append_nil]; exact ho, hbr⟩
              case measure => simp [intOf]; omega
          · obtain rfl : j = Q.length := by omega
            clear h1 h2 h3 h4
            go_wp2
            go_roundw
            case rel => exact ⟨k + 1, by omega, by go_num, by rw [HAS.out]; exact ho, hbr⟩
            case measure => simp [intOf]; omega
      · obtain rfl : k = full := by omega
        have l0 : ¬ (k : Int) + 1 ≤ k := by omega
        have hz1 := hb1.size
        go_wp2
        go_returns
        exact ⟨_, rfl, ho.mono hz1, btrans hb1 hbr⟩
  · have e1 : RReachedSets ms = ([], lcode ms []) := by unfold RReachedSets; rw [if_neg hc]
    rw [e1]
    have d : (lcode ms [] != 0) = true := by simpa using hc
    clear e1 h
    go_enter Try.func42, Try.ntmps42
    go_wp2_with (go_at_call 72; go_must (refine L.mono ?_); rintro e w2 ⟨rfl, hb2⟩)
    go_returns
    exact SSPost.nil hb2
set_option maxHeartbeats 4000000 in
set_option maxRecDepth 100000 in
theorem implReachedSets_l {A : Option Addr} {c : Nat} {ms : List Mp} {w : World} (h : SeeMaps w A ms) (hn : ms.length ≤ 2097152) (hA : NilOk A c) :
    Calls Try.prog 43 #[.slice A ms.length c] w (SSPost (RReachedSets ms) w) := by
  have L := listCode_c A none c 0 ms [] w hn (by simp) h (fun h => absurd rfl h) hA (fun _ => rfl)
  by_cases hc : lcode ms [] = 0
  · have e1 : RReachedSets ms = (reachTo (gF (stB ms) ms.length (2 ^ (ms.headD Mp.z).p.toNat - 1)) (2 ^ (ms.headD Mp.z).p.toNat - 1), 0) := by unfold RReachedSets; rw [if_pos hc]
    rw [e1]
    have hr := rightL_of hc
    generalize (ms.headD Mp.z).p = n at *
    have hb := hr.bounds
    obtain ⟨b0, o0, m0, rfl, hm0, g0⟩ := h.at_ hr.pos
    have hmp : m0.p = n := (hr.all m0 (List.mem_of_getElem? hm0)).2
    have p0 := g0.h0
    rw [hmp, Nat.zero_mul, Nat.add_zero] at p0
    have lpos := hr.pos
    have h0 : 0 ≤ n := by omega
    have hal := ptsN_AL h0
    have hW := fun W hW F fc base hba hF hFl => reachedSetsO_c (A := some ⟨b0, o0, none⟩) (F := F) (c := c) (fc := fc) (base := base) (start := ptsN n.toNat) (n := n) W hba (h.below hW) hr (ptsN_AL h0) hF hFl
    have hlen := gF_length (univI hr hal)
    have hAL := gF_AL hr hal
    have huq := fun us ws hw hp ha => reach_uniq hr (us := us) (ws := ws) hw hp ha
    have hne : gF (stp imgL ms) ms.length (ptsN n.toNat) ≠ [] := fun e => by
      obtain ⟨m, hm, _⟩ := gF_all (univI hr hal) hr.six 0 [] (Nat.le_refl _) (fun j hj => by cases hj)
      rw [e] at hm
      cases hm
    generalize gF (stp imgL ms) ms.length (ptsN n.toNat) = Q at hW hlen hAL huq hne
    generalize reachTo (gF (stB ms) ms.length (2 ^ n.toNat - 1)) (2 ^ n.toNat - 1) = res at huq ⊢
    have HW := Lib.hid hW
    have HUQ := Lib.hid huq
    have HAL := Lib.hid hAL
    clear hW h hr hm0 g0 hmp e1 huq hAL
    go_enter Try.func43, Try.ntmps43
    go_wp2_with fail
    refine (valI L hc).mono ?_
    rintro e w2 ⟨rfl, hb2⟩
    have p2 := bcell hb2 p0
    go_wp2_with fail
    refine (points_c n _ h0 hb.2).mono ?_
    rintro e w4 ⟨v1, rfl, hown1, hb4⟩
    have hz2 := hb2.size
    replace hb4 := btrans hb2 hb4
    obtain ⟨A1, c1, rfl, hs1⟩ := hown1.see
    have hin : InS (fun k => k < w4.heap.size) A1 := fun a ha => (own_block hown1 a ha).2
    go_wp2_with fail
    refine (HW.out _ hb4 A1 c1 w.heap.size hb4.size (hown1.mono hz2) hin).mono ?_
    rintro e w1 ⟨v, rfl, hss, hb1⟩
    replace hb1 := btrans hb4 hb1
    obtain ⟨ws, h1, h2, h3, h4⟩ := hss.ex
    obtain ⟨Aw, cw, rfl, gw⟩ := h1.at_
    have hws : ws.length = Q.length := by have := congrArg List.length h4; simpa using this
    have hwne : ws ≠ [] := fun e => hne (List.eq_nil_of_length_eq_zero (by rw [← hws, e]; rfl))
    obtain ⟨s0, hs0⟩ := el (xs := ws) (k := 0) (List.length_pos_iff.2 hwne)
    obtain ⟨g, rfl, _⟩ := gw 0 s0 hs0
    have hC : ∀ s ∈ ws, AL n s.xs := fun s hs => by
      have : s.xs ∈ Q.map Prod.fst := by rw [← h4]; exact List.mem_map_of_mem hs
      obtain ⟨m, hm, e⟩ := List.mem_map.1 this
      rw [← e]
      exact HAL.out m hm
    have hSO' := SortFuncB_c w1 w.heap.size g cw ws h1 h2 (by omega) hC hb.2 hwne
    have HSO := Lib.hid hSO'
    clear hSO'
    have H2 := Lib.hid h2
    have H3 := Lib.hid h3
    have H4 := Lib.hid h4
    have hgb := (h1.lt g rfl).1
    have HNE := Lib.hid (fun (s : Sl) (hs : s ∈ ws) (k : Nat) (hk : s.v.ownBlock = some k) => (show k ≠ g from fun e => own_ne (h2 s hs) h1 (by decide) k hk (by rw [e]; rfl)))
    clear hws hss h1 h2 h3 h4 gw hs0 hC hb4 hb2 p2 L hs1 hin hown1 hne hwne
    go_wp2_with fail
    refine HSO.out.mono ?_
    rintro e w6 ⟨rfl, us, hp, ha, h1', hk⟩
    have hb6 : Below w.heap.size w w6 := hb1.trans (hk.below hb1.size fun k hk => by omega)
    have HF := Lib.hid (show OwnSS w6 w.heap.size (.slice (some ⟨g, 0, none⟩) ws.length cw) res from ⟨us, h1', fun s hs => (H2.out s (hp.mem_iff.1 hs)).keep (HNE.out s (hp.mem_iff.1 hs)) hk, (hp.map Sl.v).symm.pairwise H3.out DisV.symm, HUQ.out _ _ H4.out (hp.map Sl.xs) (by rw [List.pairwise_map]; exact ha)⟩)
    clear hp ha h1'
    go_wp2
    go_returns
    exact ⟨_, rfl, HF.out, hb6⟩
  · have e1 : RReachedSets ms = ([], lcode ms []) := by unfold RReachedSets; rw [if_neg hc]
    rw [e1]
    have d : (lcode ms [] != 0) = true := by simpa using hc
    clear e1 h
    go_enter Try.func43, Try.ntmps43
    go_wp2_with (go_at_call 75; go_must (refine L.mono ?_); rintro e w2 ⟨rfl, hb2⟩)
    go_returns
    exact SSPost.nil hb2
end Go.Proofs.Ythadgdmooacccaa
