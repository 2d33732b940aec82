/- 'QuotientTable', the reference's side. No condition. -/
import Derived.Test.YtjepmbjneccagaaQuotI
namespace Go.Proofs.Ytjepmbjneccagaa
set_option linter.unusedSimpArgs false
set_option linter.unusedVariables false
set_option linter.unusedSectionVars false
open Go.RowKit
/-- a number of a row of rows, turned -/
theorem OwnSS.putRow {w : World} {base b n c : Nat} {vals : List (List Int)} (h : OwnSS w base (.slice (some ⟨b, 0, none⟩) n c) vals) {i : Nat} {row : List Int} (hi : vals[i]? = some row) (h0 : 0 < row.length) :
    ∃ gr cr, w.cell? ⟨b, i, none⟩ = some (.slice (some ⟨gr, 0, none⟩) row.length cr) ∧ (∀ k, w.frozen? ⟨gr, k, none⟩ = false) ∧ (∀ k, k < row.length → w.cell? ⟨gr, k, none⟩ = some (.int .i64 (cls row k))) ∧ base ≤ gr ∧
      ∀ (k : Nat) (x : Int), OwnSS (w.setCell ⟨gr, k, none⟩ (.int .i64 x)) base (.slice (some ⟨b, 0, none⟩) n c) (vals.set i (row.set k x)) := by
  obtain ⟨ws, h1, h2, h3, h4⟩ := h.ex
  cases hs : ws[i]? with
  | none => rw [← h4, List.getElem?_map, hs] at hi; cases hi
  | some s =>
    have er : s.xs = row := by
      rw [← h4, List.getElem?_map, hs] at hi
      exact Option.some.inj hi
    subst er
    have es := h2 s (List.mem_of_getElem? hs)
    have qs := h1.cell hs
    obtain ⟨As, cs, xs⟩ := s
    unfold Sl.v at es
    simp only at es h0 qs ⊢
    obtain ⟨gr, o, e, _⟩ := (OwnInts.see' es).cls h0
    subst e
    have eo : o = 0 := by
      rcases es.2 with ⟨h5, _⟩ | ⟨_, _, _, h5, _⟩
      · simp at h5
      · simp at h5; exact h5.1.2
    subst eo
    have eo : OwnInts w base (.slice (some ⟨gr, 0, none⟩) xs.length cs) xs := es
    refine ⟨gr, cs, qs, fun k => own_free eo k, fun k hk => ?_, (eo.lt gr rfl).1, fun k x => ?_⟩
    · obtain ⟨b', o', e', g'⟩ := (OwnInts.see' eo).cls h0
      simp only [Option.some.injEq, Addr.mk.injEq, and_true] at e'
      obtain ⟨rfl, rfl⟩ := e'
      have := g' k hk
      rwa [Nat.zero_add] at this
    · have hk2 : Keep (fun j => j ≠ gr) w (w.setCell ⟨gr, k, none⟩ (.int .i64 x)) := Keep.set (Keep.refl _ w) (a := ⟨gr, k, none⟩) (by simp) _
      have hv2 : (⟨some ⟨gr, 0, none⟩, cs, xs.set k x⟩ : Sl).v = (⟨some ⟨gr, 0, none⟩, cs, xs⟩ : Sl).v := by simp [Sl.v]
      have hmv : (ws.set i ⟨some ⟨gr, 0, none⟩, cs, xs.set k x⟩).map Sl.v = ws.map Sl.v := by
        rw [List.map_set, hv2]
        refine List.ext_getElem? fun j => ?_
        by_cases e : i = j
        · subst e
          rw [List.getElem?_set_self (by simpa using (List.getElem?_eq_some_iff.1 hs).1), List.getElem?_map, hs]
          rfl
        · rw [List.getElem?_set_ne e]
      refine ⟨ws.set i ⟨some ⟨gr, 0, none⟩, cs, xs.set k x⟩, ?_, fun t ht => ?_, by rw [hmv]; exact h3, by rw [List.map_set, h4]⟩
      · unfold OwnSls
        rw [hmv, List.length_set]
        exact OwnSls.keep h1 (S := fun j => j ≠ gr) (fun j hj e => own_ne eo h1 (by decide) gr rfl (by rw [hj, e])) hk2
      · obtain ⟨j, hj⟩ := List.getElem?_of_mem ht
        by_cases e : i = j
        · subst e
          rw [List.getElem?_set_self (List.getElem?_eq_some_iff.1 hs).1] at hj
          obtain rfl := Option.some.inj hj
          have := eo.put k x
          unfold Sl.v
          simp only [List.length_set]
          exact this
        · rw [List.getElem?_set_ne e] at hj
          refine (h2 t (List.mem_of_getElem? hj)).keep (S := fun j => j ≠ gr) (fun j' hj' e2 => ?_) hk2
          exact disV_at h3 hs hj e gr (by simp [Sl.v, Value.ownBlock]) (by rw [hj', e2])
/-- the entries that are written already -/
structure QI (cl : List Int) (T : Nat → Nat → Nat) (N q a b : Nat) (vals : List (List Int)) : Prop where
  len : vals.length = q
  row : ∀ (i : Nat) (r : List Int), vals[i]? = some r → r.length = q
  ent : ∀ a' b', a' < N → b' < N → (a' < a ∨ (a' = a ∧ b' < b)) → ∃ r : List Int, vals[(cls cl a').toNat]? = some r ∧ r[(cls cl b').toNat]? = some (cls cl (T a' b'))
theorem QI.start (cl : List Int) (T : Nat → Nat → Nat) (N q : Nat) : QI cl T N q 0 0 (List.replicate q (List.replicate q 0)) :=
  ⟨by simp, fun i r hr => (by
    rw [List.getElem?_replicate] at hr
    split at hr
    · obtain rfl := Option.some.inj hr
      simp
    · cases hr), fun a' b' _ _ h => absurd h (by omega)⟩
theorem QI.next {cl : List Int} {T : Nat → Nat → Nat} {N q a : Nat} {vals : List (List Int)} (h : QI cl T N q a N vals) : QI cl T N q (a + 1) 0 vals :=
  ⟨h.len, h.row, fun a' b' ha hb h' => h.ent a' b' ha hb (by omega)⟩
theorem QI.put {cl : List Int} {T : Nat → Nat → Nat} {N q a b : Nat} {vals : List (List Int)} {r : List Int} (h : QI cl T N q a b vals) (ha : a < N) (hb : b < N) (hst : StabN N T true (relL cl)) (hcl : ∀ i, i < N → 0 ≤ cls cl i ∧ cls cl i < q)
    (hr : vals[(cls cl a).toNat]? = some r) : QI cl T N q a (b + 1) (vals.set (cls cl a).toNat (r.set (cls cl b).toNat (cls cl (T a b)))) := by
  have hrl := h.row _ r hr
  have hi := (List.getElem?_eq_some_iff.1 hr).1
  have cb := hcl b hb
  refine ⟨by rw [List.length_set]; exact h.len, fun i r' hr' => ?_, fun a' b' ha' hb' hp => ?_⟩
  · by_cases e : (cls cl a).toNat = i
    · subst e
      rw [List.getElem?_set_self hi] at hr'
      obtain rfl := Option.some.inj hr'
      rw [List.length_set]
      exact hrl
    · rw [List.getElem?_set_ne e] at hr'
      exact h.row i r' hr'
  · have ca := hcl a ha
    have ca' := hcl a' ha'
    have cb' := hcl b' hb'
    by_cases e1 : (cls cl a).toNat = (cls cl a').toNat
    · have e1' : cls cl a' = cls cl a := by omega
      rw [← e1, List.getElem?_set_self hi]
      refine ⟨_, rfl, ?_⟩
      by_cases e2 : (cls cl b).toNat = (cls cl b').toNat
      · have e2' : cls cl b' = cls cl b := by omega
        rw [← e2, List.getElem?_set_self (by omega)]
        have s1 := (hst a' a ha' ha e1' b' hb').1
        have s2 := (hst b' b hb' hb e2' a ha).2 rfl
        have s3 : cls cl (T a' b') = cls cl (T a b) := Eq.trans s1 s2
        rw [s3]
      · rw [List.getElem?_set_ne e2]
        have hne : ¬ (a' = a ∧ b' = b) := fun ⟨_, e⟩ => e2 (by rw [e])
        obtain ⟨r', hr', hx⟩ := h.ent a' b' ha' hb' (by omega)
        rw [← e1, hr] at hr'
        obtain rfl := Option.some.inj hr'
        exact hx
    · rw [List.getElem?_set_ne e1]
      have hne : a' ≠ a := fun e => e1 (by rw [e])
      exact h.ent a' b' ha' hb' (by omega)
theorem QI.fin {cl : List Int} {T : Nat → Nat → Nat} {N q : Nat} {vals : List (List Int)} (h : QI cl T N q N 0 vals) (hl : cl.length = N) (hx : CanTo cl N = some (q : Int)) : vals = qTab cl T q q := by
  refine List.ext_getElem? fun i => ?_
  by_cases hi : i < q
  · have ei := fx_spec (v := i) hl hx (by omega)
    have hq : (qTab cl T q q)[i]? = some (qRow cl T i q) := by unfold qTab; rw [List.getElem?_map, List.getElem?_range hi]; rfl
    rw [hq]
    obtain ⟨r, hr⟩ := el (xs := vals) (k := i) (by rw [h.len]; exact hi)
    rw [hr]
    congr 1
    refine List.ext_getElem? fun k => ?_
    by_cases hk : k < q
    · have ek := fx_spec (v := k) hl hx (by omega)
      have hq2 : (qRow cl T i q)[k]? = some (qAt cl T i k) := by unfold qRow; rw [List.getElem?_map, List.getElem?_range hk]; rfl
      obtain ⟨r', hr', hx'⟩ := h.ent _ _ ei.2.1 ek.2.1 (.inl ei.2.1)
      rw [ei.2.2, Int.toNat_natCast, hr] at hr'
      obtain rfl := Option.some.inj hr'
      rw [ek.2.2, Int.toNat_natCast] at hx'
      rw [hx', hq2]
      rfl
    · rw [List.getElem?_eq_none (by rw [h.row i r hr]; omega), List.getElem?_eq_none (by rw [qRow_length]; omega)]
  · rw [List.getElem?_eq_none (by rw [h.len]; omega), List.getElem?_eq_none (by rw [qTab_length]; omega)]
theorem OwnSS.blk {w : World} {base : Nat} {v : Value} {vals : List (List Int)} (h : OwnSS w base v vals) (h0 : 0 < vals.length) : ∃ g co, v = .slice (some ⟨g, 0, none⟩) vals.length co := by
  obtain ⟨ws, h1, h2, h3, h4⟩ := h.ex
  obtain ⟨A', c', e, g⟩ := h1.at_
  have hl : ws.length = vals.length := by rw [← h4, List.length_map]
  obtain ⟨s0, hs0⟩ := el (xs := ws) (k := 0) (by omega)
  obtain ⟨b, rfl, _⟩ := g 0 s0 hs0
  exact ⟨b, c', by rw [e, hl]⟩
theorem OwnSS.empty (w : World) : OwnSS (w.alloc (.cells #[] 23)) w.heap.size (.slice (some ⟨w.heap.size, 0, none⟩) 0 0) [] :=
  ⟨[], World.ownsRow_made w #[] 0 (Nat.le_refl _) (by decide) rfl, ElsOk.nil _ _, List.Pairwise.nil, rfl⟩
set_option maxHeartbeats 8000000 in
set_option maxRecDepth 100000 in
theorem specQuotientTable_l {A B : Option Addr} {c d : Nat} {ms : List Mp} {cl : List Int} {w : World} (h : SeeMaps w A ms) (hn : ms.length ≤ 2097152) (hA : NilOk A c) (ha : SeeInts w B cl) (hna : cl.length ≤ 2097152) (hB : NilOk B d) :
    Calls Try.prog 32 #[.slice A ms.length c, .slice B cl.length d] w fun e w' => ∃ v, e = .returned (.tuple #[v, .int .i64 (RQuotientTable ms cl).2]) ∧ OwnSS w' w.heap.size v (RQuotientTable ms cl).1 ∧ Below w.heap.size w w' := by
  obtain ⟨ii, hii, hz0, hz1, hz2⟩ := info_parts info_int
  obtain ⟨w0, hw0⟩ : ∃ w0, w0 = w.alloc (.cells #[.slice B cl.length d] 23) := ⟨_, rfl⟩
  have k0 : Below w.heap.size w w0 := by rw [hw0]; exact kbelow w _
  have q0 : w0.cell? ⟨w.heap.size, 0, none⟩ = some (.slice B cl.length d) := by rw [hw0]; simp [go_sem]
  have st := see_tab1 q0 (ha.below k0) hB
  have hcs := l06Classes_c (A' := some ⟨w.heap.size, 0, none⟩) (c' := 1) (c := c) (lists := [cl]) (h.below k0) hn st (by simp) (fun x hx => by simp at hx; rcases hx with rfl; exact hna)
  have HCS := Lib.hid hcs
  obtain ⟨r, hr⟩ : ∃ r, r = RQuotientTable ms cl := ⟨_, rfl⟩
  rw [← hr]
  have HR := Lib.hid hr
  have SA := Lib.hid (ha.below k0)
  have KK := Lib.hid k0
  have NB := Lib.hid hB
  have BC := Lib.hid (show bothC ms [cl] = if pcC 30 ms = 0 then (if canB cl (elsOf ms).length = true then (if stabB (elsOf ms).length (mpl (elsOf ms)) true cl = true then 0 else 5) else 2) else pcC 30 ms by
    unfold bothC; simp only [List.all_cons, List.all_nil, Bool.and_true])
  clear hcs h hr ha hA hB st q0 k0
  go_enter Try.func32, Try.ntmps32
  go_wp2_with fail
  rw [← hw0]
  clear hw0
  refine HCS.out.mono ?_
  rintro e w1 ⟨hb1, hpost⟩
  have HB1 := Lib.hid (btrans KK.out hb1)
  rcases hpost with ⟨hc, rfl⟩ | ⟨hc, hall, rfl⟩ | ⟨hc, hall, v, rfl, own⟩
  · have hbc : bothC ms [cl] = pcC 30 ms := by rw [BC.out, if_neg hc]
    have E1 := Lib.hid (show r = ([], pcC 30 ms) by rw [HR.out]; unfold RQuotientTable; rw [hbc, if_neg hc])
    have d1 : (pcC 30 ms != 0) = true := bne_iff_ne.2 hc
    have d2 : (pcC 30 ms == 0) = false := beq_eq_false_iff_ne.2 hc
    clear hc hbc
    go_wp2
    go_returns
    rw [E1.out]
    exact ⟨_, rfl, OwnSS.nil _ _, HB1.out⟩
  · have hcan : canB cl (elsOf ms).length = false := by simpa using hall
    have hbc : bothC ms [cl] = 2 := by rw [BC.out, if_pos hc, hcan]; rfl
    have E1 := Lib.hid (show r = ([], 2) by rw [HR.out]; unfold RQuotientTable; rw [hbc, if_neg (by decide)])
    clear hc hall hcan hbc
    go_wp2
    go_returns
    rw [E1.out]
    exact ⟨_, rfl, OwnSS.nil _ _, HB1.out⟩
  · have hcan : canB cl (elsOf ms).length = true := by simpa using hall
    have htr := TabR.of hc
    have hok := htr.tab
    have hpos := htr.pos
    have hle := htr.le
    have hca := (canB_iff _ _).1 hcan
    have BC2 := Lib.hid (show bothC ms [cl] = if stabB (elsOf ms).length (mpl (elsOf ms)) true cl = true then 0 else 5 by rw [BC.out, if_pos hc, if_pos hcan])
    obtain ⟨A1, c1, rfl, _⟩ := own.see
    have htab := own.tab
    rw [tabOf_length]
    clear hc own hall
    have HR2 := Lib.hid (show r = if bothC ms [cl] = 0 then (qTab cl (mpl (elsOf ms)) (qN cl (elsOf ms).length) (qN cl (elsOf ms).length), 0) else ([], bothC ms [cl]) from HR.out)
    generalize bothC ms [cl] = bc at *
    clear HR BC
    generalize tabOf (elsOf ms) = rows at *
    generalize mpl (elsOf ms) = T at *
    generalize (elsOf ms).length = N at *
    have P := Lib.hid (closedEq_c (Av := A1) (cv := c1) (A' := B) (c' := d) hok hpos (by omega) hcan NB.out)
    have hst : stabB N T true cl = true → StabN N T true (relL cl) := fun h3 => Classical.byContradiction fun hn => by rw [stabB_false hn] at h3; cases h3
    generalize stabB N T true cl = sb at *
    generalize genL N T true (relL cl) = G at *
    have HC1 := Lib.hid (P.out.1 w1 htab (SA.out.below hb1))
    have HST := Lib.hid hst
    clear hst
    cases sb
    · have E2 := Lib.hid (show r = ([], 5) by rw [HR2.out, BC2.out]; rfl)
      go_wp2_with fail
      refine HC1.out.mono ?_
      rintro e w2 ⟨v2, rfl, own2, hb2⟩
      obtain ⟨A2, c2, rfl, s2⟩ := own2.see
      have HE2 := Lib.hid (P.out.2 _ A2 c2 s2 (SA.out.below (btrans hb1 hb2)))
      clear s2 own2
      go_wp2_with fail
      refine HE2.out.mono ?_
      rintro e w3 ⟨rfl, hb3⟩
      go_wp2
      go_returns
      rw [E2.out]
      exact ⟨_, rfl, OwnSS.nil _ _, btrans HB1.out (btrans hb2 hb3)⟩
    · obtain ⟨hcx, hqN, hq0⟩ := qN_spec hca hpos
      have E2 := Lib.hid (show r = (qTab cl T (qN cl N) (qN cl N), 0) by rw [HR2.out, BC2.out]; rfl)
      have hla := hca.1
      have STB := Lib.hid (HST.out rfl)
      have FIN := Lib.hid (fun vals (h : QI cl T N (qN cl N) N 0 vals) => h.fin hla hcx)
      have CLT := Lib.hid (show ∀ i, i < N → 0 ≤ cls cl i ∧ cls cl i < qN cl N from fun i hi => (canTo_spec hcx).2.2.1 i hi)
      have HNB := Lib.hid (fun W (hW : Below w1.heap.size w1 W) => l06Number_c B d N cl (qN cl N) W ((SA.out.below hb1).below hW) hca hcx hpos (by omega))
      have LT := Lib.hid hok.lt
      obtain ⟨bt, ot, rfl, ta⟩ := htab.at_ hok hpos
      have TA := Lib.hid ta
      have HE := Lib.hid (fun W A2 c2 (hW : Below w1.heap.size w1 W) (s : SeeInts W A2 G) => P.out.2 W A2 c2 s ((SA.out.below hb1).below hW))
      obtain ⟨bC, oC, rfl, gc⟩ := (SA.out.below hb1).cls (by rw [hla]; exact hpos)
      have HNB2 := HNB.out
      rw [hla] at gc HE HC1 ⊢
      have GC := Lib.hid gc
      generalize qN cl N = q at *
      clear hok htab ta gc hca hcan hcx hla HNB2 P hna SA HCS
      go_wp2_with fail
      refine HC1.out.mono ?_
      rintro e w2 ⟨v2, rfl, own2, hb2⟩
      obtain ⟨A2, c2, rfl, s2⟩ := own2.see
      have HE2 := Lib.hid (HE.out w2 A2 c2 hb2 s2)
      clear s2 own2
      go_wp2_with fail
      refine HE2.out.mono ?_
      rintro e w3 ⟨rfl, hb3⟩
      have hb23 := btrans hb2 hb3
      have HN3 := Lib.hid (HNB.out w3 hb23)
      go_wp2_with fail
      refine HN3.out.mono ?_
      rintro e w4 ⟨rfl, hb4⟩
      have hb14 := btrans hb23 hb4
      have own0 := OwnSS.empty w4
      have kk0 := btrans hb14 (kbelow w4 (.cells #[] 23))
      have z4 := hb14.size
      go_wp2
      go_loopw [10, 9] (fun iv out wr => ∃ i : Nat, i ≤ q ∧ iv = .int .i64 i ∧ OwnSS wr w4.heap.size out (List.replicate i (List.replicate q 0)) ∧ Below w1.heap.size w1 wr ∧ w4.heap.size ≤ wr.heap.size) (fun iv _ _ => q - (intOf iv).toNat)
      case atStart => exact ⟨0, Nat.zero_le _, rfl, own0, kk0, by simp⟩
      case round =>
        clear own0 kk0
        obtain ⟨i, hi, rfl, own, hb, zo⟩ := hrel
        have i0 : (0 : Int) ≤ i := by omega
        by_cases hilt : i < q
        · have i1 : (i : Int) < q := by omega
          obtain ⟨ws, h1, h2, h3, h4⟩ := own.ex
          have hwl : ws.length = i := by
            have := congrArg List.length h4
            rw [List.length_map, List.length_replicate] at this
            exact this
          obtain ⟨Ao, co, rfl, _⟩ := h1.at_
          have HWL := Lib.hid hwl
          have HWS := Lib.hid (⟨h2, h3, h4⟩ : ElsOk wr w4.heap.size ws ∧ (ws.map Sl.v).Pairwise DisV ∧ ws.map Sl.xs = List.replicate i (List.replicate q 0))
          have zb := hb.size
          have HSU := Lib.hid (show List.replicate (i + 1) (List.replicate q (0 : Int)) = List.replicate i (List.replicate q 0) ++ [List.replicate q 0] from List.replicate_succ')
          clear h2 h3 h4 own hwl
          obtain ⟨W0, rfl⟩ : ∃ W0, W0 = wr := ⟨_, rfl⟩
          go_wp2_with (at_make; refine wpList_make_full _ rfl _ _ 23 rfl W0.heap.size 2 ii _ 1 Try.underlying23 hii hz0 hz1 _ _ _ _ q rfl rfl rfl rfl (by rw [hz2]; omega) (by unfold maxLen; omega) (Nat.le_refl _) ?_)
          intro w6 hown6 hg6
          have hb6 : Below W0.heap.size W0 w6 := (Below.refl _ _).grown hg6 (Nat.le_refl _) (fun k h => by cases h)
          have own6 : OwnInts w6 W0.heap.size (.slice (some ⟨W0.heap.size, 0, none⟩) q q) (List.replicate q 0) := OwnInts.made (n := q) (by simpa using hown6)
          have kk6 := kbelow w6 (.cells #[.slice (some ⟨W0.heap.size, 0, none⟩) q q] 23)
          have hbx := btrans hb6 kk6
          have h14 := h1.below hbx
          have hs2 : OwnInts (w6.alloc (.cells #[.slice (some ⟨W0.heap.size, 0, none⟩) q q] 23)) w4.heap.size (Sl.v ⟨some ⟨W0.heap.size, 0, none⟩, q, List.replicate q 0⟩) (List.replicate q 0) := by
            unfold Sl.v
            simp only [List.length_replicate]
            exact (own6.mono zo).below kk6
          clear hown6 hg6 own6
          go_wp2_with (at_builtin; refine wpList_push_sl _ rfl (.tmp 42) (.tmp 45) rfl w4.heap.size _ ws rfl h14 ⟨w6.heap.size, 0, none⟩ ⟨some ⟨W0.heap.size, 0, none⟩, q, List.replicate q 0⟩ rfl (by simp [go_sem]) (by have := HWL.out; omega) (Nat.le_trans zo hbx.size) ?_; intro v5 w5 hown5 hgrow5 hv5)
          have hss := OwnSS.push (s := ⟨some ⟨W0.heap.size, 0, none⟩, q, List.replicate q 0⟩) h1 HWS.out.1 HWS.out.2.1 HWS.out.2.2 hbx hs2 (fun k hk => by simp [Sl.v, Value.ownBlock] at hk; omega) hgrow5 hown5
          have hb5 : Below w1.heap.size w1 w5 := (btrans hb hbx).grown hgrow5 (btrans hb hbx).size (fun k hk => by have := (h14.lt k hk).1; omega)
          have zo5 : w4.heap.size ≤ w5.heap.size := Nat.le_trans zo (Nat.le_trans hbx.size hgrow5.size)
          obtain ⟨A5, c5, rfl, _⟩ := hown5.at_
          go_wp2
          go_roundw
          case rel => exact ⟨i + 1, by omega, by go_num, by rw [HSU.out]; exact hss, hb5, zo5⟩
          case measure => simp [intOf]; omega
        · have ei : i = q := by omega
          subst ei
          have nlt : ¬ (i : Int) < i := by omega
          obtain ⟨g, co, rfl⟩ := own.blk (by rw [List.length_replicate]; exact hq0)
          rw [List.length_replicate] at own ⊢
          have hQ0 := Lib.hid (QI.start cl T N i)
          clear hilt
          go_wp2
          go_loopw [11] (fun av wr => ∃ (a : Nat) (vals : List (List Int)), a ≤ N ∧ av = .int .i64 a ∧ OwnSS wr w4.heap.size (.slice (some ⟨g, 0, none⟩) i co) vals ∧ Hid (QI cl T N i a 0 vals) ∧ Below w1.heap.size w1 wr) (fun av _ => N - (intOf av).toNat)
          case atStart => exact ⟨0, _, Nat.zero_le _, rfl, own, hQ0, hb⟩
          case round =>
            clear own hQ0 hb
            obtain ⟨a, vals, ha, rfl, own, hQ, hb⟩ := hrel
            have a0 : (0 : Int) ≤ a := by omega
            by_cases halt : a < N
            · have a1 : (a : Int) < N := by omega
              go_wp2
              go_loopw [12] (fun bv wr => ∃ (b : Nat) (vals : List (List Int)), b ≤ N ∧ bv = .int .i64 b ∧ OwnSS wr w4.heap.size (.slice (some ⟨g, 0, none⟩) i co) vals ∧ Hid (QI cl T N i a b vals) ∧ Below w1.heap.size w1 wr) (fun bv _ => N - (intOf bv).toNat)
              case atStart => exact ⟨0, vals, Nat.zero_le _, rfl, own, hQ, hb⟩
              case round =>
                clear own hQ hb
                obtain ⟨b, vals, hbl, rfl, own, hQ, hb⟩ := hrel
                have b0 : (0 : Int) ≤ b := by omega
                by_cases hblt : b < N
                · have b1 : (b : Int) < N := by omega
                  have ca := CLT.out a halt
                  have cb := CLT.out b hblt
                  have lt := LT.out a b halt hblt
                  have qa := bcell hb (GC.out a halt)
                  have qb := bcell hb (GC.out b hblt)
                  have qt := bcell hb (GC.out _ lt)
                  obtain ⟨br, or_, cr2, qr0, gr0⟩ := TA.out a halt
                  have qr := bcell hb qr0
                  have qe := bcell hb (gr0 b hblt)
                  obtain ⟨r, hr⟩ := el (xs := vals) (k := (cls cl a).toNat) (by rw [hQ.out.len]; omega)
                  have hrl := hQ.out.row _ r hr
                  obtain ⟨gr, cr, qg, fg, gg, hgb, hput⟩ := own.putRow hr (by omega)
                  have qs := gg (cls cl b).toNat (by omega)
                  have HN := Lib.hid (hQ.out.put halt hblt STB.out CLT.out hr)
                  have HP := Lib.hid (hput (cls cl b).toNat (cls cl (T a b)))
                  rw [hrl] at qg
                  have fz := fg (cls cl b).toNat
                  generalize cls r (cls cl b).toNat = old at *
                  obtain ⟨nv, hnv⟩ : ∃ nv, nv = vals.set (cls cl a).toNat (r.set (cls cl b).toNat (cls cl (T a b))) := ⟨_, rfl⟩
                  rw [← hnv] at HN HP
                  clear hnv hput gg fg hr hrl qr0 gr0 own
                  generalize cls cl (T a b) = z at *
                  generalize cls cl a = x at *
                  generalize cls cl b = y at *
                  generalize T a b = t at *
                  have t0 : (0 : Int) ≤ t := by omega
                  have t1 : (t : Int) < N := by omega
                  have hgz : w1.heap.size ≤ gr := by omega
                  go_wp2
                  refine wp_region_headS 16 (fun w' => w'.cell? ⟨bC, oC + b, none⟩ = some (.int .i64 y) ∧ w'.cell? ⟨bt, ot + a, none⟩ = some (.slice (some ⟨br, or_, none⟩) N cr2) ∧ w'.cell? ⟨br, or_ + b, none⟩ = some (.int .i64 (t : Int)) ∧ w'.cell? ⟨bC, oC + t, none⟩ = some (.int .i64 z)) (by kernel_rfl) (by kernel_rfl) ⟨qb, qr, qe, qt⟩ (fun hHeld => ?_)
                  simp only [List.drop]
                  refine headH_takeS (i := 0) (v := ?_) 66 rfl (by kernel_rfl) (by kernel_rfl) (fun _ _ _ h => h) (Or.inl ⟨by rfl, ?_⟩) hHeld ?_
                  rotate_left
                  · intro w hSw
                    (try dsimp only at hSw)
                    go_simp
                    try with_reducible rfl
                  try simp only [Act.put, List.setIfInBounds_toArray, List.set_cons_zero, List.set_cons_succ]
                  refine headH_takeS (i := 1) (v := ?_) 67 rfl (by kernel_rfl) (by kernel_rfl) (fun _ _ _ h => h) (Or.inl ⟨by rfl, ?_⟩) hHeld ?_
                  rotate_left
                  · intro w hSw
                    (try dsimp only at hSw)
                    go_simp
                    try with_reducible rfl
                  try simp only [Act.put, List.setIfInBounds_toArray, List.set_cons_zero, List.set_cons_succ]
                  refine headH_takeS (i := 2) (v := ?_) 68 rfl (by kernel_rfl) (by kernel_rfl) (fun _ _ _ h => h) (Or.inl ⟨by rfl, ?_⟩) hHeld ?_
                  rotate_left
                  · intro w hSw
                    (try dsimp only at hSw)
                    go_simp
                    try with_reducible rfl
                  try simp only [Act.put, List.setIfInBounds_toArray, List.set_cons_zero, List.set_cons_succ]
                  refine headH_takeS (i := 3) (v := ?_) 69 rfl (by kernel_rfl) (by kernel_rfl) (fun _ _ _ h => h) (Or.inl ⟨by rfl, ?_⟩) hHeld ?_
                  rotate_left
                  · intro w hSw
                    (try dsimp only at hSw)
                    go_simp
                    try with_reducible rfl
                  try simp only [Act.put, List.setIfInBounds_toArray, List.set_cons_zero, List.set_cons_succ]
                  refine headH_takeS (i := 4) (v := ?_) 70 rfl (by kernel_rfl) (by kernel_rfl) (fun _ _ _ h => h) (Or.inl ⟨by rfl, ?_⟩) hHeld ?_
                  rotate_left
                  · intro w hSw
                    (try dsimp only at hSw)
                    go_simp
                    try with_reducible rfl
                  try simp only [Act.put, List.setIfInBounds_toArray, List.set_cons_zero, List.set_cons_succ]
                  refine headH_takeS (i := 5) (v := ?_) 71 rfl (by kernel_rfl) (by kernel_rfl) (fun _ _ _ h => h) (Or.inl ⟨by rfl, ?_⟩) hHeld ?_
                  rotate_left
                  · intro w hSw
                    (try dsimp only at hSw)
                    go_simp
                    try with_reducible rfl
                  try simp only [Act.put, List.setIfInBounds_toArray, List.set_cons_zero, List.set_cons_succ]
                  refine headH_takeS (i := 6) (v := ?_) 72 rfl (by kernel_rfl) (by kernel_rfl) (fun _ _ _ h => h) (Or.inl ⟨by rfl, ?_⟩) hHeld ?_
                  rotate_left
                  · intro w hSw
                    (try dsimp only at hSw)
                    go_simp
                    try with_reducible rfl
                  try simp only [Act.put, List.setIfInBounds_toArray, List.set_cons_zero, List.set_cons_succ]
                  refine headH_takeS (i := 7) (v := ?_) 73 rfl (by kernel_rfl) (by kernel_rfl) (fun _ _ _ h => h) (Or.inl ⟨by rfl, ?_⟩) hHeld ?_
                  rotate_left
                  · intro w hSw
                    (try dsimp only at hSw)
                    go_simp
                    try with_reducible rfl
                  try simp only [Act.put, List.setIfInBounds_toArray, List.set_cons_zero, List.set_cons_succ]
                  refine headH_takeS (i := 8) (v := ?_) 74 rfl (by kernel_rfl) (by kernel_rfl) (fun _ _ _ h => h) (Or.inl ⟨by rfl, ?_⟩) hHeld ?_
                  rotate_left
                  · intro w hSw
                    (try dsimp only at hSw)
                    go_simp
                    try with_reducible rfl
                  try simp only [Act.put, List.setIfInBounds_toArray, List.set_cons_zero, List.set_cons_succ]
                  refine headH_takeS (i := 9) (v := ?_) 75 rfl (by kernel_rfl) (by kernel_rfl) (fun _ _ _ h => h) (Or.inl ⟨by rfl, ?_⟩) hHeld ?_
                  rotate_left
                  · intro w hSw
                    (try dsimp only at hSw)
                    go_simp
                    try with_reducible rfl
                  try simp only [Act.put, List.setIfInBounds_toArray, List.set_cons_zero, List.set_cons_succ]
                  refine headH_takeS (i := 10) (v := ?_) 76 rfl (by kernel_rfl) (by kernel_rfl) (fun _ _ _ h => h) (Or.inl ⟨by rfl, ?_⟩) hHeld ?_
                  rotate_left
                  · intro w hSw
                    (try dsimp only at hSw)
                    go_simp
                    try with_reducible rfl
                  try simp only [Act.put, List.setIfInBounds_toArray, List.set_cons_zero, List.set_cons_succ]
                  refine headH_takeS (i := 11) (v := ?_) 77 rfl (by kernel_rfl) (by kernel_rfl) (fun _ _ _ h => h) (Or.inl ⟨by rfl, ?_⟩) hHeld ?_
                  rotate_left
                  · intro w hSw
                    (try dsimp only at hSw)
                    go_simp
                    try with_reducible rfl
                  try simp only [Act.put, List.setIfInBounds_toArray, List.set_cons_zero, List.set_cons_succ]
                  refine headH_takeS (i := 12) (v := ?_) 78 rfl (by kernel_rfl) (by kernel_rfl) (fun _ _ _ h => h) (Or.inl ⟨by rfl, ?_⟩) hHeld ?_
                  rotate_left
                  · intro w hSw
                    (try dsimp only at hSw)
                    go_simp
                    try with_reducible rfl
                  try simp only [Act.put, List.setIfInBounds_toArray, List.set_cons_zero, List.set_cons_succ]
                  refine headH_takeS (i := 13) (v := ?_) 79 rfl (by kernel_rfl) (by kernel_rfl) (fun _ _ _ h => h) (Or.inl ⟨by rfl, ?_⟩) hHeld ?_
                  rotate_left
                  · intro w hSw
                    (try dsimp only at hSw)
                    go_simp
                    try with_reducible rfl
                  try simp only [Act.put, List.setIfInBounds_toArray, List.set_cons_zero, List.set_cons_succ]
                  refine headH_takeS (i := 14) (v := ?_) 80 rfl (by kernel_rfl) (by kernel_rfl) (fun _ _ _ h => h) (Or.inl ⟨by rfl, ?_⟩) hHeld ?_
                  rotate_left
                  · intro w hSw
                    (try dsimp only at hSw)
                    go_simp
                    try with_reducible rfl
                  try simp only [Act.put, List.setIfInBounds_toArray, List.set_cons_zero, List.set_cons_succ]
                  refine headH_takeS (i := 15) (v := ?_) 81 rfl (by kernel_rfl) (by kernel_rfl) (fun _ _ _ h => h) (Or.inl ⟨by rfl, ?_⟩) hHeld ?_
                  rotate_left
                  · intro w hSw
                    (try dsimp only at hSw)
                    go_simp
                    try with_reducible rfl
                  try simp only [Act.put, List.setIfInBounds_toArray, List.set_cons_zero, List.set_cons_succ]
                  refine headH_tail (by kernel_rfl) ?_
                  clear hHeld
                  go_wp2
                  go_roundw
                  case rel => exact ⟨b + 1, nv, by omega, by go_num, HP.out.below (Below.drew (Below.refl _ _)), HN, Below.drew (Below.setCell hb hgz _)⟩
                  case measure => simp [intOf]; omega
                · have eb : b = N := by omega
                  subst eb
                  have nlt2 : ¬ (b : Int) < b := by omega
                  have HN := Lib.hid hQ.out.next
                  clear hblt
                  go_wp2
                  go_roundw
                  case rel => exact ⟨a + 1, vals, by omega, by go_num, own, HN, hb⟩
                  case measure => simp [intOf]; omega
            · have ea : a = N := by omega
              subst ea
              have nlt3 : ¬ (a : Int) < a := by omega
              have HV := Lib.hid (FIN.out vals hQ.out)
              have HO := Lib.hid own
              clear halt own
              go_wp2
              go_returns
              rw [E2.out]
              refine ⟨_, rfl, ?_, btrans HB1.out hb⟩
              show OwnSS _ _ _ (qTab cl T i i)
              rw [← HV.out]
              exact HO.out.mono (by have := HB1.out.size; omega)
end Go.Proofs.Ytjepmbjneccagaa
