/- 'QuotientTable', the program's side. No condition. -/
import Derived.Test.YtjepmbjneccagaaQuot
namespace Go.Proofs.Ytjepmbjneccagaa
set_option linter.unusedSimpArgs false
set_option linter.unusedVariables false
set_option linter.unusedSectionVars false
open Go.RowKit
def qN (cl : List Int) (N : Nat) : Nat := ((CanTo cl N).getD 0).toNat
theorem qN_spec {cl : List Int} {N : Nat} (h : IsCan cl N) (h0 : 0 < N) : CanTo cl N = some (qN cl N : Int) ∧ qN cl N ≤ N ∧ 0 < qN cl N := by
  cases hx : CanTo cl N with
  | none => have := h.2; rw [hx] at this; cases this
  | some nx =>
    have hs := canTo_spec hx
    have h3 := hs.2.2.1 0 h0
    have e : qN cl N = nx.toNat := by unfold qN; rw [hx]; rfl
    rw [e]
    exact ⟨congrArg some (by omega), by omega, by omega⟩
noncomputable def RQuotientTable (ms : List Mp) (cl : List Int) : List (List Int) × Int := if bothC ms [cl] = 0 then (qTab cl (mpl (elsOf ms)) (qN cl (elsOf ms).length) (qN cl (elsOf ms).length), 0) else ([], bothC ms [cl])
theorem total_le {B : Nat} : ∀ (rows : List (List Int)), (∀ r ∈ rows, r.length ≤ B) → total rows ≤ rows.length * B
  | [], _ => by simp [total]
  | r :: t, h => by
    have := total_le t (fun x hx => h x (by simp [hx]))
    have h1 := h r (by simp)
    rw [total_cons, List.length_cons, Nat.add_mul]
    omega
theorem one_can {ms : List Mp} {cl : List Int} (h : bothC ms [cl] = 0) : IsCan cl (elsOf ms).length ∧ StabN (elsOf ms).length (mpl (elsOf ms)) true (relL cl) ∧ 0 < (elsOf ms).length ∧ (elsOf ms).length ≤ 30 := by
  obtain ⟨h0, h1, h2⟩ := bothC_zero h
  have h3 := h2 cl (by simp)
  exact ⟨(canB_iff _ _).1 (h1 cl (by simp)), Classical.byContradiction fun hn => (by rw [stabB_false hn] at h3; cases h3), (TabR.of h0).pos, (TabR.of h0).le⟩
theorem RQuotientTable_len (ms : List Mp) (cl : List Int) : (RQuotientTable ms cl).1.length ≤ 1000 ∧ (∀ x ∈ (RQuotientTable ms cl).1, x.length ≤ 2097152) ∧ total (RQuotientTable ms cl).1 ≤ 4294967296 := by
  unfold RQuotientTable
  split
  · rename_i h
    obtain ⟨hc, _, h0, hN⟩ := one_can h
    have hq := (qN_spec hc h0).2.1
    generalize qN cl (elsOf ms).length = q at *
    have hr : ∀ r ∈ qTab cl (mpl (elsOf ms)) q q, r.length ≤ 30 := fun r hr => by
      unfold qTab at hr
      obtain ⟨i, _, rfl⟩ := List.mem_map.1 hr
      rw [qRow_length]; omega
    have ht := total_le _ hr
    have hl := qTab_length cl (mpl (elsOf ms)) q q
    refine ⟨by show (qTab _ _ _ _).length ≤ _; omega, fun x hx => by have := hr x hx; omega, ?_⟩
    show total (qTab _ _ _ _) ≤ _
    rw [hl] at ht
    have : q * 30 ≤ 30 * 30 := Nat.mul_le_mul_right _ (by omega)
    omega
  · exact ⟨by simp, fun x hx => by simp at hx, by simp [total]⟩
set_option maxHeartbeats 8000000 in
set_option maxRecDepth 100000 in
theorem implQuotientTable_l {A B : Option Addr} {c d : Nat} {ms : List Mp} {cl : List Int} {w : World} (h : SeeMaps w A ms) (hn : ms.length ≤ 2097152) (hA : NilOk A c) (ha : SeeInts w B cl) (hna : cl.length ≤ 2097152) (hB : NilOk B d) :
    Calls Try.prog 33 #[.slice A ms.length c, .slice B cl.length d] w fun e w' => ∃ v, e = .returned (.tuple #[v, .int .i64 (RQuotientTable ms cl).2]) ∧ OwnSS w' w.heap.size v (RQuotientTable ms cl).1 ∧ Below w.heap.size w w' := by
  obtain ⟨w0, hw0⟩ : ∃ w0, w0 = w.alloc (.cells #[.slice B cl.length d] 23) := ⟨_, rfl⟩
  have k0 : Below w.heap.size w w0 := by rw [hw0]; exact kbelow w _
  have q0 : w0.cell? ⟨w.heap.size, 0, none⟩ = some (.slice B cl.length d) := by rw [hw0]; simp [go_sem]
  have st := see_tab1 q0 (ha.below k0) hB
  have hcs := congruences_c (A' := some ⟨w.heap.size, 0, none⟩) (c' := 1) (c := c) (lists := [cl]) (h.below k0) hn hA st (by simp) (fun x hx => by simp at hx; rcases hx with rfl; exact hna)
  have HCS := Lib.hid hcs
  obtain ⟨r, hr⟩ : ∃ r, r = RQuotientTable ms cl := ⟨_, rfl⟩
  rw [← hr]
  have HR := Lib.hid hr
  have SA := Lib.hid (ha.below k0)
  have KK := Lib.hid k0
  clear hcs h hr ha hA hB st q0 k0
  go_enter Try.func33, Try.ntmps33
  go_wp2_with fail
  rw [← hw0]
  clear hw0
  refine HCS.out.mono ?_
  rintro e w1 ⟨hb1, hpost⟩
  have HB1 := Lib.hid (btrans KK.out hb1)
  rcases hpost with ⟨hc, rfl⟩ | ⟨hc, v, rfl, own⟩
  · have E1 := Lib.hid (show r = ([], bothC ms [cl]) by rw [HR.out]; unfold RQuotientTable; rw [if_neg hc])
    have d : (bothC ms [cl] != 0) = true := bne_iff_ne.2 hc
    clear hc
    go_wp2
    go_returns
    rw [E1.out]
    exact ⟨_, rfl, OwnSS.nil _ _, HB1.out⟩
  · have E1 := Lib.hid (show r = (qTab cl (mpl (elsOf ms)) (qN cl (elsOf ms).length) (qN cl (elsOf ms).length), 0) by rw [HR.out]; unfold RQuotientTable; rw [if_pos hc])
    obtain ⟨hca, _, hpos, hle⟩ := one_can hc
    have hok := (TabR.of (bothC_zero hc).1).tab
    obtain ⟨A1, c1, rfl, _⟩ := own.see
    have htab := own.tab
    rw [tabOf_length]
    clear hc own HR
    generalize tabOf (elsOf ms) = rows at *
    generalize mpl (elsOf ms) = T at *
    generalize (elsOf ms).length = N at *
    obtain ⟨bt, ot, rfl, ta⟩ := htab.at_ hok hpos
    obtain ⟨hcx, hqN, hq0⟩ := qN_spec hca hpos
    have hla := hca.1
    have FX := Lib.hid (fun v hv => fx_spec (cl := cl) (v := v) hla hcx hv)
    have LT := Lib.hid hok.lt
    have hmany := many_c B d N cl (qN cl N) w1 (SA.out.below hb1) hca hcx hpos (by omega)
    have HMY := Lib.hid hmany
    have IX := Lib.hid (fun W (hW : Below w1.heap.size w1 W) x => IndexI_c B d cl x W ((SA.out.below hb1).below hW) hna)
    obtain ⟨bC, oC, rfl, gc⟩ := (SA.out.below hb1).cls (by rw [hla]; exact hpos)
    rw [hla] at gc IX ⊢
    have GC := Lib.hid gc
    have TA := Lib.hid ta
    generalize qN cl N = q at *
    have QA := Lib.hid (fun i k => show qAt cl T i k = cls cl (T (fxOf cl i) (fxOf cl k)) from rfl)
    clear hmany hok htab ta gc hca hcx hla SA HCS hna
    go_wp2_with fail
    refine HMY.out.mono ?_
    rintro e w2 ⟨rfl, hb2⟩
    go_wp2
    go_loopw [26, 9] (fun iv out wr => ∃ i : Nat, i ≤ q ∧ iv = .int .i64 i ∧ OwnSS wr w1.heap.size out (qTab cl T q i) ∧ Below w1.heap.size w1 wr) (fun iv _ _ => q - (intOf iv).toNat)
    case atStart => exact ⟨0, Nat.zero_le _, rfl, OwnSS.nil _ _, hb2⟩
    case round =>
      clear hb2
      obtain ⟨i, hi, rfl, own, hb⟩ := hrel
      have i0 : (0 : Int) ≤ i := by omega
      by_cases hilt : i < q
      · have i1 : (i : Int) < q := by omega
        obtain ⟨ws, h1, h2, h3, h4⟩ := own.ex
        obtain ⟨Ao, co, rfl, _⟩ := h1.at_
        have hwl : ws.length = i := by
          have := congrArg List.length h4
          rw [List.length_map, qTab_length] at this
          exact this
        have HWL := Lib.hid hwl
        have HWS := Lib.hid (⟨h2, h3, h4⟩ : ElsOk wr w1.heap.size ws ∧ (ws.map Sl.v).Pairwise DisV ∧ ws.map Sl.xs = qTab cl T q i)
        clear h2 h3 h4 own hwl
        obtain ⟨W0, rfl⟩ : ∃ W0, W0 = wr := ⟨_, rfl⟩
        go_wp2
        go_loopw [30, 11] (fun kv v wr2 => ∃ k : Nat, k ≤ q ∧ kv = .int .i64 k ∧ OwnInts wr2 W0.heap.size v (qRow cl T i k) ∧ Below W0.heap.size W0 wr2) (fun kv _ _ => q - (intOf kv).toNat)
        case atStart => exact ⟨0, Nat.zero_le _, rfl, OwnInts.nil _ _, Below.refl _ _⟩
        case round =>
          obtain ⟨k, hk, rfl, ownr, hbk⟩ := hrel
          have k0 : (0 : Int) ≤ k := by omega
          obtain ⟨Ar, cr, rfl, _⟩ := ownr.see
          by_cases hklt : k < q
          · have k1 : (k : Int) < q := by omega
            have hbb := btrans hb hbk
            obtain ⟨ea, la, va⟩ := FX.out i i1
            obtain ⟨eb, lb, vb⟩ := FX.out k k1
            have lt := LT.out _ _ la lb
            obtain ⟨br, or_, cr2, qr, gr⟩ := TA.out _ la
            have qa := bcell hbb qr
            have qb := bcell hbb (gr _ lb)
            have qc := bcell hbb (GC.out _ lt)
            have ix1 := IX.out wr.drew (hbb.trans (Below.drew (Below.refl _ _))) (i : Int)
            have ix2 := fun W (hW : Below wr.heap.size wr W) => IX.out W (btrans hbb hW) (k : Int)
            rw [ea] at ix1
            rw [eb] at ix2
            have HSN := Lib.hid (show qRow cl T i (k + 1) = qRow cl T i k ++ [cls cl (T (fxOf cl i) (fxOf cl k))] by rw [qRow_succ, QA.out])
            have hrl := qRow_length cl T i k
            generalize qRow cl T i k = xs at *
            have HX1 := Lib.hid ix1
            have HX2 := Lib.hid ix2
            have hxl : xs.length ≤ 300 := by omega
            clear ea eb va vb gr qr ix1 ix2
            generalize cls cl (T (fxOf cl i) (fxOf cl k)) = z at *
            generalize T (fxOf cl i) (fxOf cl k) = t at *
            generalize fxOf cl i = x at *
            generalize fxOf cl k = y at *
            have x0 : (0 : Int) ≤ x := by omega
            have x1 : (x : Int) < N := by omega
            have y0 : (0 : Int) ≤ y := by omega
            have y1 : (y : Int) < N := by omega
            have t0 : (0 : Int) ≤ t := by omega
            have t1 : (t : Int) < N := by omega
            clear hrl
            go_wp2
            refine wp_region_headS 16 (fun w' => w'.cell? ⟨bt, ot + x, none⟩ = some (.slice (some ⟨br, or_, none⟩) N cr2) ∧ w'.cell? ⟨br, or_ + y, none⟩ = some (.int .i64 (t : Int)) ∧ w'.cell? ⟨bC, oC + t, none⟩ = some (.int .i64 z)) (by kernel_rfl) (by kernel_rfl) ⟨qa, qb, qc⟩ (fun hHeld => ?_)
            simp only [List.drop]
            refine headH_takeS (i := 0) (v := ?_) 33 rfl (by kernel_rfl) (by kernel_rfl) (fun _ _ _ h => h) (Or.inl ⟨by rfl, ?_⟩) hHeld ?_
            rotate_left
            · intro w hSw
              (try dsimp only at hSw)
              go_simp
              try with_reducible rfl
            try simp only [Act.put, List.setIfInBounds_toArray, List.set_cons_zero, List.set_cons_succ]
            refine headH_takeS (i := 1) (v := ?_) 34 rfl (by kernel_rfl) (by kernel_rfl) (fun _ _ _ h => h) (Or.inl ⟨by rfl, ?_⟩) hHeld ?_
            rotate_left
            · intro w hSw
              (try dsimp only at hSw)
              go_simp
              try with_reducible rfl
            try simp only [Act.put, List.setIfInBounds_toArray, List.set_cons_zero, List.set_cons_succ]
            refine headH_takeS (i := 2) (v := ?_) 35 rfl (by kernel_rfl) (by kernel_rfl) (fun _ _ _ h => h) (Or.inl ⟨by rfl, ?_⟩) hHeld ?_
            rotate_left
            · intro w hSw
              (try dsimp only at hSw)
              go_simp
              try with_reducible rfl
            try simp only [Act.put, List.setIfInBounds_toArray, List.set_cons_zero, List.set_cons_succ]
            refine headH_takeS (i := 3) (v := ?_) 36 rfl (by kernel_rfl) (by kernel_rfl) (fun _ _ _ h => h) (Or.inl ⟨by rfl, ?_⟩) hHeld ?_
            rotate_left
            · intro w hSw
              (try dsimp only at hSw)
              go_simp
              try with_reducible rfl
            try simp only [Act.put, List.setIfInBounds_toArray, List.set_cons_zero, List.set_cons_succ]
            refine headH_takeS (i := 4) (v := ?_) 37 rfl (by kernel_rfl) (by kernel_rfl) (fun _ _ _ h => h) (Or.inl ⟨by rfl, ?_⟩) hHeld ?_
            rotate_left
            · intro w hSw
              (try dsimp only at hSw)
              go_simp
              try with_reducible rfl
            try simp only [Act.put, List.setIfInBounds_toArray, List.set_cons_zero, List.set_cons_succ]
            refine headH_takeS (i := 8) (v := ?_) 41 rfl (by kernel_rfl) (by kernel_rfl) (fun _ _ _ h => h) (Or.inl ⟨by rfl, ?_⟩) hHeld ?_
            rotate_left
            · intro w hSw
              (try dsimp only at hSw)
              go_simp
              try with_reducible rfl
            try simp only [Act.put, List.setIfInBounds_toArray, List.set_cons_zero, List.set_cons_succ]
            refine headH_takeS (i := 9) (v := ?_) 42 rfl (by kernel_rfl) (by kernel_rfl) (fun _ _ _ h => h) (Or.inl ⟨by rfl, ?_⟩) hHeld ?_
            rotate_left
            · intro w hSw
              (try dsimp only at hSw)
              go_simp
              try with_reducible rfl
            try simp only [Act.put, List.setIfInBounds_toArray, List.set_cons_zero, List.set_cons_succ]
            refine headH_all (rs := [5]) (by kernel_rfl) (by kernel_rfl) (headH_cons rfl (fun K hK => ?_) headH_nil)
            go_simp
            refine HX1.out.mono ?_
            rintro e w3 ⟨rfl, hb3⟩
            refine hK.out _ _ ⟨bcell hb3 qa, bcell hb3 qb, bcell hb3 qc⟩ (fun hHeldn => ?_)
            clear hK K hHeld
            have hHeld := hHeldn
            clear hHeldn
            try simp only [Act.put, List.setIfInBounds_toArray, List.set_cons_zero, List.set_cons_succ]
            have hb3' : Below wr.heap.size wr w3 := bdr hb3
            refine headH_takeS (i := 6) (v := ?_) 39 rfl (by kernel_rfl) (by kernel_rfl) (fun _ _ _ h => h) (Or.inl ⟨by rfl, ?_⟩) hHeld ?_
            rotate_left
            · intro w hSw
              (try dsimp only at hSw)
              go_simp
              try with_reducible rfl
            try simp only [Act.put, List.setIfInBounds_toArray, List.set_cons_zero, List.set_cons_succ]
            refine headH_takeS (i := 7) (v := ?_) 40 rfl (by kernel_rfl) (by kernel_rfl) (fun _ _ _ h => h) (Or.inl ⟨by rfl, ?_⟩) hHeld ?_
            rotate_left
            · intro w hSw
              (try dsimp only at hSw)
              go_simp
              try with_reducible rfl
            try simp only [Act.put, List.setIfInBounds_toArray, List.set_cons_zero, List.set_cons_succ]
            refine headH_all (rs := [10]) (by kernel_rfl) (by kernel_rfl) (headH_cons rfl (fun K hK => ?_) headH_nil)
            go_simp
            refine (HX2.out w3 hb3').mono ?_
            rintro e w4 ⟨rfl, hb4⟩
            have hb4' := btrans hb3' hb4
            refine hK.out _ _ ⟨bcell hb4' qa, bcell hb4' qb, bcell hb4' qc⟩ (fun hHeldn => ?_)
            clear hK K hHeld
            have hHeld := hHeldn
            clear hHeldn
            try simp only [Act.put, List.setIfInBounds_toArray, List.set_cons_zero, List.set_cons_succ]
            refine headH_takeS (i := 11) (v := ?_) 44 rfl (by kernel_rfl) (by kernel_rfl) (fun _ _ _ h => h) (Or.inl ⟨by rfl, ?_⟩) hHeld ?_
            rotate_left
            · intro w hSw
              (try dsimp only at hSw)
              go_simp
              try with_reducible rfl
            try simp only [Act.put, List.setIfInBounds_toArray, List.set_cons_zero, List.set_cons_succ]
            refine headH_takeS (i := 12) (v := ?_) 45 rfl (by kernel_rfl) (by kernel_rfl) (fun _ _ _ h => h) (Or.inl ⟨by rfl, ?_⟩) hHeld ?_
            rotate_left
            · intro w hSw
              (try dsimp only at hSw)
              go_simp
              try with_reducible rfl
            try simp only [Act.put, List.setIfInBounds_toArray, List.set_cons_zero, List.set_cons_succ]
            refine headH_takeS (i := 13) (v := ?_) 46 rfl (by kernel_rfl) (by kernel_rfl) (fun _ _ _ h => h) (Or.inl ⟨by rfl, ?_⟩) hHeld ?_
            rotate_left
            · intro w hSw
              (try dsimp only at hSw)
              go_simp
              try with_reducible rfl
            try simp only [Act.put, List.setIfInBounds_toArray, List.set_cons_zero, List.set_cons_succ]
            refine headH_takeS (i := 14) (v := ?_) 47 rfl (by kernel_rfl) (by kernel_rfl) (fun _ _ _ h => h) (Or.inl ⟨by rfl, ?_⟩) hHeld ?_
            rotate_left
            · intro w hSw
              (try dsimp only at hSw)
              go_simp
              try with_reducible rfl
            try simp only [Act.put, List.setIfInBounds_toArray, List.set_cons_zero, List.set_cons_succ]
            refine headH_all (rs := [15]) (by kernel_rfl) (by kernel_rfl) (headH_cons rfl (fun K hK => ?_) headH_nil)
            go_simp
            have kk := kbelow w4 (.cells #[.int .i64 z] 2)
            have hb5 := btrans hb4' kk
            refine hK.out _ _ ⟨bcell hb5 qa, bcell hb5 qb, bcell hb5 qc⟩ (fun hHeldn => ?_)
            clear hK K hHeld
            have hHeld := hHeldn
            clear hHeldn
            try simp only [Act.put, List.setIfInBounds_toArray, List.set_cons_zero, List.set_cons_succ]
            refine headH_tail (by kernel_rfl) ?_
            clear hHeld
            have own5 := ownr.below hb5
            have hz5 := (btrans hbk hb5).size
            go_wp2_with (at_builtin; refine wpList_push_int _ rfl (.tmp 33) (.tmp 48) rfl W0.heap.size _ xs rfl own5 ⟨w4.heap.size, 0, none⟩ z rfl (by simp [go_sem]) (by omega) hz5 ?_; intro v6 w6 hown6 hg6 hv6)
            have hb6 : Below W0.heap.size W0 w6 := Below.grown (btrans hbk hb5) hg6 hz5 (fun q hq => (own5.lt q hq).1)
            go_wp2
            go_roundw
            case rel => exact ⟨k + 1, by omega, by go_num, by rw [HSN.out]; exact hown6, hb6⟩
            case measure => simp [intOf]; omega
          · have ek : k = q := by omega
            have HST := Lib.hid (show qTab cl T q (i + 1) = qTab cl T q i ++ [qRow cl T i q] from qTab_succ cl T q i)
            have hrl := qRow_length cl T i q
            rw [ek] at ownr ⊢
            obtain ⟨row, hrow⟩ : ∃ row, row = qRow cl T i q := ⟨_, rfl⟩
            rw [← hrow] at ownr HST ⊢
            have HRL := Lib.hid (show row.length = q by rw [hrow]; exact hrl)
            have hbx := btrans hbk (kbelow wr (.cells #[.slice Ar row.length cr] 23))
            have h14 := h1.below hbx
            have hs2 := (OwnInts.mono ownr hb.size).below (kbelow wr (.cells #[.slice Ar row.length cr] 23))
            have hsb : ∀ q, (Sl.v ⟨Ar, cr, row⟩).ownBlock = some q → W0.heap.size ≤ q := fun q hq => (ownr.lt q hq).1
            have nlt : ¬ (k : Int) < q := by omega
            have nlt2 : ¬ (q : Int) < q := by omega
            clear ek hklt hrow hrl
            go_wp2_with (at_builtin; refine wpList_push_sl _ rfl (.tmp 51) (.tmp 53) rfl w1.heap.size _ ws rfl h14 ⟨wr.heap.size, 0, none⟩ ⟨Ar, cr, row⟩ rfl (by simp [go_sem]) (by have := HWL.out; omega) (btrans hb hbx).size ?_; intro v5 w5 hown5 hgrow5 hv5)
            have hss := OwnSS.push (s := ⟨Ar, cr, row⟩) h1 HWS.out.1 HWS.out.2.1 HWS.out.2.2 hbx hs2 hsb hgrow5 hown5
            have hb5 : Below w1.heap.size w1 w5 := (btrans hb hbx).grown hgrow5 (btrans hb hbx).size (fun i hi => (h14.lt i hi).1)
            obtain ⟨A5, c5, rfl, _⟩ := hown5.at_
            go_wp2
            go_roundw
            case rel => exact ⟨i + 1, by omega, by go_num, by rw [HST.out]; exact hss, hb5⟩
            case measure => simp [intOf]; omega
      · have ei : i = q := by omega
        subst ei
        have nlt : ¬ (i : Int) < i := by omega
        have HO := Lib.hid own
        obtain ⟨Ao, co, rfl, _⟩ := own.see
        clear own hilt
        go_wp2
        go_returns
        rw [E1.out]
        exact ⟨_, rfl, HO.out.mono HB1.out.size, btrans HB1.out hb⟩
end Go.Proofs.Ytjepmbjneccagaa
