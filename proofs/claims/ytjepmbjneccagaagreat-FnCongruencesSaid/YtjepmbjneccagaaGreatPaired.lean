/- The products of a monoid's elements, of which there are not too many, or a code: on both sides. No condition. -/
import Derived.Test.YtjepmbjneccagaaGreatStab
import Derived.Test.YtjepmbjneccagaaGreatRegMon
namespace Go.Proofs.YtjepmbjneccagaaGreat
set_option linter.unusedSimpArgs false
set_option linter.unusedVariables false
set_option linter.unusedSectionVars false
open Go.RowKit
noncomputable def pcC (most : Nat) (ms : List Mp) : Int := if moC ms [] = 0 then (if most < (elsOf ms).length then 3 else 0) else moC ms []
/-- what such functions hand back -/
def CgPost (most : Nat) (ms : List Mp) (w : World) (e : Ending) (w' : World) : Prop :=
  (pcC most ms ≠ 0 ∧ e = .returned (.tuple #[.slice none 0 0, .int .i64 (pcC most ms)]) ∧ Below w.heap.size w w') ∨
  (pcC most ms = 0 ∧ ∃ v, e = .returned (.tuple #[v, .int .i64 0]) ∧ OwnSS w' w.heap.size v (tabOf (elsOf ms)) ∧ Below w.heap.size w w')
theorem pcC_bad {most : Nat} {ms : List Mp} (h : moC ms [] ≠ 0) : pcC most ms = moC ms [] := by unfold pcC; rw [if_neg h]
theorem pcC_big {most : Nat} {ms : List Mp} (h : moC ms [] = 0) (h2 : most < (elsOf ms).length) : pcC most ms = 3 := by unfold pcC; rw [if_pos h, if_pos h2]
theorem pcC_ok {most : Nat} {ms : List Mp} (h : moC ms [] = 0) (h2 : ¬ most < (elsOf ms).length) : pcC most ms = 0 := by unfold pcC; rw [if_pos h, if_neg h2]
/-- a monoid with a table -/
structure TabR (most : Nat) (ms : List Mp) : Prop where
  clo : Clo (elsOf ms) (ptsL ms)
  pos : 0 < (elsOf ms).length
  le : (elsOf ms).length ≤ most
theorem TabR.of {most : Nat} {ms : List Mp} (h : pcC most ms = 0) : TabR most ms := by
  unfold pcC at h
  split at h
  · rename_i hc
    split at h
    · cases h
    · rename_i hl
      have hm := MonR.of hc
      exact ⟨hm.clo, List.length_pos_of_mem (id_mem hm.list), Nat.le_of_not_lt hl⟩
  · rename_i hc; exact absurd h hc
theorem tab_ok {l : List Mp} {n : Int} (hc : Clo l n) : TabOk (tabOf l) l.length (mpl l) := ⟨tabOf_length l, fun _ _ hi hk => tab_at hc hi hk⟩
theorem TabR.tab {most : Nat} {ms : List Mp} (h : TabR most ms) : TabOk (tabOf (elsOf ms)) (elsOf ms).length (mpl (elsOf ms)) := tab_ok h.clo
set_option maxHeartbeats 2000000 in
set_option maxRecDepth 100000 in
theorem paired_c {A : Option Addr} {c : Nat} {ms : List Mp} {w : World} (h : SeeMaps w A ms) (hn : ms.length ≤ 2097152) (hA : NilOk A c) :
    Calls Tryz.prog 40 #[.slice A ms.length c] w (CgPost 30 ms w) := by
  have hmo := monoidOf_c A none c 0 ms [] w hn (by simp) h (see_nil w) hA (fun _ => rfl)
  have HMO := Lib.hid hmo
  clear hmo h
  go_enter Tryz.func40, Tryz.ntmps40
  go_wp2_with fail
  refine HMO.out.mono ?_
  rintro e w1 h1
  rcases h1 with ⟨hc, rfl, hb1⟩ | ⟨hc, M, vp, rfl, mon, hown, hb1⟩
  · have HE := Lib.hid (pcC_bad (most := 30) hc)
    have HC := Lib.hid hc
    have d : (moC ms [] != 0) = true := bne_iff_ne.2 hc
    clear hc
    go_wp2
    go_returns
    exact .inl ⟨by rw [HE.out]; exact HC.out, by rw [HE.out]; rfl, hb1⟩
  · obtain ⟨An, cn, rfl, _⟩ := hown.see
    obtain ⟨Ae, ce, c0, _⟩ := mon.cellsOf
    have hlen := (MonR.of hc).clo.len
    by_cases hbig : 30 < (elsOf ms).length
    · have HE := Lib.hid (pcC_big hc hbig)
      have d : (30 : Int) < (elsOf ms).length := by omega
      clear hc hbig hown
      go_wp2
      go_returns
      exact .inl ⟨by rw [HE.out]; decide, by rw [HE.out]; rfl, hb1⟩
    · have HE := Lib.hid (pcC_ok hc hbig)
      have ht := table_c (MonR.of hc).clo mon
      have HT := Lib.hid ht
      have d : ¬ (30 : Int) < (elsOf ms).length := by omega
      clear hc hbig hown ht mon
      go_wp2_with fail
      refine HT.out.mono ?_
      rintro e w2 ⟨v, rfl, own, hb2⟩
      obtain ⟨Av, cv, rfl, _⟩ := own.see
      go_wp2
      go_returns
      exact .inr ⟨HE.out, _, rfl, own.mono hb1.size, btrans hb1 hb2⟩
section
variable {l : List Mp} {n : Int} {w : World}
set_option maxHeartbeats 8000000 in
set_option maxRecDepth 100000 in
theorem l06Table_c (A : Option Addr) (c : Nat) (hs : SeeMaps w A l) (hc : Clo l n) :
    Calls Tryz.prog 73 #[.slice A l.length c] w fun e w' => ∃ v, e = .returned v ∧ OwnSS w' w.heap.size v (tabOf l) ∧ Below w.heap.size w w' := by
  have hlen := hc.len
  have HC := Lib.hid hc
  have HS := Lib.hid hs
  clear hs hc
  go_enter Tryz.func73, Tryz.ntmps73
  go_wp2
  have own0 : OwnSS (w.alloc (.cells #[] 38)) w.heap.size (.slice (some ⟨w.heap.size, 0, none⟩) 0 0) ((tabOf l).take 0) :=
    ⟨[], own_mono (World.ownsRow_made (e := 38) (size := 1) w #[] 0 (Nat.le_refl _) (by decide) rfl) (Nat.le_refl _), ElsOk.nil _ _, List.Pairwise.nil, rfl⟩
  have kk0 := kbelow w (.cells #[] 38)
  go_loopw [4, 3] (fun i v wr => ∃ k : Nat, k ≤ l.length ∧ i = .int .i64 k ∧ OwnSS wr w.heap.size v ((tabOf l).take k) ∧ Below w.heap.size w wr) (fun i _ _ => l.length - (intOf i).toNat)
  case atStart => exact ⟨0, Nat.zero_le _, rfl, own0, kk0⟩
  case round =>
    clear own0 kk0
    obtain ⟨k, hk, rfl, own, hb⟩ := hrel
    obtain ⟨ws, h1, h2, h3, h4⟩ := own.ex
    obtain ⟨Ao, co, rfl, _⟩ := h1.at_
    have l0 : (0 : Int) ≤ k := by omega
    by_cases hlt : k < l.length
    · have l1 : (k : Int) < l.length := by omega
      obtain ⟨f, hf⟩ := el hlt
      have HF := Lib.hid hf
      have hst : (tabOf l).take (k + 1) = (tabOf l).take k ++ [rowT l f] := by
        rw [List.take_add_one]
        unfold tabOf
        rw [List.getElem?_map, hf]
        rfl
      have hwl : ws.length ≤ 300 := by
        have := congrArg List.length h4
        rw [List.length_map, List.length_take] at this
        omega
      have HST := Lib.hid hst
      have HWS := Lib.hid (⟨h2, h3, h4⟩ : ElsOk wr w.heap.size ws ∧ (ws.map Sl.v).Pairwise DisV ∧ ws.map Sl.xs = (tabOf l).take k)
      clear hf hst h2 h3 h4 own
      obtain ⟨row, hrow⟩ : ∃ row, row = rowT l f := ⟨_, rfl⟩
      have hrl : row.length = l.length := by rw [hrow, rowT_length]
      have HRL := Lib.hid hrl
      rw [← hrow] at HST
      have HROW := Lib.hid hrow
      clear hrow hrl
      obtain ⟨W0, rfl⟩ : ∃ W0, W0 = wr := ⟨_, rfl⟩
      have ownr0 : OwnInts (W0.alloc (.cells #[] 2)) W0.heap.size (.slice (some ⟨W0.heap.size, 0, none⟩) 0 0) (row.take 0) := own_mono (World.ownsRow_made (e := 2) (size := 1) W0 #[] 0 (Nat.le_refl _) (by decide) rfl) (Nat.le_refl _)
      have kk1 := kbelow W0 (.cells #[] 2)
      go_wp2
      go_loopw [6, 5] (fun i v wr2 => ∃ j : Nat, j ≤ l.length ∧ i = .int .i64 j ∧ OwnInts wr2 W0.heap.size v (row.take j) ∧ Below W0.heap.size W0 wr2) (fun i _ _ => l.length - (intOf i).toNat)
      case atStart => exact ⟨0, Nat.zero_le _, rfl, ownr0, kk1⟩
      case round =>
        clear ownr0 kk1
        obtain ⟨j, hj, rfl, ownr, hbj⟩ := hrel
        obtain ⟨Ar, cr, rfl, _⟩ := ownr.see
        have m0 : (0 : Int) ≤ j := by omega
        by_cases hltj : j < l.length
        · have m1 : (j : Int) < l.length := by omega
          have hbb := btrans hb hbj
          obtain ⟨bl, ol, f', rfl, hf', gf⟩ := (HS.out.below hbb).at_ hlt
          have ef : f' = f := by
            have := HF.out
            rw [hf'] at this
            exact Option.some.inj this
          subst ef
          obtain ⟨bl', ol', g, e', hg, gg⟩ := (HS.out.below hbb).at_ hltj
          simp only [Option.some.injEq, Addr.mk.injEq, and_true] at e'
          obtain ⟨rfl, rfl⟩ := e'
          have fN := (HC.out.get HF.out).2
          have gN := (HC.out.get hg).2
          obtain ⟨f0, f1, f2, f3, f4, f5⟩ := gf
          obtain ⟨g0, g1, g2, g3, g4, g5⟩ := gg
          have hsn : row.take (j + 1) = row.take j ++ [plc l (mulM f' g)] := by
            rw [List.take_add_one, HROW.out]
            unfold rowT
            rw [List.getElem?_map, hg]
            rfl
          have HSN := Lib.hid hsn
          have HTM := Lib.hid (fun W => l01Times_c f' g n W fN gN)
          have hfind := fun W (hW : Below wr.heap.size wr W) => l02Find_c (some ⟨bl, ol, none⟩) c l n (mulM f' g) W ((HS.out.below hbb).below hW) HC.out.asc HC.out.all hlen (mulM_MpN fN gN)
          have HFI := Lib.hid hfind
          have hle : (row.take j).length ≤ 300 := by rw [List.length_take]; omega
          clear hsn hg hf' hfind fN gN
          generalize plc l (mulM f' g) = pv at *
          generalize mulM f' g = fg at *
          generalize row.take j = xs at *
          go_wp2
          refine wp_region_headS 13 (fun w' => w'.cell? ⟨bl, ol + k * 6, none⟩ = some (.int .i64 f'.p) ∧ w'.cell? ⟨bl, ol + k * 6 + 1, none⟩ = some (.int .i64 f'.a) ∧ w'.cell? ⟨bl, ol + k * 6 + 2, none⟩ = some (.int .i64 f'.b) ∧ w'.cell? ⟨bl, ol + k * 6 + 3, none⟩ = some (.int .i64 f'.c) ∧ w'.cell? ⟨bl, ol + k * 6 + 4, none⟩ = some (.int .i64 f'.d) ∧ w'.cell? ⟨bl, ol + k * 6 + 5, none⟩ = some (.int .i64 f'.e) ∧ w'.cell? ⟨bl, ol + j * 6, none⟩ = some (.int .i64 g.p) ∧ w'.cell? ⟨bl, ol + j * 6 + 1, none⟩ = some (.int .i64 g.a) ∧ w'.cell? ⟨bl, ol + j * 6 + 2, none⟩ = some (.int .i64 g.b) ∧ w'.cell? ⟨bl, ol + j * 6 + 3, none⟩ = some (.int .i64 g.c) ∧ w'.cell? ⟨bl, ol + j * 6 + 4, none⟩ = some (.int .i64 g.d) ∧ w'.cell? ⟨bl, ol + j * 6 + 5, none⟩ = some (.int .i64 g.e)) (by kernel_rfl) (by kernel_rfl) ⟨f0, f1, f2, f3, f4, f5, g0, g1, g2, g3, g4, g5⟩ (fun hHeld => ?_)
          simp only [List.drop]
          refine headH_takeS (i := 0) (v := ?_) 21 rfl (by kernel_rfl) (by kernel_rfl) (fun _ _ _ h => h) (Or.inl ⟨by rfl, ?_⟩) hHeld ?_
          rotate_left
          · intro w hSw
            (try dsimp only at hSw)
            go_simp
            try with_reducible rfl
          try simp only [Act.put, List.setIfInBounds_toArray, List.set_cons_zero, List.set_cons_succ]
          refine headH_takeS (i := 1) (v := ?_) 22 rfl (by kernel_rfl) (by kernel_rfl) (fun _ _ _ h => h) (Or.inl ⟨by rfl, ?_⟩) hHeld ?_
          rotate_left
          · intro w hSw
            (try dsimp only at hSw)
            go_simp
            try with_reducible rfl
          try simp only [Act.put, List.setIfInBounds_toArray, List.set_cons_zero, List.set_cons_succ]
          refine headH_takeS (i := 2) (v := ?_) 23 rfl (by kernel_rfl) (by kernel_rfl) (fun _ _ _ h => h) (Or.inl ⟨by rfl, ?_⟩) hHeld ?_
          rotate_left
          · intro w hSw
            (try dsimp only at hSw)
            go_simp
            try with_reducible rfl
          try simp only [Act.put, List.setIfInBounds_toArray, List.set_cons_zero, List.set_cons_succ]
          refine headH_takeS (i := 3) (v := ?_) 24 rfl (by kernel_rfl) (by kernel_rfl) (fun _ _ _ h => h) (Or.inl ⟨by rfl, ?_⟩) hHeld ?_
          rotate_left
          · intro w hSw
            (try dsimp only at hSw)
            go_simp
            try with_reducible rfl
          try simp only [Act.put, List.setIfInBounds_toArray, List.set_cons_zero, List.set_cons_succ]
          refine headH_takeS (i := 4) (v := ?_) 25 rfl (by kernel_rfl) (by kernel_rfl) (fun _ _ _ h => h) (Or.inl ⟨by rfl, ?_⟩) hHeld ?_
          rotate_left
          · intro w hSw
            (try dsimp only at hSw)
            go_simp
            try with_reducible rfl
          try simp only [Act.put, List.setIfInBounds_toArray, List.set_cons_zero, List.set_cons_succ]
          refine headH_takeS (i := 5) (v := ?_) 26 rfl (by kernel_rfl) (by kernel_rfl) (fun _ _ _ h => h) (Or.inl ⟨by rfl, ?_⟩) hHeld ?_
          rotate_left
          · intro w hSw
            (try dsimp only at hSw)
            go_simp
            try with_reducible rfl
          try simp only [Act.put, List.setIfInBounds_toArray, List.set_cons_zero, List.set_cons_succ]
          refine headH_takeS (i := 6) (v := ?_) 27 rfl (by kernel_rfl) (by kernel_rfl) (fun _ _ _ h => h) (Or.inl ⟨by rfl, ?_⟩) hHeld ?_
          rotate_left
          · intro w hSw
            (try dsimp only at hSw)
            go_simp
            try with_reducible rfl
          try simp only [Act.put, List.setIfInBounds_toArray, List.set_cons_zero, List.set_cons_succ]
          refine headH_takeS (i := 7) (v := ?_) 28 rfl (by kernel_rfl) (by kernel_rfl) (fun _ _ _ h => h) (Or.inl ⟨by rfl, ?_⟩) hHeld ?_
          rotate_left
          · intro w hSw
            (try dsimp only at hSw)
            go_simp
            try with_reducible rfl
          try simp only [Act.put, List.setIfInBounds_toArray, List.set_cons_zero, List.set_cons_succ]
          refine headH_takeS (i := 8) (v := ?_) 29 rfl (by kernel_rfl) (by kernel_rfl) (fun _ _ _ h => h) (Or.inl ⟨by rfl, ?_⟩) hHeld ?_
          rotate_left
          · intro w hSw
            (try dsimp only at hSw)
            go_simp
            try with_reducible rfl
          try simp only [Act.put, List.setIfInBounds_toArray, List.set_cons_zero, List.set_cons_succ]
          refine headH_takeS (i := 9) (v := ?_) 30 rfl (by kernel_rfl) (by kernel_rfl) (fun _ _ _ h => h) (Or.inl ⟨by rfl, ?_⟩) hHeld ?_
          rotate_left
          · intro w hSw
            (try dsimp only at hSw)
            go_simp
            try with_reducible rfl
          try simp only [Act.put, List.setIfInBounds_toArray, List.set_cons_zero, List.set_cons_succ]
          refine headH_all (rs := [10]) (by kernel_rfl) (by kernel_rfl) (headH_cons rfl (fun K hK => ?_) headH_nil)
          go_simp
          refine (HTM.out _).mono ?_
          rintro e w2 ⟨rfl, hb2⟩
          try go_simp
          replace hb2 := bdr hb2
          refine hK.out _ _ ⟨bcell hb2 f0, bcell hb2 f1, bcell hb2 f2, bcell hb2 f3, bcell hb2 f4, bcell hb2 f5, bcell hb2 g0, bcell hb2 g1, bcell hb2 g2, bcell hb2 g3, bcell hb2 g4, bcell hb2 g5⟩ (fun hHeldn => ?_)
          clear hK K hHeld
          have hHeld := hHeldn
          clear hHeldn
          try simp only [Act.put, List.setIfInBounds_toArray, List.set_cons_zero, List.set_cons_succ]
          refine headH_all (rs := [11]) (by kernel_rfl) (by kernel_rfl) (headH_cons rfl (fun K hK => ?_) headH_nil)
          go_simp
          refine (HFI.out _ hb2).mono ?_
          rintro e w3 ⟨rfl, hb3⟩
          try go_simp
          have hb23 := btrans hb2 hb3
          refine hK.out _ _ ⟨bcell hb23 f0, bcell hb23 f1, bcell hb23 f2, bcell hb23 f3, bcell hb23 f4, bcell hb23 f5, bcell hb23 g0, bcell hb23 g1, bcell hb23 g2, bcell hb23 g3, bcell hb23 g4, bcell hb23 g5⟩ (fun hHeldn => ?_)
          clear hK K hHeld
          have hHeld := hHeldn
          clear hHeldn
          try simp only [Act.put, List.setIfInBounds_toArray, List.set_cons_zero, List.set_cons_succ]
          refine headH_all (rs := [12]) (by kernel_rfl) (by kernel_rfl) (headH_cons rfl (fun K hK => ?_) headH_nil)
          go_simp
          have hb24 := btrans hb23 (kbelow w3 (.cells #[.int .i64 pv] 2))
          refine hK.out _ _ ⟨bcell hb24 f0, bcell hb24 f1, bcell hb24 f2, bcell hb24 f3, bcell hb24 f4, bcell hb24 f5, bcell hb24 g0, bcell hb24 g1, bcell hb24 g2, bcell hb24 g3, bcell hb24 g4, bcell hb24 g5⟩ (fun hHeldn => ?_)
          clear hK K hHeld
          have hHeld := hHeldn
          clear hHeldn
          try simp only [Act.put, List.setIfInBounds_toArray, List.set_cons_zero, List.set_cons_succ]
          refine headH_tail (by kernel_rfl) ?_
          clear hHeld f0 f1 f2 f3 f4 f5 g0 g1 g2 g3 g4 g5
          have own3 := ownr.below hb23
          have hb4 := btrans hbj hb23
          go_wp2_with (at_builtin; refine wpList_push_int _ rfl (.tmp 21) (.tmp 33) rfl W0.heap.size _ xs rfl (own3.below (kbelow _ _)) ⟨w3.heap.size, 0, none⟩ pv rfl (by simp [go_sem]) (by omega) (btrans hb4 (kbelow _ _)).size ?_; intro v6 w6 hown6 hg6 hv6)
          have hb6 : Below W0.heap.size W0 w6 := Below.grown (btrans hb4 (kbelow _ _)) hg6 (btrans hb4 (kbelow _ _)).size (fun q hq => (own3.lt q hq).1)
          go_wp2
          go_roundw
          case rel => exact ⟨j + 1, by omega, by go_num, by rw [HSN.out]; exact hown6, hb6⟩
          case measure => simp [intOf]; omega
        · obtain rfl : j = l.length := by omega
          rw [List.take_of_length_le (Nat.le_of_eq HRL.out)] at ownr ⊢
          have hbx := btrans hbj (kbelow wr (.cells #[.slice Ar row.length cr] 38))
          have h14 := h1.below hbx
          have hs2 := (OwnInts.mono ownr hb.size).below (kbelow wr (.cells #[.slice Ar row.length cr] 38))
          have hsb : ∀ q, (Sl.v ⟨Ar, cr, row⟩).ownBlock = some q → W0.heap.size ≤ q := fun q hq => (ownr.lt q hq).1
          go_wp2_with (at_builtin; refine wpList_push_sl _ rfl (.tmp 35) (.tmp 37) rfl w.heap.size _ ws rfl h14 ⟨wr.heap.size, 0, none⟩ ⟨Ar, cr, row⟩ rfl (by simp [go_sem]) (by omega) (btrans hb hbx).size ?_; intro v5 w5 hown5 hgrow5 hv5)
          have hss := OwnSS.push (s := ⟨Ar, cr, row⟩) h1 HWS.out.1 HWS.out.2.1 HWS.out.2.2 hbx hs2 hsb hgrow5 hown5
          have hb5 : Below w.heap.size w w5 := (btrans hb hbx).grown hgrow5 (btrans hb hbx).size (fun i hi => (h14.lt i hi).1)
          obtain ⟨A5, c5, rfl, _⟩ := hown5.at_
          go_wp2
          go_roundw
          case rel => exact ⟨k + 1, by omega, by go_num, by rw [HST.out]; exact hss, hb5⟩
          case measure => simp [intOf]; omega
    · obtain rfl : k = l.length := by omega
      rw [List.take_of_length_le (Nat.le_of_eq (tabOf_length l))] at own
      clear h1 h2 h3 h4
      go_wp2
      go_returns
      exact ⟨_, rfl, own, hb⟩
end
set_option maxHeartbeats 2000000 in
set_option maxRecDepth 100000 in
theorem l06Given_c {A : Option Addr} {c : Nat} {ms : List Mp} {most : Nat} {w : World} (h : SeeMaps w A ms) (hn : ms.length ≤ 2097152) (hm : most ≤ 300) :
    Calls Tryz.prog 37 #[.slice A ms.length c, .int .i64 (most : Int)] w (CgPost most ms w) := by
  have hel := l02Elements_c A none c 0 ms [] w hn (by simp) h (see_nil w)
  have HE := Lib.hid hel
  clear hel h
  go_enter Tryz.func37, Tryz.ntmps37
  go_wp2_with fail
  refine HE.out.mono ?_
  rintro e w1 h1
  rcases h1 with ⟨hc, rfl, hb1⟩ | ⟨hc, hbig, rfl, hb1⟩ | ⟨hc, hbig, v, rfl, hown, hb1⟩
  · have hne : (lcode ms [] != 0) = true := bne_iff_ne.2 hc
    have e1 := moC_bad hc
    have HE1 := Lib.hid (show pcC most ms = lcode ms [] by rw [pcC_bad (by rw [e1]; exact hc), e1])
    have HC := Lib.hid hc
    clear e1 hc
    go_wp2
    go_returns
    exact .inl ⟨by rw [HE1.out]; exact HC.out, by rw [HE1.out]; rfl, hb1⟩
  · have e1 := moC_big hc hbig
    have HE1 := Lib.hid (show pcC most ms = 3 by rw [pcC_bad (by rw [e1]; decide), e1])
    clear e1 hc hbig
    go_wp2
    go_returns
    exact .inl ⟨by rw [HE1.out]; decide, by rw [HE1.out]; rfl, hb1⟩
  · have e1 : moC ms [] = 0 := moC_ok hc hbig (fun f hf => by cases hf)
    have hclo := (MonR.of e1).clo
    have hlen := hclo.len
    obtain ⟨Av, cv, rfl, hsv⟩ := hown.see
    by_cases hlt : most < (elsOf ms).length
    · have HE1 := Lib.hid (pcC_big e1 hlt)
      have d : (most : Int) < (elsOf ms).length := by omega
      clear e1 hc hbig hlt hown hclo
      go_wp2
      go_returns
      exact .inl ⟨by rw [HE1.out]; decide, by rw [HE1.out]; rfl, hb1⟩
    · have HE1 := Lib.hid (pcC_ok e1 hlt)
      have HT := Lib.hid (l06Table_c Av cv hsv hclo)
      have d : ¬ (most : Int) < (elsOf ms).length := by omega
      clear e1 hc hbig hlt hown hclo hsv
      go_wp2_with fail
      refine HT.out.mono ?_
      rintro e w2 ⟨v2, rfl, own, hb2⟩
      obtain ⟨Av2, cv2, rfl, _⟩ := own.see
      go_wp2
      go_returns
      exact .inr ⟨HE1.out, _, rfl, own.mono hb1.size, btrans hb1 hb2⟩
end Go.Proofs.YtjepmbjneccagaaGreat
