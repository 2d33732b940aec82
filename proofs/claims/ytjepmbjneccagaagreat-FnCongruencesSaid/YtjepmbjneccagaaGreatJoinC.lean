/- 'MeetCongruences', on both sides. No condition. -/
import Derived.Test.YtjepmbjneccagaaGreatBoth
import Derived.Test.YtjepmbjneccagaaGreatMany
import Derived.Test.YtjepmbjneccagaaGreatWord
namespace Go.Proofs.YtjepmbjneccagaaGreat
set_option linter.unusedSimpArgs false
set_option linter.unusedVariables false
set_option linter.unusedSectionVars false
open Go.RowKit
def meetS (a b : List Int) (k i : Nat) : Bool := decide (cls a k = cls a i) && decide (cls b k = cls b i)
noncomputable def RMeetCongruences (ms : List Mp) (a b : List Int) : List Int × Int := if bothC ms [a, b] = 0 then (numL (meetS a b) (elsOf ms).length, 0) else ([], bothC ms [a, b])
theorem RMeetCongruences_len (ms : List Mp) (a b : List Int) : (RMeetCongruences ms a b).1.length ≤ 1000 := by
  unfold RMeetCongruences
  split
  · rename_i h
    have := (TabR.of (bothC_zero h).1).le
    show (numL _ _).length ≤ 1000
    rw [numL_length]
    omega
  · simp
theorem both_can {ms : List Mp} {a b : List Int} (h : bothC ms [a, b] = 0) : IsCan a (elsOf ms).length ∧ IsCan b (elsOf ms).length ∧ 0 < (elsOf ms).length ∧ (elsOf ms).length ≤ 30 := by
  obtain ⟨h0, h1, _⟩ := bothC_zero h
  exact ⟨(canB_iff _ _).1 (h1 a (by simp)), (canB_iff _ _).1 (h1 b (by simp)), (TabR.of h0).pos, (TabR.of h0).le⟩
set_option maxHeartbeats 2000000 in
theorem meet1_same {N bB oB bC oC B C ca cb : Nat} {a b : List Int} {w : World} (vb : VBox w B (.slice (some ⟨bB, oB, none⟩) N ca)) (vc : VBox w C (.slice (some ⟨bC, oC, none⟩) N cb))
    (ga : ∀ i, i < N → w.cell? ⟨bB, oB + i, none⟩ = some (.int .i64 (cls a i))) (gb : ∀ i, i < N → w.cell? ⟨bC, oC + i, none⟩ = some (.int .i64 (cls b i))) :
    SameP 70 #[.pointer (some ⟨B, 0, none⟩), .pointer (some ⟨C, 0, none⟩)] (meetS a b) N w := fun W k i hW hki hiN => by
  have qB := bwcell (vb.below hW).cell
  have qC := bwcell (vc.below hW).cell
  have ak := bwcell (bcell hW (ga k (by omega)))
  have ai := bwcell (bcell hW (ga i hiN))
  have bk := bwcell (bcell hW (gb k (by omega)))
  have bi := bwcell (bcell hW (gb i hiN))
  have k0 : (0 : Int) ≤ k := by omega
  have k1 : (k : Int) < N := by omega
  have i0 : (0 : Int) ≤ i := by omega
  have i1 : (i : Int) < N := by omega
  show Calls Tryz.prog 70 #[.int .i64 (k : Int), .int .i64 (i : Int), .pointer (some ⟨B, 0, none⟩), .pointer (some ⟨C, 0, none⟩)] W fun e w' => e = .returned (.bool (meetS a b k i)) ∧ Below W.heap.size W w'
  have HR := Lib.hid (show meetS a b k i = (decide (cls a k = cls a i) && decide (cls b k = cls b i)) from rfl)
  obtain ⟨r, hr⟩ : ∃ r, r = meetS a b k i := ⟨_, rfl⟩
  rw [← hr] at HR ⊢
  clear ga gb vb vc hW hr
  generalize cls a k = x at *
  generalize cls a i = y at *
  generalize cls b k = u at *
  generalize cls b i = v at *
  by_cases e1 : x = y
  · have d1 : (x == y) = true := by simpa using e1
    have hd2 : (u == v) = decide (u = v) := by
      by_cases e : u = v
      · rw [e]; simp
      · rw [decide_eq_false e]; exact beq_eq_false_iff_ne.2 e
    have HE := Lib.hid (show r = (u == v) by rw [HR.out, decide_eq_true e1, Bool.true_and, hd2])
    clear e1 hd2 HR
    go_enter Tryz.func70, Tryz.ntmps70
    go_wp2
    refine wp_region_bw (by kernel_rfl) (by kernel_rfl) ?_
    repeat go_big_quiet_step (fail)
    refine wpQuiet_nil ?_
    rintro w2 ⟨⟨w2x, hb2⟩, rfl⟩
    go_wp2
    go_returns
    exact ⟨ret_bool HE.out.symm, hb2⟩
  · have d1 : (x == y) = false := beq_eq_false_iff_ne.2 e1
    have HE := Lib.hid (show r = false by rw [HR.out, decide_eq_false e1]; rfl)
    clear e1 HR
    go_enter Tryz.func70, Tryz.ntmps70
    go_wp2
    refine wp_region_bw (by kernel_rfl) (by kernel_rfl) ?_
    repeat go_big_quiet_step (fail)
    refine wpQuiet_nil ?_
    rintro w2 ⟨⟨w2x, hb2⟩, rfl⟩
    go_wp2
    go_returns
    exact ⟨ret_bool HE.out.symm, hb2⟩
set_option maxHeartbeats 4000000 in
set_option maxRecDepth 100000 in
theorem implMeetCongruences_l {A B C : Option Addr} {c d d' : Nat} {ms : List Mp} {a b : List Int} {w : World} (h : SeeMaps w A ms) (hn : ms.length ≤ 2097152) (hA : NilOk A c) (ha : SeeInts w B a) (hna : a.length ≤ 2097152) (hB : NilOk B d) (hb : SeeInts w C b) (hnb : b.length ≤ 2097152) (hC : NilOk C d') :
    Calls Tryz.prog 35 #[.slice A ms.length c, .slice B a.length d, .slice C b.length d'] w fun e w' => ∃ v, e = .returned (.tuple #[v, .int .i64 (RMeetCongruences ms a b).2]) ∧ OwnInts w' w.heap.size v (RMeetCongruences ms a b).1 ∧ Below w.heap.size w w' := by
  obtain ⟨wa, hwa⟩ : ∃ wa, wa = w.alloc (.cells #[.slice B a.length d] 38) := ⟨_, rfl⟩
  obtain ⟨wb, hwb⟩ : ∃ wb, wb = wa.alloc (.cells #[.slice C b.length d'] 38) := ⟨_, rfl⟩
  obtain ⟨w0, hw0⟩ : ∃ w0, w0 = wb.alloc (.cells #[.slice B a.length d, .slice C b.length d'] 38) := ⟨_, rfl⟩
  have kA : Below w.heap.size w wa := by rw [hwa]; exact kbelow w _
  have kB : Below wa.heap.size wa wb := by rw [hwb]; exact kbelow wa _
  have kC : Below wb.heap.size wb w0 := by rw [hw0]; exact kbelow wb _
  have k0 := btrans kA (btrans kB kC)
  have zA : wa.heap.size = w.heap.size + 1 := by rw [hwa]; simp
  have zB : wb.heap.size = w.heap.size + 2 := by rw [hwb]; simp [zA]
  have va0 : VBox wa w.heap.size (.slice B a.length d) := by rw [hwa]; exact VBox.new _ _ rfl
  have va := va0.below (btrans kB kC)
  have vc0 : VBox wb (w.heap.size + 1) (.slice C b.length d') := by rw [hwb]; exact VBox.new _ _ zA.symm
  have vc := vc0.below kC
  have q0 : w0.cell? ⟨w.heap.size + 2, 0, none⟩ = some (.slice B a.length d) := by rw [hw0, ← zB]; simp [go_sem]
  have q1 : w0.cell? ⟨w.heap.size + 2, 1, none⟩ = some (.slice C b.length d') := by rw [hw0, ← zB]; simp [go_sem]
  have st := see_tab2 q0 q1 (ha.below k0) hB (hb.below k0) hC
  have hcs := congruences_c (A' := some ⟨w.heap.size + 2, 0, none⟩) (c' := 2) (c := c) (lists := [a, b]) (h.below k0) hn hA st (by simp) (fun x hx => by simp at hx; rcases hx with rfl | rfl; exact hna; exact hnb)
  have HCS := Lib.hid hcs
  obtain ⟨r, hr⟩ : ∃ r, r = RMeetCongruences ms a b := ⟨_, rfl⟩
  rw [← hr]
  have HR := Lib.hid hr
  have SA := Lib.hid (ha.below k0)
  have SB := Lib.hid (hb.below k0)
  have KK := Lib.hid k0
  have VA := Lib.hid va
  have VC := Lib.hid vc
  have QA := va.cell
  have QC := vc.cell
  have qa0 := va0.cell
  have qa1 := bcell kB qa0
  have qc1 := vc0.cell
  clear hcs h hr ha hb st q0 q1 hB hC hA va vc va0 vc0
  go_enter Tryz.func35, Tryz.ntmps35
  go_wp2_with fail
  rw [← hwa, ← hwb, ← hw0]
  clear hwa hwb hw0 qa0 qa1 qc1 kA kB kC k0
  refine HCS.out.mono ?_
  rintro e w1 ⟨hb1, hpost⟩
  rcases hpost with ⟨hc, rfl⟩ | ⟨hc, v, rfl, own⟩
  · have E1 := Lib.hid (show r = ([], bothC ms [a, b]) by rw [HR.out]; unfold RMeetCongruences; rw [if_neg hc])
    have d : (bothC ms [a, b] != 0) = true := bne_iff_ne.2 hc
    clear hc
    go_wp2
    go_returns
    rw [E1.out]
    exact ⟨_, rfl, OwnInts.nil _ _, btrans KK.out hb1⟩
  · have E1 := Lib.hid (show r = (numL (meetS a b) (elsOf ms).length, 0) by rw [HR.out]; unfold RMeetCongruences; rw [if_pos hc])
    obtain ⟨hca, hcb, hpos, hle⟩ := both_can hc
    obtain ⟨A1, c1, rfl, _⟩ := own.see
    clear hc own HR
    generalize (elsOf ms).length = N at *
    obtain ⟨bB, oB, rfl, ga⟩ := (SA.out.below hb1).cls (by rw [hca.1]; exact hpos)
    obtain ⟨bC, oC, rfl, gb⟩ := (SB.out.below hb1).cls (by rw [hcb.1]; exact hpos)
    have la := hca.1
    have lb := hcb.1
    rw [la] at QA VA ga
    rw [lb] at QC VC gb
    have QA1 := bcell hb1 QA
    have hnum := numbered_c 70 #[.pointer (some ⟨w.heap.size, 0, none⟩), .pointer (some ⟨w.heap.size + 1, 0, none⟩)] _ (enters_of Tryz.func70 (by kernel_rfl) rfl) N w1 (by omega) (meet1_same (VA.out.below hb1) (VC.out.below hb1) ga gb)
    have HN := Lib.hid hnum
    clear hnum la lb hca hcb ga gb
    go_wp2_with fail
    refine HN.out.mono ?_
    rintro e w3 ⟨v3, rfl, own3, hb3⟩
    obtain ⟨A3, c3, rfl, _⟩ := own3.see
    go_wp2
    go_returns
    rw [E1.out]
    have hb := btrans KK.out hb1
    exact ⟨_, rfl, own3.mono hb.size, btrans hb hb3⟩
def rootTo (a b : List Int) (N k : Nat) : List Int := (List.range k).map fun i => cls a i * (N : Int) + cls b i
theorem rootTo_succ (a b : List Int) (N k : Nat) : rootTo a b N (k + 1) = rootTo a b N k ++ [cls a k * (N : Int) + cls b k] := by unfold rootTo; rw [List.range_succ, List.map_append]; rfl
theorem rootTo_length (a b : List Int) (N k : Nat) : (rootTo a b N k).length = k := by simp [rootTo]
theorem rootTo_cls {a b : List Int} {N k i : Nat} (h : i < k) : cls (rootTo a b N k) i = cls a i * (N : Int) + cls b i := by
  have h1 := cls_get (cl := rootTo a b N k) (i := i) (by rw [rootTo_length]; exact h)
  unfold rootTo at h1 ⊢
  rw [List.getElem?_map, List.getElem?_range h] at h1
  exact (Option.some.inj h1).symm
theorem root_meet {a b : List Int} {N : Nat} (ha : IsCan a N) (hb : IsCan b N) : numL (fun k i => decide (cls (rootTo a b N N) k = cls (rootTo a b N N) i)) (rootTo a b N N).length = numL (meetS a b) N := by
  rw [rootTo_length]
  refine numL_congr fun i k h1 h2 => ?_
  have hk : k < N := by omega
  have hi : i < N := by omega
  show decide (cls (rootTo a b N N) k = cls (rootTo a b N N) i) = meetS a b k i
  rw [show cls (rootTo a b N N) k = _ from rootTo_cls hk, show cls (rootTo a b N N) i = _ from rootTo_cls hi]
  unfold meetS
  have a1 := can_lt ha hk
  have a2 := can_lt ha hi
  have b1 := can_lt hb hk
  have b2 := can_lt hb hi
  rw [← Bool.decide_and, decide_eq_decide]
  generalize cls a k = x at *
  generalize cls a i = y at *
  generalize cls b k = u at *
  generalize cls b i = v at *
  constructor
  · intro h
    have hN : (0 : Int) < N := by omega
    have e1 : (x * (N : Int) + u) / N = x := by
      rw [Int.add_comm, Int.add_mul_ediv_right _ _ (by omega), Int.ediv_eq_zero_of_lt b1.1 b1.2]; omega
    have e2 : (y * (N : Int) + v) / N = y := by
      rw [Int.add_comm, Int.add_mul_ediv_right _ _ (by omega), Int.ediv_eq_zero_of_lt b2.1 b2.2]; omega
    rw [h, e2] at e1
    subst e1
    exact ⟨rfl, by omega⟩
  · rintro ⟨rfl, rfl⟩; rfl
set_option maxHeartbeats 4000000 in
set_option maxRecDepth 100000 in
theorem specMeetCongruences_l {A B C : Option Addr} {c d d' : Nat} {ms : List Mp} {a b : List Int} {w : World} (h : SeeMaps w A ms) (hn : ms.length ≤ 2097152) (hA : NilOk A c) (ha : SeeInts w B a) (hna : a.length ≤ 2097152) (hB : NilOk B d) (hb : SeeInts w C b) (hnb : b.length ≤ 2097152) (hC : NilOk C d') :
    Calls Tryz.prog 36 #[.slice A ms.length c, .slice B a.length d, .slice C b.length d'] w fun e w' => ∃ v, e = .returned (.tuple #[v, .int .i64 (RMeetCongruences ms a b).2]) ∧ OwnInts w' w.heap.size v (RMeetCongruences ms a b).1 ∧ Below w.heap.size w w' := by
  have hcs := l06Both_c (c := c) h hn ha hna hB hb hnb hC
  have HCS := Lib.hid hcs
  obtain ⟨r, hr⟩ : ∃ r, r = RMeetCongruences ms a b := ⟨_, rfl⟩
  rw [← hr]
  have HR := Lib.hid hr
  have SA := Lib.hid ha
  have SB := Lib.hid hb
  clear hcs h hr ha hb hB hC hA
  go_enter Tryz.func36, Tryz.ntmps36
  go_wp2_with fail
  refine HCS.out.mono ?_
  rintro e w1 ⟨hb1, hpost⟩
  rcases hpost with ⟨hc, rfl⟩ | ⟨hc, v, rfl, own⟩
  · have E1 := Lib.hid (show r = ([], bothC ms [a, b]) by rw [HR.out]; unfold RMeetCongruences; rw [if_neg hc])
    have d : (bothC ms [a, b] != 0) = true := bne_iff_ne.2 hc
    clear hc
    go_wp2
    go_returns
    rw [E1.out]
    exact ⟨_, rfl, OwnInts.nil _ _, hb1⟩
  · obtain ⟨hca, hcb, hpos, hle⟩ := both_can hc
    have E1 := Lib.hid (show r = (numL (fun k i => decide (cls (rootTo a b (elsOf ms).length (elsOf ms).length) k = cls (rootTo a b (elsOf ms).length (elsOf ms).length) i)) (rootTo a b (elsOf ms).length (elsOf ms).length).length, 0) by rw [HR.out, root_meet hca hcb]; unfold RMeetCongruences; rw [if_pos hc])
    obtain ⟨A1, c1, rfl, _⟩ := own.see
    rw [tabOf_length]
    clear hc own HR
    generalize (elsOf ms).length = N at *
    have hla := hca.1
    have hlb := hcb.1
    obtain ⟨bB, oB, rfl, ga⟩ := SA.out.cls (by rw [hla]; exact hpos)
    obtain ⟨bC, oC, rfl, gb⟩ := SB.out.cls (by rw [hlb]; exact hpos)
    rw [hla] at ga ⊢
    rw [hlb] at gb ⊢
    have GA := Lib.hid ga
    have GB := Lib.hid gb
    have CA := Lib.hid hca
    have CB := Lib.hid hcb
    clear hla hlb hca hcb ga gb
    go_wp2
    go_loopw [11, 10] (fun kv out wr => ∃ k : Nat, k ≤ N ∧ kv = .int .i64 k ∧ OwnInts wr w.heap.size out (rootTo a b N k) ∧ Below w.heap.size w wr) (fun kv _ _ => N - (intOf kv).toNat)
    case atStart => exact ⟨0, Nat.zero_le _, rfl, ⟨rfl, .inr ⟨w1.heap.size, 0, #[], rfl, hb1.size, heap_alloc_new w1 _, Nat.le_refl _, by decide, rfl, rfl⟩⟩, btrans hb1 (kbelow _ _)⟩
    case round =>
      obtain ⟨k, hk, rfl, hown, hb⟩ := hrel
      have l0 : (0 : Int) ≤ k := by omega
      have hl := rootTo_length a b N k
      by_cases hlt : k < N
      · have l1 : (k : Int) < N := by omega
        have qa := bcell hb (GA.out k hlt)
        have qb := bcell hb (GB.out k hlt)
        have ra := can_lt CA.out hlt
        have rb := can_lt CB.out hlt
        have HS := Lib.hid (rootTo_succ a b N k)
        generalize rootTo a b N k = xs at *
        generalize cls a k = x at *
        generalize cls b k = y at *
        have hx30 : x ≤ 30 := by omega
        have hxN : 0 ≤ x * (N : Int) ∧ x * (N : Int) ≤ 900 := ⟨Int.mul_nonneg ra.1 (by omega), by
          have := Int.mul_le_mul hx30 (by omega : (N : Int) ≤ 30) (by omega) (by omega)
          omega⟩
        have HX := Lib.hid (show ∃ p q : Int, p = x * (N : Int) ∧ q = p + y from ⟨_, _, rfl, rfl⟩)
        obtain ⟨p, q, hp, hq⟩ := HX.out
        have hmul0 : IntKind.i64.wrap (x * (N : Int)) = p := by rw [hp]; exact IntWalk.i64_in _ (by omega)
        have hadd0 : IntKind.i64.wrap (p + y) = q := by rw [hq]; exact IntWalk.i64_in _ (by omega)
        have HQ := Lib.hid (show q = x * (N : Int) + y by rw [hq, hp])
        have hxl : xs.length ≤ 1000 := by omega
        have hz := hb.size
        clear hp hq HX hxN ra rb hx30 hl
        obtain ⟨Ao, co, rfl, _⟩ := hown.see
        go_wp2
        refine wp_region_headS 14 (fun w' => w'.cell? ⟨bB, oB + k, none⟩ = some (.int .i64 x) ∧ w'.cell? ⟨bC, oC + k, none⟩ = some (.int .i64 y)) (by kernel_rfl) (by kernel_rfl) ⟨qa, qb⟩ (fun hHeld => ?_)
        simp only [List.drop]
        refine headH_takeS (i := 0) (v := ?_) 29 rfl (by kernel_rfl) (by kernel_rfl) (fun _ _ _ h => h) (Or.inl ⟨by rfl, ?_⟩) hHeld ?_
        rotate_left
        · intro w hSw
          (try dsimp only at hSw)
          go_simp
          try with_reducible rfl
        try simp only [Act.put, List.setIfInBounds_toArray, List.set_cons_zero, List.set_cons_succ]
        refine headH_takeS (i := 1) (v := ?_) 30 rfl (by kernel_rfl) (by kernel_rfl) (fun _ _ _ h => h) (Or.inl ⟨by rfl, ?_⟩) hHeld ?_
        rotate_left
        · intro w hSw
          (try dsimp only at hSw)
          go_simp
          try with_reducible rfl
        try simp only [Act.put, List.setIfInBounds_toArray, List.set_cons_zero, List.set_cons_succ]
        refine headH_takeS (i := 2) (v := ?_) 31 rfl (by kernel_rfl) (by kernel_rfl) (fun _ _ _ h => h) (Or.inl ⟨by rfl, ?_⟩) hHeld ?_
        rotate_left
        · intro w hSw
          (try dsimp only at hSw)
          go_simp
          try with_reducible rfl
        try simp only [Act.put, List.setIfInBounds_toArray, List.set_cons_zero, List.set_cons_succ]
        refine headH_takeS (i := 3) (v := ?_) 32 rfl (by kernel_rfl) (by kernel_rfl) (fun _ _ _ h => h) (Or.inl ⟨by rfl, ?_⟩) hHeld ?_
        rotate_left
        · intro w hSw
          (try dsimp only at hSw)
          go_simp
          try with_reducible rfl
        try simp only [Act.put, List.setIfInBounds_toArray, List.set_cons_zero, List.set_cons_succ]
        refine headH_takeS (i := 4) (v := ?_) 33 rfl (by kernel_rfl) (by kernel_rfl) (fun _ _ _ h => h) (Or.inl ⟨by rfl, ?_⟩) hHeld ?_
        rotate_left
        · intro w hSw
          (try dsimp only at hSw)
          go_simp
          try with_reducible rfl
        try simp only [Act.put, List.setIfInBounds_toArray, List.set_cons_zero, List.set_cons_succ]
        refine headH_takeS (i := 5) (v := ?_) 34 rfl (by kernel_rfl) (by kernel_rfl) (fun _ _ _ h => h) (Or.inl ⟨by rfl, ?_⟩) hHeld ?_
        rotate_left
        · intro w hSw
          (try dsimp only at hSw)
          go_simp
          try with_reducible rfl
        try simp only [Act.put, List.setIfInBounds_toArray, List.set_cons_zero, List.set_cons_succ]
        refine headH_takeS (i := 6) (v := ?_) 35 rfl (by kernel_rfl) (by kernel_rfl) (fun _ _ _ h => h) (Or.inl ⟨by rfl, ?_⟩) hHeld ?_
        rotate_left
        · intro w hSw
          (try dsimp only at hSw)
          go_simp
          try with_reducible rfl
        try simp only [Act.put, List.setIfInBounds_toArray, List.set_cons_zero, List.set_cons_succ]
        refine headH_takeS (i := 7) (v := ?_) 36 rfl (by kernel_rfl) (by kernel_rfl) (fun _ _ _ h => h) (Or.inl ⟨by rfl, ?_⟩) hHeld ?_
        rotate_left
        · intro w hSw
          (try dsimp only at hSw)
          go_simp
          try with_reducible rfl
        try simp only [Act.put, List.setIfInBounds_toArray, List.set_cons_zero, List.set_cons_succ]
        refine headH_takeS (i := 8) (v := ?_) 37 rfl (by kernel_rfl) (by kernel_rfl) (fun _ _ _ h => h) (Or.inl ⟨by rfl, ?_⟩) hHeld ?_
        rotate_left
        · intro w hSw
          (try dsimp only at hSw)
          go_simp
          try with_reducible rfl
        try simp only [Act.put, List.setIfInBounds_toArray, List.set_cons_zero, List.set_cons_succ]
        refine headH_takeS (i := 9) (v := ?_) 38 rfl (by kernel_rfl) (by kernel_rfl) (fun _ _ _ h => h) (Or.inl ⟨by rfl, ?_⟩) hHeld ?_
        rotate_left
        · intro w hSw
          (try dsimp only at hSw)
          go_simp
          try with_reducible rfl
        try simp only [Act.put, List.setIfInBounds_toArray, List.set_cons_zero, List.set_cons_succ]
        refine headH_takeS (i := 10) (v := ?_) 39 rfl (by kernel_rfl) (by kernel_rfl) (fun _ _ _ h => h) (Or.inl ⟨by rfl, ?_⟩) hHeld ?_
        rotate_left
        · intro w hSw
          (try dsimp only at hSw)
          go_simp
          try with_reducible rfl
        try simp only [Act.put, List.setIfInBounds_toArray, List.set_cons_zero, List.set_cons_succ]
        refine headH_takeS (i := 11) (v := ?_) 40 rfl (by kernel_rfl) (by kernel_rfl) (fun _ _ _ h => h) (Or.inl ⟨by rfl, ?_⟩) hHeld ?_
        rotate_left
        · intro w hSw
          (try dsimp only at hSw)
          go_simp
          try with_reducible rfl
        try simp only [Act.put, List.setIfInBounds_toArray, List.set_cons_zero, List.set_cons_succ]
        refine headH_takeS (i := 12) (v := ?_) 41 rfl (by kernel_rfl) (by kernel_rfl) (fun _ _ _ h => h) (Or.inl ⟨by rfl, ?_⟩) hHeld ?_
        rotate_left
        · intro w hSw
          (try dsimp only at hSw)
          go_simp
          try with_reducible rfl
        try simp only [Act.put, List.setIfInBounds_toArray, List.set_cons_zero, List.set_cons_succ]
        refine headH_all (rs := [13]) (by kernel_rfl) (by kernel_rfl) (headH_cons rfl (fun K hK => ?_) headH_nil)
        go_simp
        refine hK.out _ _ ⟨bcell (kbelow wr.drew _) qa, bcell (kbelow wr.drew _) qb⟩ (fun hHeldn => ?_)
        clear hK K hHeld
        have hHeld := hHeldn
        clear hHeldn
        try simp only [Act.put, List.setIfInBounds_toArray, List.set_cons_zero, List.set_cons_succ]
        refine headH_tail (by kernel_rfl) ?_
        clear hHeld
        go_wp2_with (at_builtin; refine wpList_push_int _ rfl (.tmp 29) (.tmp 42) rfl w.heap.size _ xs rfl (hown.below (by go_grown)) ⟨wr.heap.size, 0, none⟩ q rfl (by simp [go_sem]) (by omega) (by go_size) ?_; intro v' w3 hown' hgrow hv')
        go_roundw
        case rel => exact ⟨k + 1, by omega, by go_num, by rw [HS.out, ← HQ.out]; exact hown', Below.grown (w := wr.drew.alloc (.cells #[.int .i64 q] 2)) (by go_grown) hgrow (by simp; omega) (fun j hj => (hown.lt j hj).1)⟩
        case measure => simp [intOf]; omega
      · have ek : k = N := by omega
        subst ek
        obtain ⟨Ao, co, rfl, so⟩ := hown.see
        have hnm := l06Named_c Ao co (rootTo a b k k) wr so (by omega)
        have HNM := Lib.hid hnm
        have nlt : ¬ (k : Int) < k := by omega
        clear hnm so hl
        go_wp2_with fail
        refine HNM.out.mono ?_
        rintro e w4 ⟨v4, rfl, own4, hb4⟩
        obtain ⟨A4, c4, rfl, _⟩ := own4.see
        go_wp2
        go_returns
        rw [E1.out]
        exact ⟨_, rfl, own4.mono hb.size, btrans hb hb4⟩
/-! 'JoinCongruences', on both sides. -/
/-- the first place with the same number -/
def fstOf (c : List Int) (i : Nat) : Nat := (fidx (fun x => decide (cls c i = x)) c).toNat
theorem fst_spec {c : List Int} {i : Nat} (hi : i < c.length) : fidx (fun x => decide (cls c i = x)) c = (fstOf c i : Int) ∧ fstOf c i < c.length ∧ cls c (fstOf c i) = cls c i := by
  have key : ∃ j : Nat, fidx (fun x => decide (cls c i = x)) c = (j : Int) ∧ j < c.length ∧ cls c j = cls c i := by
    unfold fidx
    cases hf : c.findIdx? (fun x => decide (cls c i = x)) with
    | none =>
      have := List.findIdx?_eq_none_iff.1 hf (cls c i) (List.mem_of_getElem? (cls_get hi))
      simp at this
    | some j =>
      obtain ⟨h1, h2, _⟩ := List.findIdx?_eq_some_iff_getElem.1 hf
      refine ⟨j, rfl, h1, ?_⟩
      have h3 := cls_get (cl := c) (i := j) h1
      rw [List.getElem?_eq_getElem h1] at h3
      have h4 := Option.some.inj h3
      rw [h4] at h2
      exact (of_decide_eq_true h2).symm
  obtain ⟨j, h1, h2, h3⟩ := key
  have e : fstOf c i = j := by unfold fstOf; rw [h1]; rfl
  rw [e]
  exact ⟨h1, h2, h3⟩
def prsTo (c : List Int) (k : Nat) : List (List Int) := (List.range k).map fun (i : Nat) => [(i : Int), (fstOf c i : Int)]
theorem prsTo_succ (c : List Int) (k : Nat) : prsTo c (k + 1) = prsTo c k ++ [[(k : Int), (fstOf c k : Int)]] := by unfold prsTo; rw [List.range_succ, List.map_append]; rfl
theorem prsTo_length (c : List Int) (k : Nat) : (prsTo c k).length = k := by simp [prsTo]
theorem prsTo_mem {c : List Int} {k : Nat} {pr : List Int} : pr ∈ prsTo c k ↔ ∃ i : Nat, i < k ∧ pr = [(i : Int), (fstOf c i : Int)] := by
  unfold prsTo
  rw [List.mem_map]
  exact ⟨fun ⟨i, h1, h2⟩ => ⟨i, List.mem_range.1 h1, h2.symm⟩, fun ⟨i, h1, h2⟩ => ⟨i, List.mem_range.2 h1, h2.symm⟩⟩
def orR (a b : List Int) (i k : Nat) : Prop := relL a i k ∨ relL b i k
theorem genL_congr {N : Nat} {T : Nat → Nat → Nat} {both : Bool} {P Q : Nat → Nat → Prop} (h : ∀ x y, x < N → y < N → P x y → Gen N T both Q x y) (h' : ∀ x y, x < N → y < N → Q x y → Gen N T both P x y) : genL N T both P = genL N T both Q := by
  unfold genL
  refine numL_congr fun i k _ _ => ?_
  rw [decide_eq_decide]
  exact gen_congr h h'
theorem prs_gen {N : Nat} {T : Nat → Nat → Nat} {a b : List Int} (ha : a.length = N) (hb : b.length = N) : genL N T true (PairP (prsTo a N ++ prsTo b N)) = genL N T true (orR a b) := by
  refine genL_congr (fun x y hx hy h => ?_) (fun x y hx hy h => ?_)
  · unfold PairP at h
    rcases List.mem_append.1 h with h | h
    all_goals
      obtain ⟨i, hi, e⟩ := prsTo_mem.1 h
      simp only [List.cons.injEq, and_true] at e
      obtain ⟨e1, e2⟩ := e
      obtain rfl : x = i := by omega
    · obtain rfl : y = fstOf a x := by omega
      exact gen_of hx hy (.inl (fst_spec (by omega)).2.2.symm)
    · obtain rfl : y = fstOf b x := by omega
      exact gen_of hx hy (.inr (fst_spec (by omega)).2.2.symm)
  · have E := gen_eqv (N := N) (T := T) (both := true) (P := PairP (prsTo a N ++ prsTo b N))
    have one : ∀ c : List Int, c.length = N → (∀ i, i < N → [(i : Int), (fstOf c i : Int)] ∈ prsTo a N ++ prsTo b N) → relL c x y → Gen N T true (PairP (prsTo a N ++ prsTo b N)) x y := fun c hc hm hr => by
      have f1 := fst_spec (c := c) (i := x) (by omega)
      have f2 := fst_spec (c := c) (i := y) (by omega)
      have e : fstOf c x = fstOf c y := by unfold fstOf; rw [show cls c x = cls c y from hr]
      have g1 : Gen N T true (PairP (prsTo a N ++ prsTo b N)) x (fstOf c x) := gen_of hx (by omega) (hm x hx)
      have g2 : Gen N T true (PairP (prsTo a N ++ prsTo b N)) y (fstOf c x) := by rw [e]; exact gen_of hy (by omega) (hm y hy)
      exact E.trans x (fstOf c x) y hx (by omega) hy g1 (E.symm y (fstOf c x) hy (by omega) g2)
    rcases h with h | h
    · exact one a ha (fun i hi => List.mem_append_left _ (prsTo_mem.2 ⟨i, hi, rfl⟩)) h
    · exact one b hb (fun i hi => List.mem_append_right _ (prsTo_mem.2 ⟨i, hi, rfl⟩)) h
theorem own_two (w : World) (base : Nat) (hb : base ≤ w.heap.size) (x y : Int) : OwnInts (w.alloc (.cells #[.int .i64 x, .int .i64 y] 2)) base (.slice (some ⟨w.heap.size, 0, none⟩) 2 2) [x, y] :=
  ⟨rfl, .inr ⟨w.heap.size, 2, _, rfl, hb, heap_alloc_new w _, Nat.le_refl _, by decide, rfl, rfl⟩⟩
/-- the two rows that are gone through -/
def prsUp (a b : List Int) (N j : Nat) : List (List Int) := if j = 0 then [] else if j = 1 then prsTo a N else prsTo a N ++ prsTo b N
section
variable {rows : List (List Int)} {N : Nat} {T : Nat → Nat → Nat}
set_option maxHeartbeats 8000000 in
set_option maxRecDepth 100000 in
theorem join_c {A B C : Option Addr} {c d d' : Nat} {a b : List Int} {w : World} (ht : TabOk rows N T) (h0 : 0 < N) (hN : N ≤ 300) (h : SeeTab w A rows) (ha : SeeInts w B a) (hla : a.length = N) (hb : SeeInts w C b) (hlb : b.length = N) :
    Calls Tryz.prog 55 #[.slice A N c, .slice B N d, .slice C N d'] w fun e w' => ∃ v, e = .returned v ∧ OwnInts w' w.heap.size v (genL N T true (orR a b)) ∧ Below w.heap.size w w' := by
  obtain ⟨w0, hw0⟩ : ∃ w0, w0 = w.alloc (.cells #[.slice B N d, .slice C N d'] 38) := ⟨_, rfl⟩
  have k0 : Below w.heap.size w w0 := by rw [hw0]; exact kbelow w _
  have q0 : w0.cell? ⟨w.heap.size, 0, none⟩ = some (.slice B N d) := by rw [hw0]; simp [go_sem]
  have q1 : w0.cell? ⟨w.heap.size, 1, none⟩ = some (.slice C N d') := by rw [hw0]; simp [go_sem]
  have HJ : Hid (∀ j, j < 2 → ∃ (D : Option Addr) (dc : Nat) (cl : List Int), w0.cell? ⟨w.heap.size, j, none⟩ = some (.slice D N dc) ∧ SeeInts w0 D cl ∧ cl.length = N ∧ prsUp a b N (j + 1) = prsUp a b N j ++ prsTo cl N) := Lib.hid fun j hj => by
    match j, hj with
    | 0, _ => exact ⟨B, d, a, q0, ha.below k0, hla, by simp [prsUp]⟩
    | 1, _ => exact ⟨C, d', b, q1, hb.below k0, hlb, by simp [prsUp]⟩
  have HM := Lib.hid (fun W Ap cp (hW : SeeTab W A rows) (hp : SeeTab W Ap (prsTo a N ++ prsTo b N)) => made_c A Ap c cp (prsTo a N ++ prsTo b N) true W ht h0 hN hW hp (fun pr hpr => by
    rcases List.mem_append.1 hpr with h | h
    · obtain ⟨i, hi, rfl⟩ := prsTo_mem.1 h
      exact ⟨i, fstOf a i, rfl, hi, by have := (fst_spec (c := a) (i := i) (by omega)).2.1; omega⟩
    · obtain ⟨i, hi, rfl⟩ := prsTo_mem.1 h
      exact ⟨i, fstOf b i, rfl, hi, by have := (fst_spec (c := b) (i := i) (by omega)).2.1; omega⟩) (by rw [List.length_append, prsTo_length, prsTo_length]; omega))
  have HT := Lib.hid (h.below k0)
  obtain ⟨res, hres⟩ : ∃ res, res = genL N T true (orR a b) := ⟨_, rfl⟩
  rw [← hres]
  have HRES := Lib.hid (show genL N T true (PairP (prsTo a N ++ prsTo b N)) = res by rw [hres]; exact prs_gen hla hlb)
  have HL2 := Lib.hid (show (prsUp a b N 2) = prsTo a N ++ prsTo b N from rfl)
  have HPL := Lib.hid (show ∀ j, j ≤ 2 → (prsUp a b N j).length ≤ 600 from fun j hj => by
    unfold prsUp
    split
    · simp
    · split
      · rw [prsTo_length]; omega
      · rw [List.length_append, prsTo_length, prsTo_length]; omega)
  have HNL := Lib.hid (show (prsTo a N ++ prsTo b N).length ≤ 600 by rw [List.length_append, prsTo_length, prsTo_length]; omega)
  have KK := Lib.hid k0
  clear h ha hb hres ht hla hlb q0 q1 k0
  go_enter Tryz.func55, Tryz.ntmps55
  go_wp2
  rw [← hw0]
  clear hw0
  go_loopw [16, 7] (fun jv out wr => ∃ (j : Nat), j ≤ 2 ∧ jv = .int .i64 j ∧ OwnSS wr w0.heap.size out (prsUp a b N j) ∧ Below w0.heap.size w0 wr) (fun jv _ _ => 2 - (intOf jv).toNat)
  case atStart => exact ⟨0, by omega, rfl, OwnSS.nil _ _, Below.refl _ _⟩
  case round =>
    obtain ⟨j, hj, rfl, own, hb0⟩ := hrel
    have j0 : (0 : Int) ≤ j := by omega
    by_cases hlt : j < 2
    · have j1 : (j : Int) < 2 := by omega
      obtain ⟨D, dc, cl, qd, sd, hcl, hup⟩ := HJ.out j hlt
      have hpl := HPL.out j hj
      have qd1 := bcell hb0 qd
      have HUP := Lib.hid hup
      obtain ⟨bD, oD, rfl, gd⟩ := sd.cls (by rw [hcl]; exact h0)
      rw [hcl] at gd
      have GD := Lib.hid gd
      have SD := Lib.hid sd
      have HCL := Lib.hid hcl
      generalize prsUp a b N j = base0 at *
      clear hup qd gd sd hcl
      go_wp2
      go_loopw [22, 7] (fun iv out wr => ∃ (k : Nat), k ≤ N ∧ iv = .int .i64 k ∧ OwnSS wr w0.heap.size out (base0 ++ prsTo cl k) ∧ Below w0.heap.size w0 wr) (fun iv _ _ => N - (intOf iv).toNat)
      case atStart => exact ⟨0, Nat.zero_le _, rfl, by simpa [prsTo] using own, hb0⟩
      case round =>
        clear own hb0 qd1
        obtain ⟨k, hk, rfl, own, hb0⟩ := hrel
        have k0 : (0 : Int) ≤ k := by omega
        by_cases hkl : k < N
        · have k1 : (k : Int) < N := by omega
          have qk := bcell hb0 (GD.out k hkl)
          have hix := IndexI_c (some ⟨bD, oD, none⟩) dc cl (cls cl k) wr (SD.out.below hb0) (by rw [HCL.out]; omega)
          rw [(fst_spec (c := cl) (i := k) (by rw [HCL.out]; exact hkl)).1, HCL.out] at hix
          have HSU := Lib.hid (show base0 ++ prsTo cl (k + 1) = (base0 ++ prsTo cl k) ++ [[(k : Int), (fstOf cl k : Int)]] by rw [prsTo_succ, List.append_assoc])
          have hln : (base0 ++ prsTo cl k).length ≤ 1000 := by rw [List.length_append, prsTo_length]; omega
          generalize cls cl k = x at *
          generalize fstOf cl k = y at *
          generalize base0 ++ prsTo cl k = vals at *
          have HIX := Lib.hid hix
          obtain ⟨ws, h1, h2, h3, h4⟩ := own.ex
          have hwl : ws.length = vals.length := by rw [← h4, List.length_map]
          have H4 := Lib.hid h4
          have HW := Lib.hid hwl
          obtain ⟨Ao, co, rfl, _⟩ := h1.at_
          clear hix own h4 hwl
          go_wp2_with fail
          refine HIX.out.mono ?_
          rintro e w4 ⟨rfl, hb4⟩
          have h14 := h1.below hb4
          have hbx : Below w4.heap.size w4 ((w4.alloc (.cells #[.int .i64 (k : Int), .int .i64 (y : Int)] 2)).alloc (.cells #[.slice (some ⟨w4.heap.size, 0, none⟩) 2 2] 38)) := by go_grown
          have hz4 := (btrans hb0 hb4).size
          have hs2 := (own_two w4 w0.heap.size hz4 (k : Int) (y : Int)).below (kbelow _ (.cells #[.slice (some ⟨w4.heap.size, 0, none⟩) 2 2] 38))
          go_wp2_with (at_builtin; refine wpList_push_sl _ rfl (.tmp 27) (.tmp 33) rfl w0.heap.size _ ws rfl (h14.below hbx) ⟨w4.heap.size + 1, 0, none⟩ ⟨some ⟨w4.heap.size, 0, none⟩, 2, [(k : Int), (y : Int)]⟩ rfl (by simp [go_sem]) (by have := HW.out; omega) (by simp; omega) ?_; intro v5 w5 hown5 hgrow5 hv5; have hss := OwnSS.push (s := ⟨some ⟨w4.heap.size, 0, none⟩, 2, [(k : Int), (y : Int)]⟩) h14 (h2.below hb4) h3 H4.out hbx hs2 (fun i hi => by simp [Sl.v, Value.ownBlock] at hi; omega) hgrow5 hown5; obtain ⟨A5, c5, rfl, _⟩ := hown5.at_)
          go_roundw
          case rel => exact ⟨k + 1, by omega, by go_num, by rw [HSU.out]; simpa using hss, (btrans (btrans hb0 hb4) hbx).grown hgrow5 (by simp; omega) (fun i hi => (h14.lt i hi).1)⟩
          case measure => simp [intOf]; omega
        · have ek : k = N := by omega
          have HE := Lib.hid (show OwnSS wr w0.heap.size _ (prsUp a b N (j + 1)) by rw [HUP.out, ← ek]; exact own)
          obtain ⟨Ao, co, rfl, _⟩ := own.see
          have nlt : ¬ (k : Int) < N := by omega
          clear ek own hkl
          go_wp2
          go_roundw
          case rel => exact ⟨j + 1, by omega, by go_num, HE.out, hb0⟩
          case measure => simp [intOf]; omega
    · have ej : j = 2 := by omega
      subst ej
      rw [HL2.out] at own
      have hnl := HNL.out
      generalize prsTo a N ++ prsTo b N = prs at *
      obtain ⟨Ao, co, rfl, _⟩ := own.see
      have HMM := Lib.hid (HM.out wr Ao co (HT.out.below hb0) own.tab)
      clear own hlt
      go_wp2_with fail
      refine HMM.out.mono ?_
      rintro e w5 ⟨v5, rfl, own5, hb5⟩
      rw [HRES.out] at own5
      obtain ⟨A5, c5, rfl, _⟩ := own5.see
      go_wp2
      go_returns
      have hb := btrans KK.out hb0
      exact ⟨_, rfl, own5.mono hb.size, btrans hb hb5⟩
end
/-- the roots while the second row is gone through -/
structure JnI (N : Nat) (T : Nat → Nat → Nat) (a b : List Int) (i k : Nat) (cq : List Int) : Prop where
  len : cq.length = N
  sound : ∀ x y, x < N → y < N → relL cq x y → Gen N T true (orR a b) x y
  left : ∀ x y, x < N → y < N → relL a x y → relL cq x y
  done : ∀ x y, x < i → y < x → x < N → relL b x y → relL cq x y
  part : ∀ y, y < k → y < i → i < N → relL b i y → relL cq i y
theorem JnI.join {N : Nat} {T : Nat → Nat → Nat} {a b cq : List Int} {i k : Nat} (h : JnI N T a b i k cq) (hi : i < N) (hk : k < i) (hb : relL b i k) : JnI N T a b i (k + 1) (joinL cq (cls cq k) (cls cq i)) := by
  have hl := h.len
  have kp : ∀ x y, x < N → y < N → relL cq x y → relL (joinL cq (cls cq k) (cls cq i)) x y := fun x y hx hy hr => join_keeps (by omega) (by omega) hr
  have hik : relL (joinL cq (cls cq k) (cls cq i)) i k := (joinL_rel (by omega) (by omega)).2 (.inr ⟨.inr rfl, .inl rfl⟩)
  refine ⟨by rw [joinL_length]; exact hl, sound_join hl h.sound (by omega) hi (gen_of (by omega) hi (.inr (Eq.symm hb))), fun x y hx hy hr => kp x y hx hy (h.left x y hx hy hr), fun x y hx hy hxN hr => kp x y hxN (by omega) (h.done x y hx hy hxN hr), fun y hy hyi hiN hr => ?_⟩
  rcases Nat.lt_or_ge y k with h1 | h1
  · exact kp i y hi (by omega) (h.part y h1 hyi hiN hr)
  · obtain rfl : y = k := by omega
    exact hik
theorem JnI.skip {N : Nat} {T : Nat → Nat → Nat} {a b cq : List Int} {i k : Nat} (h : JnI N T a b i k cq) (hb : relL b i k → relL cq i k) : JnI N T a b i (k + 1) cq :=
  ⟨h.len, h.sound, h.left, h.done, fun y hy hyi hiN hr => by
    rcases Nat.lt_or_ge y k with h1 | h1
    · exact h.part y h1 hyi hiN hr
    · obtain rfl : y = k := by omega
      exact hb hr⟩
theorem JnI.next {N : Nat} {T : Nat → Nat → Nat} {a b cq : List Int} {i : Nat} (h : JnI N T a b i i cq) : JnI N T a b (i + 1) 0 cq :=
  ⟨h.len, h.sound, h.left, fun x y hx hy hxN hr => by
    rcases Nat.lt_or_ge x i with h1 | h1
    · exact h.done x y h1 hy hxN hr
    · obtain rfl : x = i := by omega
      exact h.part y hy hy hxN hr, fun y hy => absurd hy (by omega)⟩
theorem JnI.start {N : Nat} {T : Nat → Nat → Nat} {a b : List Int} (ha : a.length = N) : JnI N T a b 0 0 a :=
  ⟨ha, fun x y hx hy hr => gen_of hx hy (.inl hr), fun x y _ _ hr => hr, fun x y hx => absurd hx (by omega), fun y hy => absurd hy (by omega)⟩
theorem JnI.fin {N : Nat} {T : Nat → Nat → Nat} {a b cq : List Int} (h : JnI N T a b N 0 cq) : ClI N T true (orR a b) cq :=
  ⟨h.len, h.sound, fun x y hx hy hr => by
    rcases hr with hr | hr
    · exact h.left x y hx hy hr
    · rcases Nat.lt_trichotomy x y with h1 | h1 | h1
      · exact Eq.symm (h.done y x hy h1 hy (Eq.symm hr))
      · subst h1; rfl
      · exact h.done x y hx h1 hx hr⟩
section
variable {rows : List (List Int)} {N : Nat} {T : Nat → Nat → Nat}
set_option maxHeartbeats 8000000 in
set_option maxRecDepth 100000 in
theorem l06Joined_c {A B C : Option Addr} {c d d' : Nat} {a b : List Int} {w : World} (ht : TabOk rows N T) (h0 : 0 < N) (hN : N ≤ 300) (h : SeeTab w A rows) (ha : SeeInts w B a) (hla : a.length = N) (hB : NilOk B d) (hb : SeeInts w C b) (hlb : b.length = N) :
    Calls Tryz.prog 52 #[.slice A N c, .slice B N d, .slice C N d'] w fun e w' => ∃ v, e = .returned v ∧ OwnInts w' w.heap.size v (genL N T true (orR a b)) ∧ Below w.heap.size w w' := by
  have hown := l01Own_c B d a w ha hB (by omega)
  rw [hla] at hown
  have HO := Lib.hid hown
  obtain ⟨bC, oC, rfl, gb⟩ := hb.cls (by rw [hlb]; exact h0)
  rw [hlb] at gb
  have GB := Lib.hid gb
  have HT := Lib.hid h
  have HLA := Lib.hid hla
  have HCLO := Lib.hid (fun W g c1 cq (hW : SeeTab W A rows) (hr : SeeInts W (some ⟨g, 0, none⟩) cq) (hi : ClI N T true (orR a b) cq) => l06Closed_c A (some ⟨g, 0, none⟩) c c1 cq true (orR a b) W ht h0 hN hW hr hi (fun h => by cases h))
  have HST := Lib.hid (JnI.start (T := T) (b := b) hla)
  obtain ⟨res, hres⟩ : ∃ res, res = genL N T true (orR a b) := ⟨_, rfl⟩
  rw [← hres] at HCLO ⊢
  clear ht h ha hb gb hown hla hres hlb
  go_enter Tryz.func52, Tryz.ntmps52
  go_wp2_with fail
  refine HO.out.mono ?_
  rintro e w1 ⟨v1, rfl, own1, hb1⟩
  obtain ⟨A1, c1, rfl, s1⟩ := own1.see
  rw [HLA.out] at own1 ⊢
  obtain ⟨g, o, e1, _⟩ := s1.cls (by rw [HLA.out]; exact h0)
  subst e1
  have eo : o = 0 := by
    rcases own1.2 with ⟨h1, _⟩ | ⟨_, _, _, h1, _⟩
    · simp at h1
    · simp at h1; exact h1.1.2
  subst eo
  have hg0 := (own1.lt g rfl).1
  clear s1 HO
  go_wp2
  go_loopw [8] (fun iv wr => ∃ (i : Nat) (cq : List Int), i ≤ N ∧ iv = .int .i64 i ∧ OwnInts wr w.heap.size (.slice (some ⟨g, 0, none⟩) N c1) cq ∧ Hid (JnI N T a b i 0 cq) ∧ Below w.heap.size w wr) (fun iv _ => N - (intOf iv).toNat)
  case atStart => exact ⟨0, a, Nat.zero_le _, rfl, own1, HST, hb1⟩
  case round =>
    clear own1 HST hb1
    obtain ⟨i, cq, hi, rfl, own, hI, hb⟩ := hrel
    have i0 : (0 : Int) ≤ i := by omega
    by_cases hilt : i < N
    · have i1 : (i : Int) < N := by omega
      go_wp2
      go_loopw [9] (fun kv wr => ∃ (k : Nat) (cq : List Int), k ≤ i ∧ kv = .int .i64 k ∧ OwnInts wr w.heap.size (.slice (some ⟨g, 0, none⟩) N c1) cq ∧ Hid (JnI N T a b i k cq) ∧ Below w.heap.size w wr) (fun kv _ => i - (intOf kv).toNat)
      case atStart => exact ⟨0, cq, Nat.zero_le _, rfl, own, hI, hb⟩
      case round =>
        clear own hI hb
        obtain ⟨k, cq, hk, rfl, own, hI, hb⟩ := hrel
        have k0 : (0 : Int) ≤ k := by omega
        by_cases hklt : k < i
        · have k1 : (k : Int) < i := by omega
          have k2 : (k : Int) < N := by omega
          have hlq := hI.out.len
          have qi0 := bcell hb (GB.out i hilt)
          have qk0 := bcell hb (GB.out k (by omega))
          have qi := bwcell qi0
          have qk := bwcell qk0
          have ri0 := own.at_ (cls_get (cl := cq) (i := i) (by omega))
          have rk0 := own.at_ (cls_get (cl := cq) (i := k) (by omega))
          have ri := bwcell ri0
          have rk := bwcell rk0
          have OWN := Lib.hid own
          have HRB := Lib.hid (show relL b i k ↔ cls b i = cls b k from Iff.rfl)
          have HRC := Lib.hid (show relL cq i k ↔ cls cq i = cls cq k from Iff.rfl)
          have HJN := Lib.hid (fun (hr : relL b i k) => hI.out.join hilt hklt hr)
          have hjoin := fun W (hW : OwnInts W w.heap.size (.slice (some ⟨g, 0, none⟩) N c1) cq) => l06Join_c g c1 w.heap.size cq (cls cq k) (cls cq i) W (by rw [hlq]; exact hW) (by omega)
          rw [hlq] at hjoin
          have HJO := Lib.hid hjoin
          clear hjoin own hlq qi0 qk0 ri0 rk0
          obtain ⟨nq, hnq⟩ : ∃ nq, nq = joinL cq (cls cq k) (cls cq i) := ⟨_, rfl⟩
          rw [← hnq] at HJN HJO
          clear hnq
          generalize cls b i = x at *
          generalize cls b k = y at *
          generalize cls cq i = u at *
          generalize cls cq k = v at *
          by_cases e1 : x = y
          · have d1 : (x == y) = true := by simpa using e1
            have HB := Lib.hid (HRB.out.2 e1)
            by_cases e2 : u = v
            · have d2 : (u != v) = false := by simpa using e2
              have HN := Lib.hid (hI.out.skip (fun _ => HRC.out.2 e2))
              clear e1 e2
              go_wp2
              refine wp_region_bw (by kernel_rfl) (by kernel_rfl) ?_
              repeat go_big_quiet_step (fail)
              refine wpQuiet_nil ?_
              rintro w4 ⟨⟨w4x, hb4⟩, rfl⟩
              go_wp2
              go_roundw
              case rel => exact ⟨k + 1, cq, by omega, by go_num, OWN.out.below hb4, HN, btrans hb hb4⟩
              case measure => simp [intOf]; omega
            · have d2 : (u != v) = true := bne_iff_ne.2 e2
              have HN := Lib.hid (HJN.out HB.out)
              clear e1 e2
              go_wp2
              refine wp_region_bw (by kernel_rfl) (by kernel_rfl) ?_
              repeat go_big_quiet_step (fail)
              refine wpQuiet_nil ?_
              rintro w4 ⟨⟨w4x, hb4⟩, rfl⟩
              have ri4 := ri ⟨w4, hb4⟩
              have rk4 := rk ⟨w4, hb4⟩
              simp only at ri4 rk4
              have hjo := HJO.out w4.drew (OWN.out.below (Below.drew hb4))
              have HJ4 := Lib.hid hjo
              clear hjo
              go_wp2
              refine wp_region_headS 9 (fun w' => w'.cell? ⟨g, i, none⟩ = some (.int .i64 u) ∧ w'.cell? ⟨g, k, none⟩ = some (.int .i64 v)) (by kernel_rfl) (by kernel_rfl) ⟨ri4, rk4⟩ (fun hHeld => ?_)
              simp only [List.drop]
              refine headH_takeS (i := 0) (v := ?_) 43 rfl (by kernel_rfl) (by kernel_rfl) (fun _ _ _ h => h) (Or.inl ⟨by rfl, ?_⟩) hHeld ?_
              rotate_left
              · intro w hSw
                (try dsimp only at hSw)
                go_simp
                try with_reducible rfl
              try simp only [Act.put, List.setIfInBounds_toArray, List.set_cons_zero, List.set_cons_succ]
              refine headH_takeS (i := 1) (v := ?_) 44 rfl (by kernel_rfl) (by kernel_rfl) (fun _ _ _ h => h) (Or.inl ⟨by rfl, ?_⟩) hHeld ?_
              rotate_left
              · intro w hSw
                (try dsimp only at hSw)
                go_simp
                try with_reducible rfl
              try simp only [Act.put, List.setIfInBounds_toArray, List.set_cons_zero, List.set_cons_succ]
              refine headH_takeS (i := 2) (v := ?_) 45 rfl (by kernel_rfl) (by kernel_rfl) (fun _ _ _ h => h) (Or.inl ⟨by rfl, ?_⟩) hHeld ?_
              rotate_left
              · intro w hSw
                (try dsimp only at hSw)
                go_simp
                try with_reducible rfl
              try simp only [Act.put, List.setIfInBounds_toArray, List.set_cons_zero, List.set_cons_succ]
              refine headH_takeS (i := 3) (v := ?_) 46 rfl (by kernel_rfl) (by kernel_rfl) (fun _ _ _ h => h) (Or.inl ⟨by rfl, ?_⟩) hHeld ?_
              rotate_left
              · intro w hSw
                (try dsimp only at hSw)
                go_simp
                try with_reducible rfl
              try simp only [Act.put, List.setIfInBounds_toArray, List.set_cons_zero, List.set_cons_succ]
              refine headH_takeS (i := 4) (v := ?_) 47 rfl (by kernel_rfl) (by kernel_rfl) (fun _ _ _ h => h) (Or.inl ⟨by rfl, ?_⟩) hHeld ?_
              rotate_left
              · intro w hSw
                (try dsimp only at hSw)
                go_simp
                try with_reducible rfl
              try simp only [Act.put, List.setIfInBounds_toArray, List.set_cons_zero, List.set_cons_succ]
              refine headH_takeS (i := 5) (v := ?_) 48 rfl (by kernel_rfl) (by kernel_rfl) (fun _ _ _ h => h) (Or.inl ⟨by rfl, ?_⟩) hHeld ?_
              rotate_left
              · intro w hSw
                (try dsimp only at hSw)
                go_simp
                try with_reducible rfl
              try simp only [Act.put, List.setIfInBounds_toArray, List.set_cons_zero, List.set_cons_succ]
              refine headH_takeS (i := 6) (v := ?_) 49 rfl (by kernel_rfl) (by kernel_rfl) (fun _ _ _ h => h) (Or.inl ⟨by rfl, ?_⟩) hHeld ?_
              rotate_left
              · intro w hSw
                (try dsimp only at hSw)
                go_simp
                try with_reducible rfl
              try simp only [Act.put, List.setIfInBounds_toArray, List.set_cons_zero, List.set_cons_succ]
              refine headH_takeS (i := 7) (v := ?_) 50 rfl (by kernel_rfl) (by kernel_rfl) (fun _ _ _ h => h) (Or.inl ⟨by rfl, ?_⟩) hHeld ?_
              rotate_left
              · intro w hSw
                (try dsimp only at hSw)
                go_simp
                try with_reducible rfl
              try simp only [Act.put, List.setIfInBounds_toArray, List.set_cons_zero, List.set_cons_succ]
              refine headH_takeS (i := 8) (v := ?_) 51 rfl (by kernel_rfl) (by kernel_rfl) (fun _ _ _ h => h) (Or.inl ⟨by rfl, ?_⟩) hHeld ?_
              rotate_left
              · intro w hSw
                (try dsimp only at hSw)
                go_simp
                try with_reducible rfl
              try simp only [Act.put, List.setIfInBounds_toArray, List.set_cons_zero, List.set_cons_succ]
              refine headH_tail (by kernel_rfl) ?_
              clear hHeld
              go_wp2_with fail
              refine HJ4.out.mono ?_
              rintro e w5 ⟨rfl, own5, hk5⟩
              have hb5 : Below w.heap.size w w5 := (btrans hb (Below.drew hb4)).trans (hk5.below (by have := (btrans hb (Below.drew hb4)).size; omega) (fun q hq => by show q ≠ g; omega))
              go_wp2
              go_roundw
              case rel => exact ⟨k + 1, nq, by omega, by go_num, own5, HN, hb5⟩
              case measure => simp [intOf]; omega
          · have d1 : (x == y) = false := beq_eq_false_iff_ne.2 e1
            have HN := Lib.hid (hI.out.skip (fun hr => absurd (HRB.out.1 hr) e1))
            clear e1
            go_wp2
            refine wp_region_bw (by kernel_rfl) (by kernel_rfl) ?_
            repeat go_big_quiet_step (fail)
            refine wpQuiet_nil ?_
            rintro w4 ⟨⟨w4x, hb4⟩, rfl⟩
            go_wp2
            go_roundw
            case rel => exact ⟨k + 1, cq, by omega, by go_num, OWN.out.below hb4, HN, btrans hb hb4⟩
            case measure => simp [intOf]; omega
        · have ek : k = i := by omega
          subst ek
          have nlt : ¬ (k : Int) < k := by omega
          have HN := Lib.hid hI.out.next
          clear hklt
          go_wp2
          go_roundw
          case rel => exact ⟨k + 1, cq, by omega, by go_num, own, HN, hb⟩
          case measure => simp [intOf]; omega
    · have ei : i = N := by omega
      subst ei
      have nlt : ¬ (i : Int) < i := by omega
      have HCC := Lib.hid (HCLO.out wr g c1 cq (HT.out.below hb) own.see' hI.out.fin)
      clear hilt own
      go_wp2_with fail
      refine HCC.out.mono ?_
      rintro e w5 ⟨v5, rfl, own5, hb5⟩
      obtain ⟨A5, c5, rfl, _⟩ := own5.see
      go_wp2
      go_returns
      exact ⟨_, rfl, own5.mono hb.size, btrans hb hb5⟩
end
noncomputable def RJoinCongruences (ms : List Mp) (a b : List Int) : List Int × Int := if bothC ms [a, b] = 0 then (genL (elsOf ms).length (mpl (elsOf ms)) true (orR a b), 0) else ([], bothC ms [a, b])
theorem RJoinCongruences_len (ms : List Mp) (a b : List Int) : (RJoinCongruences ms a b).1.length ≤ 1000 := by
  unfold RJoinCongruences
  split
  · rename_i h
    have := (TabR.of (bothC_zero h).1).le
    show (genL _ _ _ _).length ≤ 1000
    rw [genL_length]
    omega
  · simp
set_option maxHeartbeats 4000000 in
set_option maxRecDepth 100000 in
theorem implJoinCongruences_l {A B C : Option Addr} {c d d' : Nat} {ms : List Mp} {a b : List Int} {w : World} (h : SeeMaps w A ms) (hn : ms.length ≤ 2097152) (hA : NilOk A c) (ha : SeeInts w B a) (hna : a.length ≤ 2097152) (hB : NilOk B d) (hb : SeeInts w C b) (hnb : b.length ≤ 2097152) (hC : NilOk C d') :
    Calls Tryz.prog 33 #[.slice A ms.length c, .slice B a.length d, .slice C b.length d'] w fun e w' => ∃ v, e = .returned (.tuple #[v, .int .i64 (RJoinCongruences ms a b).2]) ∧ OwnInts w' w.heap.size v (RJoinCongruences ms a b).1 ∧ Below w.heap.size w w' := by
  obtain ⟨w0, hw0⟩ : ∃ w0, w0 = w.alloc (.cells #[.slice B a.length d, .slice C b.length d'] 38) := ⟨_, rfl⟩
  have k0 : Below w.heap.size w w0 := by rw [hw0]; exact kbelow w _
  have q0 : w0.cell? ⟨w.heap.size, 0, none⟩ = some (.slice B a.length d) := by rw [hw0]; simp [go_sem]
  have q1 : w0.cell? ⟨w.heap.size, 1, none⟩ = some (.slice C b.length d') := by rw [hw0]; simp [go_sem]
  have st := see_tab2 q0 q1 (ha.below k0) hB (hb.below k0) hC
  have hcs := congruences_c (A' := some ⟨w.heap.size, 0, none⟩) (c' := 2) (c := c) (lists := [a, b]) (h.below k0) hn hA st (by simp) (fun x hx => by simp at hx; rcases hx with rfl | rfl; exact hna; exact hnb)
  have SA := Lib.hid (ha.below k0)
  have SB := Lib.hid (hb.below k0)
  have KK := Lib.hid k0
  have HCS := Lib.hid hcs
  obtain ⟨r, hr⟩ : ∃ r, r = RJoinCongruences ms a b := ⟨_, rfl⟩
  rw [← hr]
  have HR := Lib.hid hr
  have NB := Lib.hid hB
  clear hcs h hr ha hb hC hA hB st q0 q1 k0
  go_enter Tryz.func33, Tryz.ntmps33
  go_wp2_with fail
  rw [← hw0]
  clear hw0
  refine HCS.out.mono ?_
  rintro e w1 ⟨hb1, hpost⟩
  rcases hpost with ⟨hc, rfl⟩ | ⟨hc, v, rfl, own⟩
  · have E1 := Lib.hid (show r = ([], bothC ms [a, b]) by rw [HR.out]; unfold RJoinCongruences; rw [if_neg hc])
    have d : (bothC ms [a, b] != 0) = true := bne_iff_ne.2 hc
    clear hc
    go_wp2
    go_returns
    rw [E1.out]
    exact ⟨_, rfl, OwnInts.nil _ _, btrans KK.out hb1⟩
  · have E1 := Lib.hid (show r = (genL (elsOf ms).length (mpl (elsOf ms)) true (orR a b), 0) by rw [HR.out]; unfold RJoinCongruences; rw [if_pos hc])
    obtain ⟨hca, hcb, hpos, hle⟩ := both_can hc
    have HOK := Lib.hid (TabR.of (bothC_zero hc).1).tab
    obtain ⟨A1, c1, rfl, _⟩ := own.see
    have HTAB := Lib.hid own.tab
    rw [tabOf_length]
    clear hc own HR
    generalize tabOf (elsOf ms) = rows at *
    generalize mpl (elsOf ms) = T at *
    generalize (elsOf ms).length = N at *
    have HJ := Lib.hid (join_c (c := c1) (d := d) (d' := d') HOK.out hpos (by omega) HTAB.out (SA.out.below hb1) hca.1 (SB.out.below hb1) hcb.1)
    have la := hca.1
    have lb := hcb.1
    rw [la, lb]
    clear la lb hca hcb
    go_wp2_with fail
    refine HJ.out.mono ?_
    rintro e w3 ⟨v3, rfl, own3, hb3⟩
    obtain ⟨A3, c3, rfl, _⟩ := own3.see
    go_wp2
    go_returns
    rw [E1.out]
    have hb := btrans KK.out hb1
    exact ⟨_, rfl, own3.mono hb.size, btrans hb hb3⟩
set_option maxHeartbeats 4000000 in
set_option maxRecDepth 100000 in
theorem specJoinCongruences_l {A B C : Option Addr} {c d d' : Nat} {ms : List Mp} {a b : List Int} {w : World} (h : SeeMaps w A ms) (hn : ms.length ≤ 2097152) (hA : NilOk A c) (ha : SeeInts w B a) (hna : a.length ≤ 2097152) (hB : NilOk B d) (hb : SeeInts w C b) (hnb : b.length ≤ 2097152) (hC : NilOk C d') :
    Calls Tryz.prog 34 #[.slice A ms.length c, .slice B a.length d, .slice C b.length d'] w fun e w' => ∃ v, e = .returned (.tuple #[v, .int .i64 (RJoinCongruences ms a b).2]) ∧ OwnInts w' w.heap.size v (RJoinCongruences ms a b).1 ∧ Below w.heap.size w w' := by
  have hcs := l06Both_c (c := c) h hn ha hna hB hb hnb hC
  have SA := Lib.hid ha
  have SB := Lib.hid hb
  have KK := Lib.hid (Below.refl w.heap.size w)
  have HCS := Lib.hid hcs
  obtain ⟨r, hr⟩ : ∃ r, r = RJoinCongruences ms a b := ⟨_, rfl⟩
  rw [← hr]
  have HR := Lib.hid hr
  have NB := Lib.hid hB
  clear hcs h hr ha hb hC hA hB
  go_enter Tryz.func34, Tryz.ntmps34
  go_wp2_with fail
  refine HCS.out.mono ?_
  rintro e w1 ⟨hb1, hpost⟩
  rcases hpost with ⟨hc, rfl⟩ | ⟨hc, v, rfl, own⟩
  · have E1 := Lib.hid (show r = ([], bothC ms [a, b]) by rw [HR.out]; unfold RJoinCongruences; rw [if_neg hc])
    have d : (bothC ms [a, b] != 0) = true := bne_iff_ne.2 hc
    clear hc
    go_wp2
    go_returns
    rw [E1.out]
    exact ⟨_, rfl, OwnInts.nil _ _, hb1⟩
  · have E1 := Lib.hid (show r = (genL (elsOf ms).length (mpl (elsOf ms)) true (orR a b), 0) by rw [HR.out]; unfold RJoinCongruences; rw [if_pos hc])
    obtain ⟨hca, hcb, hpos, hle⟩ := both_can hc
    have HOK := Lib.hid (TabR.of (bothC_zero hc).1).tab
    obtain ⟨A1, c1, rfl, _⟩ := own.see
    have HTAB := Lib.hid own.tab
    rw [tabOf_length]
    clear hc own HR
    generalize tabOf (elsOf ms) = rows at *
    generalize mpl (elsOf ms) = T at *
    generalize (elsOf ms).length = N at *
    have HJ := Lib.hid (l06Joined_c (c := c1) (d := d) (d' := d') HOK.out hpos (by omega) HTAB.out (SA.out.below hb1) hca.1 NB.out (SB.out.below hb1) hcb.1)
    have la := hca.1
    have lb := hcb.1
    rw [la, lb]
    clear la lb hca hcb
    go_wp2_with fail
    refine HJ.out.mono ?_
    rintro e w3 ⟨v3, rfl, own3, hb3⟩
    obtain ⟨A3, c3, rfl, _⟩ := own3.see
    go_wp2
    go_returns
    rw [E1.out]
    have hb := hb1
    exact ⟨_, rfl, own3.mono hb.size, btrans hb hb3⟩
end Go.Proofs.YtjepmbjneccagaaGreat
