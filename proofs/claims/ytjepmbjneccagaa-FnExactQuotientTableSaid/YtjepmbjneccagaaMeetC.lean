/- 'MeetCongruences', on both sides. No condition. -/
import Derived.Test.YtjepmbjneccagaaBoth
namespace Go.Proofs.Ytjepmbjneccagaa
set_option linter.unusedSimpArgs false
set_option linter.unusedVariables false
set_option linter.unusedSectionVars false
open Go.RowKit
theorem can_lt {cl : List Int} {n : Nat} (h : IsCan cl n) {i : Nat} (hi : i < n) : 0 ≤ cls cl i ∧ cls cl i < n := by
  have h1 := num_can h
  have h2 := nbTo_next_nonneg (fun k i => decide (cls cl k = cls cl i)) n
  have h3 : cls cl i ∈ cl := List.mem_of_getElem? (cls_get (by rw [h.1]; exact hi))
  have h4 : cl = (nbTo (fun k i => decide (cls cl k = cls cl i)) n).1 := h1.symm
  have h5 := h2.2.2 (cls cl i) (by rw [← h4]; exact h3)
  omega
def meetS (a b : List Int) (k i : Nat) : Bool := decide (cls a k = cls a i) && decide (cls b k = cls b i)
noncomputable def RMeetCongruences (ms : List Mp) (a b : List Int) : List Int × Int := if bothC ms [a, b] = 0 then (numL (meetS a b) (elsOf ms).length, 0) else ([], bothC ms [a, b])
theorem RMeetCongruences_len (ms : List Mp) (a b : List Int) : (RMeetCongruences ms a b).1.length ≤ 1000 := by
  unfold RMeetCongruences
  split
  · rename_i h
    have := (TabR.of (bothC_zero h).1).le
    show (numL _ _).length ≤ 1000
    rw [numL_length]
    omega
  · simp
theorem both_can {ms : List Mp} {a b : List Int} (h : bothC ms [a, b] = 0) : IsCan a (elsOf ms).length ∧ IsCan b (elsOf ms).length ∧ 0 < (elsOf ms).length ∧ (elsOf ms).length ≤ 30 := by
  obtain ⟨h0, h1, _⟩ := bothC_zero h
  exact ⟨(canB_iff _ _).1 (h1 a (by simp)), (canB_iff _ _).1 (h1 b (by simp)), (TabR.of h0).pos, (TabR.of h0).le⟩
set_option maxHeartbeats 2000000 in
theorem meet1_same {N bB oB bC oC B C ca cb : Nat} {a b : List Int} {w : World} (vb : VBox w B (.slice (some ⟨bB, oB, none⟩) N ca)) (vc : VBox w C (.slice (some ⟨bC, oC, none⟩) N cb))
    (ga : ∀ i, i < N → w.cell? ⟨bB, oB + i, none⟩ = some (.int .i64 (cls a i))) (gb : ∀ i, i < N → w.cell? ⟨bC, oC + i, none⟩ = some (.int .i64 (cls b i))) :
    SameP 47 #[.pointer (some ⟨B, 0, none⟩), .pointer (some ⟨C, 0, none⟩)] (meetS a b) N w := fun W k i hW hki hiN => by
  have qB := bwcell (vb.below hW).cell
  have qC := bwcell (vc.below hW).cell
  have ak := bwcell (bcell hW (ga k (by omega)))
  have ai := bwcell (bcell hW (ga i hiN))
  have bk := bwcell (bcell hW (gb k (by omega)))
  have bi := bwcell (bcell hW (gb i hiN))
  have k0 : (0 : Int) ≤ k := by omega
  have k1 : (k : Int) < N := by omega
  have i0 : (0 : Int) ≤ i := by omega
  have i1 : (i : Int) < N := by omega
  show Calls Try.prog 47 #[.int .i64 (k : Int), .int .i64 (i : Int), .pointer (some ⟨B, 0, none⟩), .pointer (some ⟨C, 0, none⟩)] W fun e w' => e = .returned (.bool (meetS a b k i)) ∧ Below W.heap.size W w'
  have HR := Lib.hid (show meetS a b k i = (decide (cls a k = cls a i) && decide (cls b k = cls b i)) from rfl)
  obtain ⟨r, hr⟩ : ∃ r, r = meetS a b k i := ⟨_, rfl⟩
  rw [← hr] at HR ⊢
  clear ga gb vb vc hW hr
  generalize cls a k = x at *
  generalize cls a i = y at *
  generalize cls b k = u at *
  generalize cls b i = v at *
  by_cases e1 : x = y
  · have d1 : (x == y) = true := by simpa using e1
    have hd2 : (u == v) = decide (u = v) := by
      by_cases e : u = v
      · rw [e]; simp
      · rw [decide_eq_false e]; exact beq_eq_false_iff_ne.2 e
    have HE := Lib.hid (show r = (u == v) by rw [HR.out, decide_eq_true e1, Bool.true_and, hd2])
    clear e1 hd2 HR
    go_enter Try.func47, Try.ntmps47
    go_wp2
    refine wp_region_bw (by kernel_rfl) (by kernel_rfl) ?_
    repeat go_big_quiet_step (fail)
    refine wpQuiet_nil ?_
    rintro w2 ⟨⟨w2x, hb2⟩, rfl⟩
    go_wp2
    go_returns
    exact ⟨ret_bool HE.out.symm, hb2⟩
  · have d1 : (x == y) = false := beq_eq_false_iff_ne.2 e1
    have HE := Lib.hid (show r = false by rw [HR.out, decide_eq_false e1]; rfl)
    clear e1 HR
    go_enter Try.func47, Try.ntmps47
    go_wp2
    refine wp_region_bw (by kernel_rfl) (by kernel_rfl) ?_
    repeat go_big_quiet_step (fail)
    refine wpQuiet_nil ?_
    rintro w2 ⟨⟨w2x, hb2⟩, rfl⟩
    go_wp2
    go_returns
    exact ⟨ret_bool HE.out.symm, hb2⟩
set_option maxHeartbeats 4000000 in
set_option maxRecDepth 100000 in
theorem implMeetCongruences_l {A B C : Option Addr} {c d d' : Nat} {ms : List Mp} {a b : List Int} {w : World} (h : SeeMaps w A ms) (hn : ms.length ≤ 2097152) (hA : NilOk A c) (ha : SeeInts w B a) (hna : a.length ≤ 2097152) (hB : NilOk B d) (hb : SeeInts w C b) (hnb : b.length ≤ 2097152) (hC : NilOk C d') :
    Calls Try.prog 20 #[.slice A ms.length c, .slice B a.length d, .slice C b.length d'] w fun e w' => ∃ v, e = .returned (.tuple #[v, .int .i64 (RMeetCongruences ms a b).2]) ∧ OwnInts w' w.heap.size v (RMeetCongruences ms a b).1 ∧ Below w.heap.size w w' := by
  obtain ⟨wa, hwa⟩ : ∃ wa, wa = w.alloc (.cells #[.slice B a.length d] 23) := ⟨_, rfl⟩
  obtain ⟨wb, hwb⟩ : ∃ wb, wb = wa.alloc (.cells #[.slice C b.length d'] 23) := ⟨_, rfl⟩
  obtain ⟨w0, hw0⟩ : ∃ w0, w0 = wb.alloc (.cells #[.slice B a.length d, .slice C b.length d'] 23) := ⟨_, rfl⟩
  have kA : Below w.heap.size w wa := by rw [hwa]; exact kbelow w _
  have kB : Below wa.heap.size wa wb := by rw [hwb]; exact kbelow wa _
  have kC : Below wb.heap.size wb w0 := by rw [hw0]; exact kbelow wb _
  have k0 := btrans kA (btrans kB kC)
  have zA : wa.heap.size = w.heap.size + 1 := by rw [hwa]; simp
  have zB : wb.heap.size = w.heap.size + 2 := by rw [hwb]; simp [zA]
  have va0 : VBox wa w.heap.size (.slice B a.length d) := by rw [hwa]; exact VBox.new _ _ rfl
  have va := va0.below (btrans kB kC)
  have vc0 : VBox wb (w.heap.size + 1) (.slice C b.length d') := by rw [hwb]; exact VBox.new _ _ zA.symm
  have vc := vc0.below kC
  have q0 : w0.cell? ⟨w.heap.size + 2, 0, none⟩ = some (.slice B a.length d) := by rw [hw0, ← zB]; simp [go_sem]
  have q1 : w0.cell? ⟨w.heap.size + 2, 1, none⟩ = some (.slice C b.length d') := by rw [hw0, ← zB]; simp [go_sem]
  have st := see_tab2 q0 q1 (ha.below k0) hB (hb.below k0) hC
  have hcs := congruences_c (A' := some ⟨w.heap.size + 2, 0, none⟩) (c' := 2) (c := c) (lists := [a, b]) (h.below k0) hn hA st (by simp) (fun x hx => by simp at hx; rcases hx with rfl | rfl; exact hna; exact hnb)
  have HCS := Lib.hid hcs
  obtain ⟨r, hr⟩ : ∃ r, r = RMeetCongruences ms a b := ⟨_, rfl⟩
  rw [← hr]
  have HR := Lib.hid hr
  have SA := Lib.hid (ha.below k0)
  have SB := Lib.hid (hb.below k0)
  have KK := Lib.hid k0
  have VA := Lib.hid va
  have VC := Lib.hid vc
  have QA := va.cell
  have QC := vc.cell
  have qa0 := va0.cell
  have qa1 := bcell kB qa0
  have qc1 := vc0.cell
  clear hcs h hr ha hb st q0 q1 hB hC hA va vc va0 vc0
  go_enter Try.func20, Try.ntmps20
  go_wp2_with fail
  rw [← hwa, ← hwb, ← hw0]
  clear hwa hwb hw0 qa0 qa1 qc1 kA kB kC k0
  refine HCS.out.mono ?_
  rintro e w1 ⟨hb1, hpost⟩
  rcases hpost with ⟨hc, rfl⟩ | ⟨hc, v, rfl, own⟩
  · have E1 := Lib.hid (show r = ([], bothC ms [a, b]) by rw [HR.out]; unfold RMeetCongruences; rw [if_neg hc])
    have d : (bothC ms [a, b] != 0) = true := bne_iff_ne.2 hc
    clear hc
    go_wp2
    go_returns
    rw [E1.out]
    exact ⟨_, rfl, OwnInts.nil _ _, btrans KK.out hb1⟩
  · have E1 := Lib.hid (show r = (numL (meetS a b) (elsOf ms).length, 0) by rw [HR.out]; unfold RMeetCongruences; rw [if_pos hc])
    obtain ⟨hca, hcb, hpos, hle⟩ := both_can hc
    obtain ⟨A1, c1, rfl, _⟩ := own.see
    clear hc own HR
    generalize (elsOf ms).length = N at *
    obtain ⟨bB, oB, rfl, ga⟩ := (SA.out.below hb1).cls (by rw [hca.1]; exact hpos)
    obtain ⟨bC, oC, rfl, gb⟩ := (SB.out.below hb1).cls (by rw [hcb.1]; exact hpos)
    have la := hca.1
    have lb := hcb.1
    rw [la] at QA VA ga
    rw [lb] at QC VC gb
    have QA1 := bcell hb1 QA
    have hnum := numbered_c 47 #[.pointer (some ⟨w.heap.size, 0, none⟩), .pointer (some ⟨w.heap.size + 1, 0, none⟩)] _ (enters_of Try.func47 (by kernel_rfl) rfl) N w1 (by omega) (meet1_same (VA.out.below hb1) (VC.out.below hb1) ga gb)
    have HN := Lib.hid hnum
    clear hnum la lb hca hcb ga gb
    go_wp2_with fail
    refine HN.out.mono ?_
    rintro e w3 ⟨v3, rfl, own3, hb3⟩
    obtain ⟨A3, c3, rfl, _⟩ := own3.see
    go_wp2
    go_returns
    rw [E1.out]
    have hb := btrans KK.out hb1
    exact ⟨_, rfl, own3.mono hb.size, btrans hb hb3⟩
def rootTo (a b : List Int) (N k : Nat) : List Int := (List.range k).map fun i => cls a i * (N : Int) + cls b i
theorem rootTo_succ (a b : List Int) (N k : Nat) : rootTo a b N (k + 1) = rootTo a b N k ++ [cls a k * (N : Int) + cls b k] := by unfold rootTo; rw [List.range_succ, List.map_append]; rfl
theorem rootTo_length (a b : List Int) (N k : Nat) : (rootTo a b N k).length = k := by simp [rootTo]
theorem rootTo_cls {a b : List Int} {N k i : Nat} (h : i < k) : cls (rootTo a b N k) i = cls a i * (N : Int) + cls b i := by
  have h1 := cls_get (cl := rootTo a b N k) (i := i) (by rw [rootTo_length]; exact h)
  unfold rootTo at h1 ⊢
  rw [List.getElem?_map, List.getElem?_range h] at h1
  exact (Option.some.inj h1).symm
theorem root_meet {a b : List Int} {N : Nat} (ha : IsCan a N) (hb : IsCan b N) : numL (fun k i => decide (cls (rootTo a b N N) k = cls (rootTo a b N N) i)) (rootTo a b N N).length = numL (meetS a b) N := by
  rw [rootTo_length]
  refine numL_congr fun i k h1 h2 => ?_
  have hk : k < N := by omega
  have hi : i < N := by omega
  show decide (cls (rootTo a b N N) k = cls (rootTo a b N N) i) = meetS a b k i
  rw [show cls (rootTo a b N N) k = _ from rootTo_cls hk, show cls (rootTo a b N N) i = _ from rootTo_cls hi]
  unfold meetS
  have a1 := can_lt ha hk
  have a2 := can_lt ha hi
  have b1 := can_lt hb hk
  have b2 := can_lt hb hi
  rw [← Bool.decide_and, decide_eq_decide]
  generalize cls a k = x at *
  generalize cls a i = y at *
  generalize cls b k = u at *
  generalize cls b i = v at *
  constructor
  · intro h
    have hN : (0 : Int) < N := by omega
    have e1 : (x * (N : Int) + u) / N = x := by
      rw [Int.add_comm, Int.add_mul_ediv_right _ _ (by omega), Int.ediv_eq_zero_of_lt b1.1 b1.2]; omega
    have e2 : (y * (N : Int) + v) / N = y := by
      rw [Int.add_comm, Int.add_mul_ediv_right _ _ (by omega), Int.ediv_eq_zero_of_lt b2.1 b2.2]; omega
    rw [h, e2] at e1
    subst e1
    exact ⟨rfl, by omega⟩
  · rintro ⟨rfl, rfl⟩; rfl
set_option maxHeartbeats 4000000 in
set_option maxRecDepth 100000 in
theorem specMeetCongruences_l {A B C : Option Addr} {c d d' : Nat} {ms : List Mp} {a b : List Int} {w : World} (h : SeeMaps w A ms) (hn : ms.length ≤ 2097152) (hA : NilOk A c) (ha : SeeInts w B a) (hna : a.length ≤ 2097152) (hB : NilOk B d) (hb : SeeInts w C b) (hnb : b.length ≤ 2097152) (hC : NilOk C d') :
    Calls Try.prog 19 #[.slice A ms.length c, .slice B a.length d, .slice C b.length d'] w fun e w' => ∃ v, e = .returned (.tuple #[v, .int .i64 (RMeetCongruences ms a b).2]) ∧ OwnInts w' w.heap.size v (RMeetCongruences ms a b).1 ∧ Below w.heap.size w w' := by
  have hcs := l06Both_c (c := c) h hn ha hna hB hb hnb hC
  have HCS := Lib.hid hcs
  obtain ⟨r, hr⟩ : ∃ r, r = RMeetCongruences ms a b := ⟨_, rfl⟩
  rw [← hr]
  have HR := Lib.hid hr
  have SA := Lib.hid ha
  have SB := Lib.hid hb
  clear hcs h hr ha hb hB hC hA
  go_enter Try.func19, Try.ntmps19
  go_wp2_with fail
  refine HCS.out.mono ?_
  rintro e w1 ⟨hb1, hpost⟩
  rcases hpost with ⟨hc, rfl⟩ | ⟨hc, v, rfl, own⟩
  · have E1 := Lib.hid (show r = ([], bothC ms [a, b]) by rw [HR.out]; unfold RMeetCongruences; rw [if_neg hc])
    have d : (bothC ms [a, b] != 0) = true := bne_iff_ne.2 hc
    clear hc
    go_wp2
    go_returns
    rw [E1.out]
    exact ⟨_, rfl, OwnInts.nil _ _, hb1⟩
  · obtain ⟨hca, hcb, hpos, hle⟩ := both_can hc
    have E1 := Lib.hid (show r = (numL (fun k i => decide (cls (rootTo a b (elsOf ms).length (elsOf ms).length) k = cls (rootTo a b (elsOf ms).length (elsOf ms).length) i)) (rootTo a b (elsOf ms).length (elsOf ms).length).length, 0) by rw [HR.out, root_meet hca hcb]; unfold RMeetCongruences; rw [if_pos hc])
    obtain ⟨A1, c1, rfl, _⟩ := own.see
    rw [tabOf_length]
    clear hc own HR
    generalize (elsOf ms).length = N at *
    have hla := hca.1
    have hlb := hcb.1
    obtain ⟨bB, oB, rfl, ga⟩ := SA.out.cls (by rw [hla]; exact hpos)
    obtain ⟨bC, oC, rfl, gb⟩ := SB.out.cls (by rw [hlb]; exact hpos)
    rw [hla] at ga ⊢
    rw [hlb] at gb ⊢
    have GA := Lib.hid ga
    have GB := Lib.hid gb
    have CA := Lib.hid hca
    have CB := Lib.hid hcb
    clear hla hlb hca hcb ga gb
    go_wp2
    go_loopw [11, 10] (fun kv out wr => ∃ k : Nat, k ≤ N ∧ kv = .int .i64 k ∧ OwnInts wr w.heap.size out (rootTo a b N k) ∧ Below w.heap.size w wr) (fun kv _ _ => N - (intOf kv).toNat)
    case atStart => exact ⟨0, Nat.zero_le _, rfl, ⟨rfl, .inr ⟨w1.heap.size, 0, #[], rfl, hb1.size, heap_alloc_new w1 _, Nat.le_refl _, by decide, rfl, rfl⟩⟩, btrans hb1 (kbelow _ _)⟩
    case round =>
      obtain ⟨k, hk, rfl, hown, hb⟩ := hrel
      have l0 : (0 : Int) ≤ k := by omega
      have hl := rootTo_length a b N k
      by_cases hlt : k < N
      · have l1 : (k : Int) < N := by omega
        have qa := bcell hb (GA.out k hlt)
        have qb := bcell hb (GB.out k hlt)
        have ra := can_lt CA.out hlt
        have rb := can_lt CB.out hlt
        have HS := Lib.hid (rootTo_succ a b N k)
        generalize rootTo a b N k = xs at *
        generalize cls a k = x at *
        generalize cls b k = y at *
        have hx30 : x ≤ 30 := by omega
        have hxN : 0 ≤ x * (N : Int) ∧ x * (N : Int) ≤ 900 := ⟨Int.mul_nonneg ra.1 (by omega), by
          have := Int.mul_le_mul hx30 (by omega : (N : Int) ≤ 30) (by omega) (by omega)
          omega⟩
        have HX := Lib.hid (show ∃ p q : Int, p = x * (N : Int) ∧ q = p + y from ⟨_, _, rfl, rfl⟩)
        obtain ⟨p, q, hp, hq⟩ := HX.out
        have hmul0 : IntKind.i64.wrap (x * (N : Int)) = p := by rw [hp]; exact IntWalk.i64_in _ (by omega)
        have hadd0 : IntKind.i64.wrap (p + y) = q := by rw [hq]; exact IntWalk.i64_in _ (by omega)
        have HQ := Lib.hid (show q = x * (N : Int) + y by rw [hq, hp])
        have hxl : xs.length ≤ 1000 := by omega
        have hz := hb.size
        clear hp hq HX hxN ra rb hx30 hl
        obtain ⟨Ao, co, rfl, _⟩ := hown.see
        go_wp2
        refine wp_region_headS 14 (fun w' => w'.cell? ⟨bB, oB + k, none⟩ = some (.int .i64 x) ∧ w'.cell? ⟨bC, oC + k, none⟩ = some (.int .i64 y)) (by kernel_rfl) (by kernel_rfl) ⟨qa, qb⟩ (fun hHeld => ?_)
        simp only [List.drop]
        refine headH_takeS (i := 0) (v := ?_) 29 rfl (by kernel_rfl) (by kernel_rfl) (fun _ _ _ h => h) (Or.inl ⟨by rfl, ?_⟩) hHeld ?_
        rotate_left
        · intro w hSw
          (try dsimp only at hSw)
          go_simp
          try with_reducible rfl
        try simp only [Act.put, List.setIfInBounds_toArray, List.set_cons_zero, List.set_cons_succ]
        refine headH_takeS (i := 1) (v := ?_) 30 rfl (by kernel_rfl) (by kernel_rfl) (fun _ _ _ h => h) (Or.inl ⟨by rfl, ?_⟩) hHeld ?_
        rotate_left
        · intro w hSw
          (try dsimp only at hSw)
          go_simp
          try with_reducible rfl
        try simp only [Act.put, List.setIfInBounds_toArray, List.set_cons_zero, List.set_cons_succ]
        refine headH_takeS (i := 2) (v := ?_) 31 rfl (by kernel_rfl) (by kernel_rfl) (fun _ _ _ h => h) (Or.inl ⟨by rfl, ?_⟩) hHeld ?_
        rotate_left
        · intro w hSw
          (try dsimp only at hSw)
          go_simp
          try with_reducible rfl
        try simp only [Act.put, List.setIfInBounds_toArray, List.set_cons_zero, List.set_cons_succ]
        refine headH_takeS (i := 3) (v := ?_) 32 rfl (by kernel_rfl) (by kernel_rfl) (fun _ _ _ h => h) (Or.inl ⟨by rfl, ?_⟩) hHeld ?_
        rotate_left
        · intro w hSw
          (try dsimp only at hSw)
          go_simp
          try with_reducible rfl
        try simp only [Act.put, List.setIfInBounds_toArray, List.set_cons_zero, List.set_cons_succ]
        refine headH_takeS (i := 4) (v := ?_) 33 rfl (by kernel_rfl) (by kernel_rfl) (fun _ _ _ h => h) (Or.inl ⟨by rfl, ?_⟩) hHeld ?_
        rotate_left
        · intro w hSw
          (try dsimp only at hSw)
          go_simp
          try with_reducible rfl
        try simp only [Act.put, List.setIfInBounds_toArray, List.set_cons_zero, List.set_cons_succ]
        refine headH_takeS (i := 5) (v := ?_) 34 rfl (by kernel_rfl) (by kernel_rfl) (fun _ _ _ h => h) (Or.inl ⟨by rfl, ?_⟩) hHeld ?_
        rotate_left
        · intro w hSw
          (try dsimp only at hSw)
          go_simp
          try with_reducible rfl
        try simp only [Act.put, List.setIfInBounds_toArray, List.set_cons_zero, List.set_cons_succ]
        refine headH_takeS (i := 6) (v := ?_) 35 rfl (by kernel_rfl) (by kernel_rfl) (fun _ _ _ h => h) (Or.inl ⟨by rfl, ?_⟩) hHeld ?_
        rotate_left
        · intro w hSw
          (try dsimp only at hSw)
          go_simp
          try with_reducible rfl
        try simp only [Act.put, List.setIfInBounds_toArray, List.set_cons_zero, List.set_cons_succ]
        refine headH_takeS (i := 7) (v := ?_) 36 rfl (by kernel_rfl) (by kernel_rfl) (fun _ _ _ h => h) (Or.inl ⟨by rfl, ?_⟩) hHeld ?_
        rotate_left
        · intro w hSw
          (try dsimp only at hSw)
          go_simp
          try with_reducible rfl
        try simp only [Act.put, List.setIfInBounds_toArray, List.set_cons_zero, List.set_cons_succ]
        refine headH_takeS (i := 8) (v := ?_) 37 rfl (by kernel_rfl) (by kernel_rfl) (fun _ _ _ h => h) (Or.inl ⟨by rfl, ?_⟩) hHeld ?_
        rotate_left
        · intro w hSw
          (try dsimp only at hSw)
          go_simp
          try with_reducible rfl
        try simp only [Act.put, List.setIfInBounds_toArray, List.set_cons_zero, List.set_cons_succ]
        refine headH_takeS (i := 9) (v := ?_) 38 rfl (by kernel_rfl) (by kernel_rfl) (fun _ _ _ h => h) (Or.inl ⟨by rfl, ?_⟩) hHeld ?_
        rotate_left
        · intro w hSw
          (try dsimp only at hSw)
          go_simp
          try with_reducible rfl
        try simp only [Act.put, List.setIfInBounds_toArray, List.set_cons_zero, List.set_cons_succ]
        refine headH_takeS (i := 10) (v := ?_) 39 rfl (by kernel_rfl) (by kernel_rfl) (fun _ _ _ h => h) (Or.inl ⟨by rfl, ?_⟩) hHeld ?_
        rotate_left
        · intro w hSw
          (try dsimp only at hSw)
          go_simp
          try with_reducible rfl
        try simp only [Act.put, List.setIfInBounds_toArray, List.set_cons_zero, List.set_cons_succ]
        refine headH_takeS (i := 11) (v := ?_) 40 rfl (by kernel_rfl) (by kernel_rfl) (fun _ _ _ h => h) (Or.inl ⟨by rfl, ?_⟩) hHeld ?_
        rotate_left
        · intro w hSw
          (try dsimp only at hSw)
          go_simp
          try with_reducible rfl
        try simp only [Act.put, List.setIfInBounds_toArray, List.set_cons_zero, List.set_cons_succ]
        refine headH_takeS (i := 12) (v := ?_) 41 rfl (by kernel_rfl) (by kernel_rfl) (fun _ _ _ h => h) (Or.inl ⟨by rfl, ?_⟩) hHeld ?_
        rotate_left
        · intro w hSw
          (try dsimp only at hSw)
          go_simp
          try with_reducible rfl
        try simp only [Act.put, List.setIfInBounds_toArray, List.set_cons_zero, List.set_cons_succ]
        refine headH_all (rs := [13]) (by kernel_rfl) (by kernel_rfl) (headH_cons rfl (fun K hK => ?_) headH_nil)
        go_simp
        refine hK.out _ _ ⟨bcell (kbelow wr.drew _) qa, bcell (kbelow wr.drew _) qb⟩ (fun hHeldn => ?_)
        clear hK K hHeld
        have hHeld := hHeldn
        clear hHeldn
        try simp only [Act.put, List.setIfInBounds_toArray, List.set_cons_zero, List.set_cons_succ]
        refine headH_tail (by kernel_rfl) ?_
        clear hHeld
        go_wp2_with (at_builtin; refine wpList_push_int _ rfl (.tmp 29) (.tmp 42) rfl w.heap.size _ xs rfl (hown.below (by go_grown)) ⟨wr.heap.size, 0, none⟩ q rfl (by simp [go_sem]) (by omega) (by go_size) ?_; intro v' w3 hown' hgrow hv')
        go_roundw
        case rel => exact ⟨k + 1, by omega, by go_num, by rw [HS.out, ← HQ.out]; exact hown', Below.grown (w := wr.drew.alloc (.cells #[.int .i64 q] 2)) (by go_grown) hgrow (by simp; omega) (fun j hj => (hown.lt j hj).1)⟩
        case measure => simp [intOf]; omega
      · have ek : k = N := by omega
        subst ek
        obtain ⟨Ao, co, rfl, so⟩ := hown.see
        have hnm := l06Named_c Ao co (rootTo a b k k) wr so (by omega)
        have HNM := Lib.hid hnm
        have nlt : ¬ (k : Int) < k := by omega
        clear hnm so hl
        go_wp2_with fail
        refine HNM.out.mono ?_
        rintro e w4 ⟨v4, rfl, own4, hb4⟩
        obtain ⟨A4, c4, rfl, _⟩ := own4.see
        go_wp2
        go_returns
        rw [E1.out]
        exact ⟨_, rfl, own4.mono hb.size, btrans hb hb4⟩
end Go.Proofs.Ytjepmbjneccagaa
