/- 'l07Least': the least acceptor, as the reference makes it. No condition. -/
import Derived.Test.YtbodaefdaagelaaLeastW
import Derived.Test.YtbodaefdaagelaaFirstB
namespace Go.Proofs.Ytbodaefdaagelaa
set_option linter.unusedSimpArgs false
set_option linter.unusedVariables false
set_option linter.unusedSectionVars false
open Go.RowKit
/-- the numbers of the first i points -/
structure NumTo (cl order nums : List Int) (i : Nat) : Prop where
  len : nums.length = 5
  at_ : ∀ j, j < i → nums[(cls order j).toNat]? = some (cls cl j)
theorem NumTo.set {cl order nums : List Int} {i : Nat} (h : NumTo cl order nums i) (hd : order.Nodup) (hi : i < order.length) (hr : ∀ j, j < order.length → 0 ≤ cls order j ∧ cls order j < 5) : NumTo cl order (nums.set (cls order i).toNat (cls cl i)) (i + 1) := by
  refine ⟨by rw [List.length_set, h.len], fun j hj => ?_⟩
  have hl := h.len
  have ri := hr i hi
  by_cases e : j = i
  · subst e
    rw [List.getElem?_set_self (by omega)]
  · have rj := hr j (by omega)
    have hne : (cls order i).toNat ≠ (cls order j).toNat := fun e2 => by
      have e3 : cls order i = cls order j := by omega
      obtain ⟨k, _, _, _, uk⟩ := idx_spec hd (v := cls order i) (List.mem_of_getElem? (cls_get hi))
      have := uk i hi rfl
      have := uk j (by omega) e3.symm
      omega
    rw [List.getElem?_set_ne hne]
    exact h.at_ j (by omega)
theorem can_le {cl : List Int} {N i : Nat} {nx q : Int} (hc : IsCan cl N) (hq : CanTo cl N = some q) (hi : i ≤ N) (h : CanTo cl i = some nx) : nx ≤ q := by
  have h1 := canTo_spec h
  have h2 := canTo_spec hq
  rcases (by omega : nx ≤ 0 ∨ 0 < nx) with h0 | h0
  · omega
  · obtain ⟨j, hj, e⟩ := h1.2.2.2 (nx - 1) (by omega) (by omega)
    have := h2.2.2.1 j (by omega)
    omega
theorem least_stepS {ms : List Mp} {f n : Int} {ls : List Int} (ra : RightA ms f ls n) {m : Mp} (hm : m ∈ ms) {k : Nat} (hk : k < leastQ ms f ls) : ∃ (y : Nat) (o t z : Int),
    (fstsTo (clsL ms ls (reachL ms f)) (reachL ms f) (leastQ ms f ls))[k]? = some o ∧ 0 ≤ o ∧ o < 5 ∧ m.to o.toNat = t ∧ 0 ≤ t ∧ t < 5 ∧ y < (reachL ms f).length ∧ cls (reachL ms f) y = t ∧ cls (clsL ms ls (reachL ms f)) y = z ∧
    (leastTo (clsL ms ls (reachL ms f)) (reachL ms f) (leastQ ms f ls) m k).set k z = leastTo (clsL ms ls (reachL ms f)) (reachL ms f) (leastQ ms f ls) m (k + 1) := by
  have hq := leastQ_spec (ls := ls) ra.list ra.f0 ra.f1
  have h5 := ra.list.bounds.2
  obtain ⟨e1, l1, _⟩ := fx_spec (clsL_can (ms := ms) (ls := ls) (order := reachL ms f)).1 hq.1 (v := k) (by omega)
  have hmem : cls (reachL ms f) (fxOf (clsL ms ls (reachL ms f)) k) ∈ reachL ms f := List.mem_of_getElem? (cls_get l1)
  have hr := reach_rng ra.list ra.f0 ra.f1 hmem
  have hnx := reach_next ra.list ra.f0 ra.f1 hmem hm
  have hr2 := reach_rng ra.list ra.f0 ra.f1 hnx
  obtain ⟨y, e2, l2, e3, _⟩ := idx_spec (reach_nodup ra.list ra.f0 ra.f1) hnx
  refine ⟨y, _, _, _, fstsTo_at hk, hr.1, by omega, rfl, hr2.1, by have := hr2.2; unfold Mp.at at this; omega, l2, e3, rfl, ?_⟩
  have := leastTo_succ (clsL ms ls (reachL ms f)) (reachL ms f) (leastQ ms f ls) m (k := k) (by omega)
  rw [e2, Int.toNat_natCast] at this
  exact this
theorem least_lastSS {ms : List Mp} {f n : Int} {ls : List Int} (ra : RightA ms f ls n) {k : Nat} (hk : k < leastQ ms f ls) : ∃ (o : Int),
    (fstsTo (clsL ms ls (reachL ms f)) (reachL ms f) (leastQ ms f ls))[k]? = some o ∧ 0 ≤ o ∧ o < 6 ∧
    leastLast (clsL ms ls (reachL ms f)) (reachL ms f) ls (k + 1) = leastLast (clsL ms ls (reachL ms f)) (reachL ms f) ls k ++ (if o ∈ ls then [(k : Int)] else []) := by
  have hq := leastQ_spec (ls := ls) ra.list ra.f0 ra.f1
  have h5 := ra.list.bounds.2
  obtain ⟨e1, l1, _⟩ := fx_spec (clsL_can (ms := ms) (ls := ls) (order := reachL ms f)).1 hq.1 (v := k) (by omega)
  have hr := reach_rng ra.list ra.f0 ra.f1 (List.mem_of_getElem? (cls_get l1))
  exact ⟨_, fstsTo_at hk, hr.1, by omega, leastLast_succ _ _ _ _⟩
/-- one point of the order: its class is new, or one of those before -/
theorem least_stage {ms : List Mp} {f n : Int} {ls : List Int} (ra : RightA ms f ls n) {i c : Nat} (hi : i < (reachL ms f).length) (hx : CanTo (clsL ms ls (reachL ms f)) i = some (c : Int)) :
    c ≤ 5 ∧ (∀ k, k < c → ∃ o, (fstsTo (clsL ms ls (reachL ms f)) (reachL ms f) c)[k]? = some o ∧ 0 ≤ o ∧ o < n ∧ (((fw (stP ms ms) ms.length (o, cls (reachL ms f) i) (isP ls ls)).2 == 0) = !decide (cls (clsL ms ls (reachL ms f)) i = (k : Int)))) ∧
    0 ≤ cls (clsL ms ls (reachL ms f)) i ∧ cls (clsL ms ls (reachL ms f)) i ≤ c ∧
    (cls (clsL ms ls (reachL ms f)) i < c → CanTo (clsL ms ls (reachL ms f)) (i + 1) = some (c : Int)) ∧
    (¬ cls (clsL ms ls (reachL ms f)) i < c → cls (clsL ms ls (reachL ms f)) i = c ∧ CanTo (clsL ms ls (reachL ms f)) (i + 1) = some ((c + 1 : Nat) : Int) ∧ fstsTo (clsL ms ls (reachL ms f)) (reachL ms f) (c + 1) = fstsTo (clsL ms ls (reachL ms f)) (reachL ms f) c ++ [cls (reachL ms f) i]) := by
  have hq := leastQ_spec (ls := ls) ra.list ra.f0 ra.f1
  have hcan := clsL_can (ms := ms) (ls := ls) (order := reachL ms f)
  have hle := can_le hcan hq.1 (by omega) hx
  have hord : ∀ i, i < (reachL ms f).length → 0 ≤ cls (reachL ms f) i ∧ cls (reachL ms f) i < n := fun i hi => reach_rng ra.list ra.f0 ra.f1 (List.mem_of_getElem? (cls_get hi))
  refine ⟨by omega, fun k hk => ?_, ?_⟩
  · obtain ⟨e1, l1, _⟩ := fx_spec hcan.1 hq.1 (v := k) (by omega)
    have hr := hord _ l1
    refine ⟨_, fstsTo_at hk, hr.1, hr.2, ?_⟩
    have h1 := fst_eqv ra.list rfl hord hi hq.1 (c := k) (by omega)
    rw [← h1]
    unfold eqvB
    rcases fw_cases (stP ms ms) ms.length (cls (reachL ms f) (fxOf (clsL ms ls (reachL ms f)) k), cls (reachL ms f) i) (isP ls ls) with ⟨u, e⟩ | e <;> rw [e] <;> rfl
  · have h0 : 0 ≤ cls (clsL ms ls (reachL ms f)) i := (can_lt hcan hi).1
    by_cases hlt : cls (clsL ms ls (reachL ms f)) i < c
    · exact ⟨h0, by omega, fun _ => can_old hcan hi hx hlt, fun h => absurd hlt h⟩
    · obtain ⟨a1, a2, a3⟩ := can_new hcan hi hx hlt
      refine ⟨h0, by omega, fun h => absurd h hlt, fun _ => ⟨a1, a2, ?_⟩⟩
      rw [Int.toNat_natCast] at a3
      rw [fstsTo_succ, a3]
theorem kput (w : World) (a : Addr) (u : Value) : Keep (fun k => k ≠ a.block) w (w.setCell a u) := Keep.set (Keep.refl _ w) (fun h => h rfl) u
set_option maxHeartbeats 8000000 in
set_option maxRecDepth 100000 in
theorem l07Least_c {A A' : Option Addr} {c c' : Nat} {ms : List Mp} {f n : Int} {ls : List Int} {w : World} (ra : RightA ms f ls n) (h : SeeMaps w A ms) (h' : SeeInts w A' ls) (hl : ls.length ≤ 2097152) :
    Calls Try.prog 91 #[.agg #[.slice A ms.length c, .int .i64 f, .slice A' ls.length c']] w fun e w' => ∃ v v', e = .returned (.agg #[v, .int .i64 0, v']) ∧ OwnMaps w' w.heap.size v (leastA ms f ls).1 ∧ OwnInts w' w.heap.size v' (leastA ms f ls).2.2 ∧ Below w.heap.size w w' := by
  obtain ⟨ii, hii, hz0, hz1, hz2⟩ := info_parts info_int
  obtain ⟨W1, hW1⟩ : ∃ W1, W1 = (w.alloc (Obj.cells #[Value.slice A ms.length c, .int .i64 f, Value.slice A' ls.length c'] 30)).alloc (Obj.cells #[Value.slice none 0 0, .int .i64 0, Value.slice none 0 0] 30) := ⟨_, rfl⟩
  have k1 : Below w.heap.size w W1 := by rw [hW1]; go_grown
  have at1 : AccAt W1 w.heap.size A A' c c' ms f ls := by rw [hW1]; exact (AccAt.new h h' _).below (kbelow _ _)
  have rb1 : OBox W1 (w.heap.size + 1) (.slice none 0 0) 0 (.slice none 0 0) := by rw [hW1]; exact OBox.new _ _ _ _ (by simp)
  have hre := l07Reached_c A A' ls.length c c' ms f n W1 at1.sm ra.list ra.f0 ra.f1
  rw [← reach_eq ra.list ra.f0 ra.f1] at hre
  have LA := leastA ms f ls
  obtain ⟨r, hr⟩ : ∃ r, r = leastA ms f ls := ⟨_, rfl⟩
  rw [← hr]
  have hQ := leastQ_spec (ls := ls) ra.list ra.f0 ra.f1
  have hq5 := hQ.2.1
  have HQ := Lib.hid hQ.1
  have LST := Lib.hid (fun (m : Mp) (hm : m ∈ ms) (k : Nat) (hk : k < leastQ ms f ls) => least_stepS ra hm hk)
  have LLS := Lib.hid (fun (k : Nat) (hk : k < leastQ ms f ls) => least_lastSS ra hk)
  have STG := Lib.hid (fun (i c : Nat) hi hx => least_stage (ls := ls) ra (i := i) (c := c) hi hx)
  have LA := Lib.hid (show r = (ms.map fun m => leastTo (clsL ms ls (reachL ms f)) (reachL ms f) (leastQ ms f ls) m (leastQ ms f ls), 0, leastLast (clsL ms ls (reachL ms f)) (reachL ms f) ls (leastQ ms f ls)) by rw [hr]; rfl)
  have hord : ∀ i, i < (reachL ms f).length → 0 ≤ cls (reachL ms f) i ∧ cls (reachL ms f) i < n := fun i hi => reach_rng ra.list ra.f0 ra.f1 (List.mem_of_getElem? (cls_get hi))
  have ND := Lib.hid (reach_nodup ra.list ra.f0 ra.f1)
  have hol := reach_five ra.list ra.f0 ra.f1
  have hop := reach_pos ra.list ra.f0 ra.f1
  have n5 := ra.list.bounds.2
  have h6 := ra.list.six
  have AP := Lib.hid (fun W (hW : Below W1.heap.size W1 W) (p q : Int) (p0 : 0 ≤ p) (p1 : p < n) (q0 : 0 ≤ q) (q1 : q < n) => l07Apart_c A A' A A' c c' c c' ms ms ls ls f f p q n n W (at1.below hW).sm (at1.below hW).sl (at1.below hW).sm (at1.below hW).sl ra.list ra.list rfl ra.pts ra.pts hl hl p0 p1 q0 q1)
  have LAST := Lib.hid (fun W (hW : Below W1.heap.size W1 W) (p : Int) (p0 : 0 ≤ p) (p1 : p < 6) => l07Last_c A A' ms.length c c' f ls p W (at1.below hW).sl hl ra.pts p0 p1)
  have HORD := Lib.hid hord
  have SM1 := Lib.hid at1.sm
  have KK1 := Lib.hid k1
  have RB1 := Lib.hid rb1
  have b0 := at1.c0
  have b1 := at1.c1
  have b2 := at1.c2
  have z1 : W1.heap.size = w.heap.size + 2 := by rw [hW1]; simp
  have HRE := Lib.hid hre
  generalize leastQ ms f ls = q at *
  generalize clsL ms ls (reachL ms f) = cl at *
  generalize reachL ms f = order at *
  clear hr hre hord k1 rb1 at1 h h' hQ ra
  go_enter Try.func91, Try.ntmps91
  go_upto_region 1 with fail
  rw [← hW1]
  clear hW1
  go_wp2_with fail
  refine HRE.out.mono ?_
  rintro e w3 ⟨v3, rfl, own3, hb3⟩
  obtain ⟨A3, c3, rfl, s3⟩ := own3.see
  obtain ⟨bo, oo, rfl, go⟩ := s3.cls hop
  have GO := Lib.hid go
  have HB3 := Lib.hid hb3
  have z3 := hb3.size
  clear go s3 own3 HRE
  go_upto_region 2 with fail
  go_cut [4, 5] from 18 to 19 (fun d e wx => ∃ b4 b5, d = .slice (some ⟨b4, 0, none⟩) 0 0 ∧ e = .slice (some ⟨b5, 0, none⟩) 5 5 ∧ b4 ≠ b5 ∧ OwnInts wx w3.heap.size (.slice (some ⟨b4, 0, none⟩) 0 0) [] ∧ OwnInts wx w3.heap.size (.slice (some ⟨b5, 0, none⟩) 5 5) [0, 0, 0, 0, 0] ∧ Below w3.heap.size w3 wx)
  case first =>
    refine wp_region_headS 3 (fun w' => True) (by kernel_rfl) (by kernel_rfl) trivial (fun hHeld => ?_)
    simp only [List.drop]
    refine headH_all (rs := [0, 1]) (by kernel_rfl) (by kernel_rfl) (headH_cons rfl (fun K hK => ?_) (headH_cons rfl (fun K hK => ?_) headH_nil))
    · go_simp
      have kk : Below w3.heap.size w3 (w3.drew.alloc (.cells #[] 2)) := bdr (kbelow w3.drew (.cells #[] 2))
      have own0 : OwnInts (w3.drew.alloc (.cells #[] 2)) w3.heap.size (.slice (some ⟨w3.heap.size, 0, none⟩) 0 0) [] := own_mono (World.ownsRow_made (e := 2) (size := 1) w3.drew #[] 0 (Nat.le_refl _) (by decide) rfl) (Nat.le_refl _)
      refine hK.out _ _ trivial (fun hHeldn => ?_)
      clear hK K hHeld
      have hHeld := hHeldn
      clear hHeldn
      try simp only [Act.put, List.setIfInBounds_toArray, List.set_cons_zero, List.set_cons_succ]
      refine headH_takeS (i := 2) (v := ?_) 4 rfl (by kernel_rfl) (by kernel_rfl) (fun _ _ _ h => h) (Or.inl ⟨by rfl, ?_⟩) hHeld ?_
      rotate_left
      · intro w hSw
        (try dsimp only at hSw)
        go_simp
        try with_reducible rfl
      try simp only [Act.put, List.setIfInBounds_toArray, List.set_cons_zero, List.set_cons_succ]
      refine headH_all (rs := [1]) (by kernel_rfl) (by kernel_rfl) (headH_cons rfl (fun K hK => ?_) headH_nil)
      obtain ⟨w6, hrun, r1, r2⟩ := run_make_full (P := Try.prog) (w3.alloc (.cells #[] 2)).drew w3.heap.size 23 2 ii _ 1 Try.underlying23 hii hz0 hz1 .i64 .i64 5 (by rw [hz2]; omega) (by unfold maxLen; omega) kk.size
      rw [show ((5 : Nat) : Int) = 5 from rfl] at hrun
      have own5 : OwnInts w6 w3.heap.size (.slice (some ⟨w3.heap.size + 1, 0, none⟩) 5 5) [0, 0, 0, 0, 0] := by
        have h1 := OwnInts.made (n := 5) r1
        simpa using h1
      have hb6 : Below w3.heap.size w3 w6 := kk.grown r2 kk.size (fun k h => by cases h)
      have own6 := OwnInts.below (w := (w3.alloc (.cells #[] 2)).drew) own0 ((Below.refl _ (w3.alloc (.cells #[] 2)).drew).grown r2 (Nat.le_refl _) (fun k h => by cases h))
      go_simp
      refine hK.out _ _ trivial (fun hHeldn => ?_)
      clear hK K hHeld
      have hHeld := hHeldn
      clear hHeldn
      try simp only [Act.put, List.setIfInBounds_toArray, List.set_cons_zero, List.set_cons_succ]
      refine headH_tail (by kernel_rfl) ?_
      clear hHeld
      go_wp2
      go_meet
      case rel => exact ⟨_, _, rfl, rfl, by simp, own6, own5, hb6⟩
    · obtain ⟨w6, hrun, r1, r2⟩ := run_make_full (P := Try.prog) w3.drew w3.heap.size 23 2 ii _ 1 Try.underlying23 hii hz0 hz1 .i64 .i64 5 (by rw [hz2]; omega) (by unfold maxLen; omega) (Nat.le_refl _)
      rw [show ((5 : Nat) : Int) = 5 from rfl] at hrun
      have own5 : OwnInts w6 w3.heap.size (.slice (some ⟨w3.heap.size, 0, none⟩) 5 5) [0, 0, 0, 0, 0] := OwnInts.made (n := 5) r1
      have hb6 : Below w3.heap.size w3 w6 := bdr ((Below.refl _ w3.drew).grown r2 (Nat.le_refl _) (fun k h => by cases h))
      have zz : w3.heap.size < w6.heap.size := (own5.lt _ rfl).2
      have kk := kbelow w6 (.cells #[] 2)
      have own0 : OwnInts (w6.alloc (.cells #[] 2)) w3.heap.size (.slice (some ⟨w6.heap.size, 0, none⟩) 0 0) [] := own_mono (World.ownsRow_made (e := 2) (size := 1) w6 #[] 0 (Nat.le_refl _) (by decide) rfl) (by omega)
      go_simp
      refine hK.out _ _ trivial (fun hHeldn => ?_)
      clear hK K hHeld
      have hHeld := hHeldn
      clear hHeldn
      try simp only [Act.put, List.setIfInBounds_toArray, List.set_cons_zero, List.set_cons_succ]
      refine headH_all (rs := [0]) (by kernel_rfl) (by kernel_rfl) (headH_cons rfl (fun K hK => ?_) headH_nil)
      go_simp
      refine hK.out _ _ trivial (fun hHeldn => ?_)
      clear hK K hHeld
      have hHeld := hHeldn
      clear hHeldn
      try simp only [Act.put, List.setIfInBounds_toArray, List.set_cons_zero, List.set_cons_succ]
      refine headH_takeS (i := 2) (v := ?_) 4 rfl (by kernel_rfl) (by kernel_rfl) (fun _ _ _ h => h) (Or.inl ⟨by rfl, ?_⟩) hHeld ?_
      rotate_left
      · intro w hSw
        (try dsimp only at hSw)
        go_simp
        try with_reducible rfl
      try simp only [Act.put, List.setIfInBounds_toArray, List.set_cons_zero, List.set_cons_succ]
      refine headH_tail (by kernel_rfl) ?_
      clear hHeld
      go_wp2
      go_meet
      case rel => exact ⟨_, _, rfl, rfl, by omega, own0, own5.below kk, btrans hb6 kk⟩
  case rest =>
    obtain ⟨b4, b5, rfl, rfl, hne, own4, own5, hb⟩ := hcut
    have c50 : (CanTo cl 0) = some ((0 : Nat) : Int) := rfl
    have num0 : NumTo cl order [0, 0, 0, 0, 0] 0 := ⟨rfl, fun j h => by omega⟩
    have hz5 : b5 < wc.heap.size := (own5.lt _ rfl).2
    have hz5' : w3.heap.size ≤ b5 := (own5.lt _ rfl).1
    have hlt5 : ∀ j, j < order.length → 0 ≤ cls order j ∧ cls order j < 5 := fun j hj => by have := HORD.out j hj; omega
    have HLT5 := Lib.hid hlt5
    have C50 := Lib.hid c50
    have N0 := Lib.hid num0
    clear hlt5 c50 num0
    go_wp2
    go_loopw [6, 4] (fun iv v4 wr => ∃ (i c0 : Nat) (nums : List Int), i ≤ order.length ∧ iv = .int .i64 i ∧ Hid (CanTo cl i = some (c0 : Int)) ∧ OwnInts wr w3.heap.size v4 (fstsTo cl order c0) ∧ (∀ k, v4.ownBlock = some k → k ≠ b5) ∧ OwnInts wr w3.heap.size (.slice (some ⟨b5, 0, none⟩) 5 5) nums ∧ Hid (NumTo cl order nums i) ∧ Below w3.heap.size w3 wr ∧ b5 < wr.heap.size) (fun iv _ _ => order.length - (intOf iv).toNat)
    case atStart => exact ⟨0, 0, _, Nat.zero_le _, rfl, C50, own4, fun k hk => by simp [Value.ownBlock] at hk; omega, own5, N0, hb, hz5⟩
    case round =>
      clear own4 own5 hb hz5 C50 N0 hne
      obtain ⟨i, c0, nums, hi, rfl, hcx, own4, nb4, own5, hnum, hb, hz5⟩ := hrel
      have i0 : (0 : Int) ≤ i := by omega
      by_cases hilt : i < order.length
      · have i1 : (i : Int) < order.length := by omega
        obtain ⟨c5, hft, y0, y1, hold, hnew⟩ := STG.out i c0 hilt hcx.out
        have hnl := hnum.out.len
        have HNS := Lib.hid (hnum.out.set ND.out hilt HLT5.out)
        have hor := HORD.out i hilt
        have go := bcell hb (GO.out i hilt)
        obtain ⟨fs, hfs⟩ : ∃ fs, fs = fstsTo cl order c0 := ⟨_, rfl⟩
        have hfl : fs.length = c0 := by rw [hfs]; exact fstsTo_length _ _ _
        rw [← hfs] at own4 hft hnew
        have HF3 := Lib.hid hfs
        have HFT := Lib.hid hft
        have HOLD := Lib.hid hold
        have HNEW := Lib.hid hnew
        have GI := Lib.hid (GO.out i hilt)
        obtain ⟨A4, cc4, rfl, s4⟩ := own4.see
        rw [hfl] at own4 nb4 ⊢
        generalize cls order i = p at *
        generalize cls cl i = y at *
        obtain ⟨W0, rfl⟩ : ∃ W0, W0 = wr := ⟨_, rfl⟩
        have S4 := Lib.hid s4
        clear hfs hft hold hnew hnum s4
        go_wp2
        go_loopw [8, 7] (fun kv ov wr2 => ∃ (k : Nat) (x : Int), k ≤ c0 ∧ kv = .int .i64 k ∧ ov = .int .i64 x ∧ Hid ((x = -1 ∧ ¬ y < k) ∨ (x = y ∧ y < c0)) ∧ Below W0.heap.size W0 wr2) (fun kv _ _ => c0 - (intOf kv).toNat)
        case atStart => exact ⟨0, -1, Nat.zero_le _, rfl, rfl, Lib.hid (.inl ⟨rfl, by omega⟩), Below.refl _ _⟩
        case round =>
          obtain ⟨k, x, hk, rfl, rfl, hX, hbr⟩ := hrel
          have hbb := btrans hb hbr
          have zr := hbr.size
          have m0 : (0 : Int) ≤ k := by omega
          have k4 := own4.below hbr
          have k5 := own5.below hbr
          have gi := bcell hbb GI.out
          have hn5 : p.toNat < nums.length := by omega
          obtain ⟨on, hon⟩ := el hn5
          rcases hX.out with ⟨rfl, hyk⟩ | ⟨rfl, hyc⟩
          · by_cases hkc : k < c0
            · have dk : (k : Int) < c0 := by omega
              obtain ⟨o, fo, o0, o1, hfw⟩ := HFT.out k hkc
              have HAP := AP.out wr.drew ((btrans HB3.out hbb).trans ((Below.drew (Below.refl _ wr)).mono (btrans HB3.out hbb).size)) o p o0 o1 hor.1 hor.2
              unfold ApPost at HAP
              rw [hfw] at HAP
              generalize fw (stP ms ms) ms.length (o, p) (isP ls ls) = res at *
              obtain ⟨bf, of, eA, gf⟩ := S4.out (ne_of_lt (k := k) (by omega))
              subst eA
              have gk := bcell hbr (gf k o fo)
              have d0 := bcell (btrans HB3.out hbb) b0
              have d1 := bcell (btrans HB3.out hbb) b1
              have d2 := bcell (btrans HB3.out hbb) b2
              have HAPP := Lib.hid HAP
              clear HAP hfw gf fo hon hX
              by_cases e : y = (k : Int)
              · have HAQ := HAPP.out
                rw [decide_eq_true e] at HAQ
                have HAPP := Lib.hid HAQ
                have E := Lib.hid e
                clear HAQ e
                go_wp2
                refine wp_region_headS 15 (fun w' => w'.cell? ⟨w.heap.size, 0, none⟩ = some (.slice A ms.length c) ∧ w'.cell? ⟨w.heap.size, 1, none⟩ = some (.int .i64 f) ∧ w'.cell? ⟨w.heap.size, 2, none⟩ = some (.slice A' ls.length c') ∧ w'.cell? ⟨bf, of + k, none⟩ = some (.int .i64 o) ∧ w'.cell? ⟨bo, oo + i, none⟩ = some (.int .i64 p)) (by kernel_rfl) (by kernel_rfl) ⟨d0, d1, d2, gk, gi⟩ (fun hHeld => ?_)
                simp only [List.drop]
                refine headH_takeS (i := 0) (v := ?_) 37 rfl (by kernel_rfl) (by kernel_rfl) (fun _ _ _ h => h) (Or.inl ⟨by rfl, ?_⟩) hHeld ?_
                rotate_left
                · intro w hSw
                  (try dsimp only at hSw)
                  go_simp
                  try with_reducible rfl
                try simp only [Act.put, List.setIfInBounds_toArray, List.set_cons_zero, List.set_cons_succ]
                refine headH_takeS (i := 1) (v := ?_) 38 rfl (by kernel_rfl) (by kernel_rfl) (fun _ _ _ h => h) (Or.inl ⟨by rfl, ?_⟩) hHeld ?_
                rotate_left
                · intro w hSw
                  (try dsimp only at hSw)
                  go_simp
                  try with_reducible rfl
                try simp only [Act.put, List.setIfInBounds_toArray, List.set_cons_zero, List.set_cons_succ]
                refine headH_takeS (i := 2) (v := ?_) 39 rfl (by kernel_rfl) (by kernel_rfl) (fun _ _ _ h => h) (Or.inl ⟨by rfl, ?_⟩) hHeld ?_
                rotate_left
                · intro w hSw
                  (try dsimp only at hSw)
                  go_simp
                  try with_reducible rfl
                try simp only [Act.put, List.setIfInBounds_toArray, List.set_cons_zero, List.set_cons_succ]
                refine headH_takeS (i := 3) (v := ?_) 40 rfl (by kernel_rfl) (by kernel_rfl) (fun _ _ _ h => h) (Or.inl ⟨by rfl, ?_⟩) hHeld ?_
                rotate_left
                · intro w hSw
                  (try dsimp only at hSw)
                  go_simp
                  try with_reducible rfl
                try simp only [Act.put, List.setIfInBounds_toArray, List.set_cons_zero, List.set_cons_succ]
                refine headH_takeS (i := 6) (v := ?_) 43 rfl (by kernel_rfl) (by kernel_rfl) (fun _ _ _ h => h) (Or.inl ⟨by rfl, ?_⟩) hHeld ?_
                rotate_left
                · intro w hSw
                  (try dsimp only at hSw)
                  go_simp
                  try with_reducible rfl
                try simp only [Act.put, List.setIfInBounds_toArray, List.set_cons_zero, List.set_cons_succ]
                refine headH_takeS (i := 7) (v := ?_) 44 rfl (by kernel_rfl) (by kernel_rfl) (fun _ _ _ h => h) (Or.inl ⟨by rfl, ?_⟩) hHeld ?_
                rotate_left
                · intro w hSw
                  (try dsimp only at hSw)
                  go_simp
                  try with_reducible rfl
                try simp only [Act.put, List.setIfInBounds_toArray, List.set_cons_zero, List.set_cons_succ]
                refine headH_takeS (i := 4) (v := ?_) 41 rfl (by kernel_rfl) (by kernel_rfl) (fun _ _ _ h => h) (Or.inl ⟨by rfl, ?_⟩) hHeld ?_
                rotate_left
                · intro w hSw
                  (try dsimp only at hSw)
                  go_simp
                  try with_reducible rfl
                try simp only [Act.put, List.setIfInBounds_toArray, List.set_cons_zero, List.set_cons_succ]
                refine headH_takeS (i := 5) (v := ?_) 42 rfl (by kernel_rfl) (by kernel_rfl) (fun _ _ _ h => h) (Or.inl ⟨by rfl, ?_⟩) hHeld ?_
                rotate_left
                · intro w hSw
                  (try dsimp only at hSw)
                  go_simp
                  try with_reducible rfl
                try simp only [Act.put, List.setIfInBounds_toArray, List.set_cons_zero, List.set_cons_succ]
                refine headH_takeS (i := 8) (v := ?_) 45 rfl (by kernel_rfl) (by kernel_rfl) (fun _ _ _ h => h) (Or.inl ⟨by rfl, ?_⟩) hHeld ?_
                rotate_left
                · intro w hSw
                  (try dsimp only at hSw)
                  go_simp
                  try with_reducible rfl
                try simp only [Act.put, List.setIfInBounds_toArray, List.set_cons_zero, List.set_cons_succ]
                refine headH_takeS (i := 9) (v := ?_) 46 rfl (by kernel_rfl) (by kernel_rfl) (fun _ _ _ h => h) (Or.inl ⟨by rfl, ?_⟩) hHeld ?_
                rotate_left
                · intro w hSw
                  (try dsimp only at hSw)
                  go_simp
                  try with_reducible rfl
                try simp only [Act.put, List.setIfInBounds_toArray, List.set_cons_zero, List.set_cons_succ]
                refine headH_all (rs := [10]) (by kernel_rfl) (by kernel_rfl) (headH_cons rfl (fun K hK => ?_) headH_nil)
                go_simp
                refine HAPP.out.mono ?_
                rintro e w6 ⟨v6, rfl, own6, hb6⟩
                obtain ⟨A6, c6, rfl, _⟩ := own6.see
                replace hb6 := bdr hb6
                refine hK.out _ _ ⟨bcell hb6 d0, bcell hb6 d1, bcell hb6 d2, bcell hb6 gk, bcell hb6 gi⟩ (fun hHeldn => ?_)
                clear hK K hHeld
                have hHeld := hHeldn
                clear hHeldn
                try simp only [Act.put, List.setIfInBounds_toArray, List.set_cons_zero, List.set_cons_succ]
                refine headH_takeS (i := 11) (v := ?_) 36 rfl (by kernel_rfl) (by kernel_rfl) (fun _ _ _ h => h) (Or.inl ⟨by rfl, ?_⟩) hHeld ?_
                rotate_left
                · intro w hSw
                  (try dsimp only at hSw)
                  go_simp
                  try with_reducible rfl
                try simp only [Act.put, List.setIfInBounds_toArray, List.set_cons_zero, List.set_cons_succ]
                refine headH_takeS (i := 12) (v := ?_) 48 rfl (by kernel_rfl) (by kernel_rfl) (fun _ _ _ h => h) (Or.inl ⟨by rfl, ?_⟩) hHeld ?_
                rotate_left
                · intro w hSw
                  (try dsimp only at hSw)
                  go_simp
                  try with_reducible rfl
                try simp only [Act.put, List.setIfInBounds_toArray, List.set_cons_zero, List.set_cons_succ]
                refine headH_takeS (i := 13) (v := ?_) 49 rfl (by kernel_rfl) (by kernel_rfl) (fun _ _ _ h => h) (Or.inl ⟨by rfl, ?_⟩) hHeld ?_
                rotate_left
                · intro w hSw
                  (try dsimp only at hSw)
                  go_simp
                  try with_reducible rfl
                try simp only [Act.put, List.setIfInBounds_toArray, List.set_cons_zero, List.set_cons_succ]
                refine headH_takeS (i := 14) (v := ?_) 9 rfl (by kernel_rfl) (by kernel_rfl) (fun _ _ _ h => h) (Or.inl ⟨by rfl, ?_⟩) hHeld ?_
                rotate_left
                · intro w hSw
                  (try dsimp only at hSw)
                  go_simp
                  try with_reducible rfl
                try simp only [Act.put, List.setIfInBounds_toArray, List.set_cons_zero, List.set_cons_succ]
                refine headH_tail (by kernel_rfl) ?_
                clear hHeld
                go_wp2
                go_roundw
                case rel => exact ⟨k + 1, k, by omega, by go_num, rfl, Lib.hid (.inr ⟨E.out.symm, by have := E.out; omega⟩), btrans hbr hb6⟩
                case measure => simp [intOf]; omega
              · have HAQ := HAPP.out
                rw [decide_eq_false e] at HAQ
                have HAPP := Lib.hid HAQ
                have E := Lib.hid e
                clear HAQ e
                go_wp2
                refine wp_region_headS 15 (fun w' => w'.cell? ⟨w.heap.size, 0, none⟩ = some (.slice A ms.length c) ∧ w'.cell? ⟨w.heap.size, 1, none⟩ = some (.int .i64 f) ∧ w'.cell? ⟨w.heap.size, 2, none⟩ = some (.slice A' ls.length c') ∧ w'.cell? ⟨bf, of + k, none⟩ = some (.int .i64 o) ∧ w'.cell? ⟨bo, oo + i, none⟩ = some (.int .i64 p)) (by kernel_rfl) (by kernel_rfl) ⟨d0, d1, d2, gk, gi⟩ (fun hHeld => ?_)
                simp only [List.drop]
                refine headH_takeS (i := 0) (v := ?_) 37 rfl (by kernel_rfl) (by kernel_rfl) (fun _ _ _ h => h) (Or.inl ⟨by rfl, ?_⟩) hHeld ?_
                rotate_left
                · intro w hSw
                  (try dsimp only at hSw)
                  go_simp
                  try with_reducible rfl
                try simp only [Act.put, List.setIfInBounds_toArray, List.set_cons_zero, List.set_cons_succ]
                refine headH_takeS (i := 1) (v := ?_) 38 rfl (by kernel_rfl) (by kernel_rfl) (fun _ _ _ h => h) (Or.inl ⟨by rfl, ?_⟩) hHeld ?_
                rotate_left
                · intro w hSw
                  (try dsimp only at hSw)
                  go_simp
                  try with_reducible rfl
                try simp only [Act.put, List.setIfInBounds_toArray, List.set_cons_zero, List.set_cons_succ]
                refine headH_takeS (i := 2) (v := ?_) 39 rfl (by kernel_rfl) (by kernel_rfl) (fun _ _ _ h => h) (Or.inl ⟨by rfl, ?_⟩) hHeld ?_
                rotate_left
                · intro w hSw
                  (try dsimp only at hSw)
                  go_simp
                  try with_reducible rfl
                try simp only [Act.put, List.setIfInBounds_toArray, List.set_cons_zero, List.set_cons_succ]
                refine headH_takeS (i := 3) (v := ?_) 40 rfl (by kernel_rfl) (by kernel_rfl) (fun _ _ _ h => h) (Or.inl ⟨by rfl, ?_⟩) hHeld ?_
                rotate_left
                · intro w hSw
                  (try dsimp only at hSw)
                  go_simp
                  try with_reducible rfl
                try simp only [Act.put, List.setIfInBounds_toArray, List.set_cons_zero, List.set_cons_succ]
                refine headH_takeS (i := 6) (v := ?_) 43 rfl (by kernel_rfl) (by kernel_rfl) (fun _ _ _ h => h) (Or.inl ⟨by rfl, ?_⟩) hHeld ?_
                rotate_left
                · intro w hSw
                  (try dsimp only at hSw)
                  go_simp
                  try with_reducible rfl
                try simp only [Act.put, List.setIfInBounds_toArray, List.set_cons_zero, List.set_cons_succ]
                refine headH_takeS (i := 7) (v := ?_) 44 rfl (by kernel_rfl) (by kernel_rfl) (fun _ _ _ h => h) (Or.inl ⟨by rfl, ?_⟩) hHeld ?_
                rotate_left
                · intro w hSw
                  (try dsimp only at hSw)
                  go_simp
                  try with_reducible rfl
                try simp only [Act.put, List.setIfInBounds_toArray, List.set_cons_zero, List.set_cons_succ]
                refine headH_takeS (i := 4) (v := ?_) 41 rfl (by kernel_rfl) (by kernel_rfl) (fun _ _ _ h => h) (Or.inl ⟨by rfl, ?_⟩) hHeld ?_
                rotate_left
                · intro w hSw
                  (try dsimp only at hSw)
                  go_simp
                  try with_reducible rfl
                try simp only [Act.put, List.setIfInBounds_toArray, List.set_cons_zero, List.set_cons_succ]
                refine headH_takeS (i := 5) (v := ?_) 42 rfl (by kernel_rfl) (by kernel_rfl) (fun _ _ _ h => h) (Or.inl ⟨by rfl, ?_⟩) hHeld ?_
                rotate_left
                · intro w hSw
                  (try dsimp only at hSw)
                  go_simp
                  try with_reducible rfl
                try simp only [Act.put, List.setIfInBounds_toArray, List.set_cons_zero, List.set_cons_succ]
                refine headH_takeS (i := 8) (v := ?_) 45 rfl (by kernel_rfl) (by kernel_rfl) (fun _ _ _ h => h) (Or.inl ⟨by rfl, ?_⟩) hHeld ?_
                rotate_left
                · intro w hSw
                  (try dsimp only at hSw)
                  go_simp
                  try with_reducible rfl
                try simp only [Act.put, List.setIfInBounds_toArray, List.set_cons_zero, List.set_cons_succ]
                refine headH_takeS (i := 9) (v := ?_) 46 rfl (by kernel_rfl) (by kernel_rfl) (fun _ _ _ h => h) (Or.inl ⟨by rfl, ?_⟩) hHeld ?_
                rotate_left
                · intro w hSw
                  (try dsimp only at hSw)
                  go_simp
                  try with_reducible rfl
                try simp only [Act.put, List.setIfInBounds_toArray, List.set_cons_zero, List.set_cons_succ]
                refine headH_all (rs := [10]) (by kernel_rfl) (by kernel_rfl) (headH_cons rfl (fun K hK => ?_) headH_nil)
                go_simp
                refine HAPP.out.mono ?_
                rintro e w6 ⟨v6, rfl, own6, hb6⟩
                obtain ⟨A6, c6, rfl, _⟩ := own6.see
                replace hb6 := bdr hb6
                refine hK.out _ _ ⟨bcell hb6 d0, bcell hb6 d1, bcell hb6 d2, bcell hb6 gk, bcell hb6 gi⟩ (fun hHeldn => ?_)
                clear hK K hHeld
                have hHeld := hHeldn
                clear hHeldn
                try simp only [Act.put, List.setIfInBounds_toArray, List.set_cons_zero, List.set_cons_succ]
                refine headH_takeS (i := 11) (v := ?_) 36 rfl (by kernel_rfl) (by kernel_rfl) (fun _ _ _ h => h) (Or.inl ⟨by rfl, ?_⟩) hHeld ?_
                rotate_left
                · intro w hSw
                  (try dsimp only at hSw)
                  go_simp
                  try with_reducible rfl
                try simp only [Act.put, List.setIfInBounds_toArray, List.set_cons_zero, List.set_cons_succ]
                refine headH_takeS (i := 12) (v := ?_) 48 rfl (by kernel_rfl) (by kernel_rfl) (fun _ _ _ h => h) (Or.inl ⟨by rfl, ?_⟩) hHeld ?_
                rotate_left
                · intro w hSw
                  (try dsimp only at hSw)
                  go_simp
                  try with_reducible rfl
                try simp only [Act.put, List.setIfInBounds_toArray, List.set_cons_zero, List.set_cons_succ]
                refine headH_takeS (i := 13) (v := ?_) 49 rfl (by kernel_rfl) (by kernel_rfl) (fun _ _ _ h => h) (Or.inl ⟨by rfl, ?_⟩) hHeld ?_
                rotate_left
                · intro w hSw
                  (try dsimp only at hSw)
                  go_simp
                  try with_reducible rfl
                try simp only [Act.put, List.setIfInBounds_toArray, List.set_cons_zero, List.set_cons_succ]
                refine headH_takeS (i := 14) (v := ?_) 9 rfl (by kernel_rfl) (by kernel_rfl) (fun _ _ _ h => h) (Or.inl ⟨by rfl, ?_⟩) hHeld ?_
                rotate_left
                · intro w hSw
                  (try dsimp only at hSw)
                  go_simp
                  try with_reducible rfl
                try simp only [Act.put, List.setIfInBounds_toArray, List.set_cons_zero, List.set_cons_succ]
                refine headH_tail (by kernel_rfl) ?_
                clear hHeld
                go_wp2
                go_roundw
                case rel => exact ⟨k + 1, -1, by omega, by go_num, rfl, Lib.hid (.inl ⟨rfl, by have := E.out; omega⟩), btrans hbr hb6⟩
                case measure => simp [intOf]; omega
            · obtain rfl : k = c0 := by omega
              obtain ⟨ey, hcx2, hfs2⟩ := HNEW.out (by omega)
              have HFS := Lib.hid hfs2
              have HCX := Lib.hid hcx2
              have gn := OwnInts.at_ k5 hon
              have fn := OwnInts.free k5 p.toNat
              have hp0 := hor.1
              have hp5 : p < 5 := by omega
              have EY := Lib.hid ey
              have hon' := hon
              clear hfs2 hcx2 hon hX own4 own5 ey hkc
              go_wp2_with (at_builtin; go_must (refine wpList_push_int _ rfl (.tmp 57) (.tmp 62) rfl w3.heap.size (.slice A4 k cc4) fs rfl (k4.below (kbelow _ _)) ⟨wr.heap.size, 0, none⟩ p rfl (by simp [go_sem]) (by omega) (btrans hbb (kbelow _ _)).size ?_; intro v7 w7 hown7 hg7 hv7; obtain ⟨A7, c7, rfl, _⟩ := hown7.see; have k57 := OwnInts.keep (k5.below (kbelow wr (.cells #[.int .i64 p] 2))) (S := fun q => q = b5) (fun q hq => by simp [Value.ownBlock] at hq; exact hq.symm) (keep_grown hg7 (fun q hq e => nb4 q hq e)); have hb7 : Below w3.heap.size w3 w7 := Below.grown (btrans hbb (kbelow wr (.cells #[.int .i64 p] 2))) hg7 (btrans hbb (kbelow wr (.cells #[.int .i64 p] 2))).size (fun q hq => (k4.lt q hq).1); have gi7 := bcell hb7 GI.out; have gn7 := OwnInts.at_ k57 hon'; have fn7 := OwnInts.free k57 p.toNat))
              have nb7 : ∀ q, (Value.slice A7 (fs ++ [p]).length c7).ownBlock = some q → q ≠ b5 := fun q hq => by
                rcases hv7 with h1 | h1
                · exact nb4 q (h1 ▸ hq)
                · rw [h1] at hq
                  have := Option.some.inj hq
                  have e3 := (kbelow wr (.cells #[.int .i64 p] 2)).size
                  omega
              have hz7 := hg7.size
              have hz8 := (kbelow wr (.cells #[.int .i64 p] 2)).size
              have hput := OwnInts.put k57 p.toNat k
              have hown8 := OwnInts.keep hown7 (S := fun q => q ≠ b5) nb7 (kput w7 ⟨b5, p.toNat, none⟩ (.int .i64 k))
              go_roundw
              case rel =>
                refine ⟨i + 1, k + 1, nums.set p.toNat k, by omega, by go_num, HCX, ?_, ?_, ?_, ?_, ?_, ?_⟩
                · rw [HFS.out]
                  have h := hown8
                  simp only [List.length_append, List.length_cons, List.length_nil, Nat.zero_add, hfl] at h
                  exact h
                · intro q hq
                  cases A7 with
                  | none => cases hq
                  | some a => exact nb7 q hq
                · exact hput
                · rw [← EY.out]; exact HNS
                · exact Below.setCell hb7 hz5' _
                · simp; omega
              case measure => simp [intOf]; omega
          · by_cases hkc : k < c0
            · have dk : (k : Int) < c0 := by omega
              have gn := OwnInts.at_ k5 hon
              have fn := OwnInts.free k5 p.toNat
              have hput := OwnInts.put k5 p.toNat x
              have hk4 := OwnInts.keep k4 (S := fun q => q ≠ b5) nb4 (kput wr ⟨b5, p.toNat, none⟩ (.int .i64 x))
              have hp0 := hor.1
              have hp5 : p < 5 := by omega
              have ny : ¬ x < 0 := by omega
              have HCX := Lib.hid (HOLD.out hyc)
              clear hon hX hyc
              go_wp2
              go_roundw
              case rel => exact ⟨i + 1, c0, nums.set p.toNat x, by omega, by go_num, HCX, by rw [← HF3.out]; exact hk4, nb4, hput, HNS, Below.setCell hbb hz5' _, by simp; omega⟩
              case measure => simp [intOf]; omega
            · have dk : ¬ (k : Int) < c0 := by omega
              have gn := OwnInts.at_ k5 hon
              have fn := OwnInts.free k5 p.toNat
              have hput := OwnInts.put k5 p.toNat x
              have hk4 := OwnInts.keep k4 (S := fun q => q ≠ b5) nb4 (kput wr ⟨b5, p.toNat, none⟩ (.int .i64 x))
              have hp0 := hor.1
              have hp5 : p < 5 := by omega
              have ny : ¬ x < 0 := by omega
              have HCX := Lib.hid (HOLD.out hyc)
              clear hon hX hyc
              go_wp2
              go_roundw
              case rel => exact ⟨i + 1, c0, nums.set p.toNat x, by omega, by go_num, HCX, by rw [← HF3.out]; exact hk4, nb4, hput, HNS, Below.setCell hbb hz5' _, by simp; omega⟩
              case measure => simp [intOf]; omega
      · have ei : i = order.length := by omega
        subst ei
        have ec : c0 = q := by
          have h1 := hcx.out
          rw [HQ.out] at h1
          have := Option.some.inj h1
          omega
        subst ec
        have hnl := hnum.out.len
        have HNA := Lib.hid hnum.out.at_
        obtain ⟨fs, hfs⟩ : ∃ fs, fs = fstsTo cl order c0 := ⟨_, rfl⟩
        have hfl : fs.length = c0 := by rw [hfs]; exact fstsTo_length _ _ _
        rw [← hfs] at own4 LST LLS
        obtain ⟨A4, cc4, rfl, s4⟩ := own4.see
        rw [hfl]
        have S4 := Lib.hid s4
        have O5 := Lib.hid own5
        have nlt : ¬ (order.length : Int) < order.length := by omega
        obtain ⟨W0, rfl⟩ : ∃ W0, W0 = wr := ⟨_, rfl⟩
        clear hfs s4 hnum own5 own4 nb4 hcx STG HQ hilt
        have HBB := Lib.hid (btrans HB3.out hb)
        have HB0 := Lib.hid hb
        obtain ⟨W7, hW7⟩ : ∃ W7, W7 = ((W0.alloc (.cells #[] 67)).alloc (.cells #[] 2)).alloc (.cells #[.slice (some ⟨W0.heap.size, 0, none⟩) 0 0, .int .i64 0, .slice (some ⟨W0.heap.size + 1, 0, none⟩) 0 0] 30) := ⟨_, rfl⟩
        have k7 : Below W0.heap.size W0 W7 := by rw [hW7]; go_grown
        have z7 : W7.heap.size = W0.heap.size + 3 := by rw [hW7]; simp
        have ob7 : OBox W7 (W0.heap.size + 1 + 1) (.slice (some ⟨W0.heap.size, 0, none⟩) 0 0) 0 (.slice (some ⟨W0.heap.size + 1, 0, none⟩) 0 0) := by rw [hW7]; exact OBox.new _ _ _ _ (by simp)
        have om7 : OwnMaps W7 W0.heap.size (.slice (some ⟨W0.heap.size, 0, none⟩) 0 0) [] := by
          have h1 := World.ownsRow_made (e := 67) (size := 6) W0 #[] 0 (Nat.le_refl _) (by decide) rfl
          have h2 : OwnMaps (W0.alloc (.cells #[] 67)) W0.heap.size (.slice (some ⟨W0.heap.size, 0, none⟩) 0 0) [] := ⟨[], h1, ⟨rfl, fun k m hk => by simp at hk⟩⟩
          rw [hW7]
          exact (h2.below (kbelow _ _)).below (kbelow _ _)
        have oi7 : OwnInts W7 W0.heap.size (.slice (some ⟨W0.heap.size + 1, 0, none⟩) 0 0) [] := by
          have h1 := World.ownsRow_made (e := 2) (size := 1) (W0.alloc (.cells #[] 67)) #[] 0 (Nat.le_refl _) (by decide) rfl
          have h2 : OwnInts ((W0.alloc (.cells #[] 67)).alloc (.cells #[] 2)) W0.heap.size (.slice (some ⟨W0.heap.size + 1, 0, none⟩) 0 0) [] := by
            have h3 := own_mono h1 (show W0.heap.size ≤ (W0.alloc (.cells #[] 67)).heap.size by simp)
            simp only [World.size_alloc] at h3
            exact h3
          rw [hW7]
          exact h2.below (kbelow _ _)
        subst hW7
        go_wp2
        go_loopw [12] (fun iv wr => ∃ (i : Nat) (v : Value), i ≤ ms.length ∧ iv = .int .i64 i ∧ OBox wr (W0.heap.size + 1 + 1) v 0 (.slice (some ⟨W0.heap.size + 1, 0, none⟩) 0 0) ∧ OwnMaps wr W0.heap.size v ((ms.take i).map fun m => leastTo cl order c0 m c0) ∧ (∀ k, v.ownBlock = some k → k = W0.heap.size ∨ W0.heap.size + 3 ≤ k) ∧ OwnInts wr W0.heap.size (.slice (some ⟨W0.heap.size + 1, 0, none⟩) 0 0) [] ∧ Below W0.heap.size W0 wr ∧ W0.heap.size + 3 ≤ wr.heap.size) (fun iv _ => ms.length - (intOf iv).toNat)
        case atStart => exact ⟨0, _, Nat.zero_le _, rfl, ob7, om7, fun k hk => by simp [Value.ownBlock] at hk; omega, oi7, k7, by simp⟩
        case round =>
          clear ob7 om7 oi7 k7 z7 hb
          obtain ⟨i, v, hi, rfl, ob, own, nbv, oi, hb, zr⟩ := hrel
          obtain ⟨xs, hxs⟩ : ∃ xs, xs = (ms.take i).map fun m => leastTo cl order c0 m c0 := ⟨_, rfl⟩
          rw [← hxs] at own
          obtain ⟨Aw, cw, rfl, _⟩ := own.see
          have d0 := bcell (btrans HBB.out hb) b0
          have i0 : (0 : Int) ≤ i := by omega
          by_cases hilt : i < ms.length
          · obtain ⟨W2, rfl⟩ : ∃ W2, W2 = wr := ⟨_, rfl⟩
            obtain ⟨bA, oA, m, rfl, hm, gm⟩ := (SM1.out.below (btrans HBB.out hb)).at_ hilt
            have LS := Lib.hid (LST.out m (List.mem_of_getElem? hm))
            have HSN := Lib.hid (show (ms.take (i + 1)).map (fun m => leastTo cl order c0 m c0) = xs ++ [leastTo cl order c0 m c0] by rw [hxs, List.take_add_one, hm, List.map_append]; rfl)
            have hxl : xs.length ≤ 6 := by rw [hxs, List.length_map, List.length_take]; omega
            have i1 : (i : Int) < ms.length := by omega
            have GM := Lib.hid gm
            have kg := kbelow W2 (.cells #[.int .i64 (c0 : Int), .int .i64 0, .int .i64 0, .int .i64 0, .int .i64 0, .int .i64 0] 67)
            have bg : MpBox _ W2.heap.size (leastTo cl order c0 m 0) := MpBox.new (w := W2) (⟨(c0 : Int), 0, 0, 0, 0, 0⟩ : Mp) 67 rfl
            clear hm gm hxs
            go_wp2
            go_loopw [14] (fun kv wr2 => ∃ k : Nat, k ≤ c0 ∧ kv = .int .i64 k ∧ MpBox wr2 W2.heap.size (leastTo cl order c0 m k) ∧ Below W2.heap.size W2 wr2) (fun kv _ => c0 - (intOf kv).toNat)
            case atStart => exact ⟨0, Nat.zero_le _, rfl, bg, kg⟩
            case round =>
              clear bg kg
              obtain ⟨k, hk, rfl, bg, hbk⟩ := hrel
              have hbb := btrans hb hbk
              have k0 : (0 : Int) ≤ k := by omega
              by_cases hkq : k < c0
              · obtain ⟨y, o, t, z, fo, o0, o5, et, t0, t5, ly, eo, ez, hset⟩ := LS.out k hkq
                have HSET := Lib.hid hset
                have k1 : (k : Int) < c0 := by omega
                have k5 : k < 5 := by omega
                have k5' : (k : Int) < 5 := by omega
                obtain ⟨bf, of, eA, gf⟩ := S4.out (ne_of_lt (k := k) (by omega))
                subst eA
                have q0 := bcell hbk d0
                have qo := bcell hbb (gf k o fo)
                have qt := (GM.out.below hbk).to (i := o.toNat) (by omega)
                rw [et] at qt
                have hz := HNA.out y ly
                rw [eo, ez] at hz
                have qz := OwnInts.at_ (O5.out.below hbb) hz
                have gc := bg.at.to' k5
                have fr := bg.free
                clear hset fo et eo ez hz gf
                go_wp2
                refine wp_region_headS 17 (fun w' => w'.cell? ⟨w.heap.size, 0, none⟩ = some (.slice (some ⟨bA, oA, none⟩) ms.length c) ∧ w'.cell? ⟨bf, of + k, none⟩ = some (.int .i64 o) ∧ w'.cell? ⟨bA, oA + i * 6 + 1 + o.toNat, none⟩ = some (.int .i64 t) ∧ w'.cell? ⟨b5, t.toNat, none⟩ = some (.int .i64 z)) (by kernel_rfl) (by kernel_rfl) ⟨q0, qo, qt, qz⟩ (fun hHeld => ?_)
                simp only [List.drop]
                refine headH_takeS (i := 0) (v := ?_) 90 rfl (by kernel_rfl) (by kernel_rfl) (fun _ _ _ h => h) (Or.inl ⟨by rfl, ?_⟩) hHeld ?_
                rotate_left
                · intro w hSw
                  (try dsimp only at hSw)
                  go_simp
                  try with_reducible rfl
                try simp only [Act.put, List.setIfInBounds_toArray, List.set_cons_zero, List.set_cons_succ]
                refine headH_takeS (i := 1) (v := ?_) 91 rfl (by kernel_rfl) (by kernel_rfl) (fun _ _ _ h => h) (Or.inl ⟨by rfl, ?_⟩) hHeld ?_
                rotate_left
                · intro w hSw
                  (try dsimp only at hSw)
                  go_simp
                  try with_reducible rfl
                try simp only [Act.put, List.setIfInBounds_toArray, List.set_cons_zero, List.set_cons_succ]
                refine headH_takeS (i := 2) (v := ?_) 92 rfl (by kernel_rfl) (by kernel_rfl) (fun _ _ _ h => h) (Or.inl ⟨by rfl, ?_⟩) hHeld ?_
                rotate_left
                · intro w hSw
                  (try dsimp only at hSw)
                  go_simp
                  try with_reducible rfl
                try simp only [Act.put, List.setIfInBounds_toArray, List.set_cons_zero, List.set_cons_succ]
                refine headH_takeS (i := 3) (v := ?_) 93 rfl (by kernel_rfl) (by kernel_rfl) (fun _ _ _ h => h) (Or.inl ⟨by rfl, ?_⟩) hHeld ?_
                rotate_left
                · intro w hSw
                  (try dsimp only at hSw)
                  go_simp
                  try with_reducible rfl
                try simp only [Act.put, List.setIfInBounds_toArray, List.set_cons_zero, List.set_cons_succ]
                refine headH_takeS (i := 4) (v := ?_) 94 rfl (by kernel_rfl) (by kernel_rfl) (fun _ _ _ h => h) (Or.inl ⟨by rfl, ?_⟩) hHeld ?_
                rotate_left
                · intro w hSw
                  (try dsimp only at hSw)
                  go_simp
                  try with_reducible rfl
                try simp only [Act.put, List.setIfInBounds_toArray, List.set_cons_zero, List.set_cons_succ]
                refine headH_takeS (i := 5) (v := ?_) 95 rfl (by kernel_rfl) (by kernel_rfl) (fun _ _ _ h => h) (Or.inl ⟨by rfl, ?_⟩) hHeld ?_
                rotate_left
                · intro w hSw
                  (try dsimp only at hSw)
                  go_simp
                  try with_reducible rfl
                try simp only [Act.put, List.setIfInBounds_toArray, List.set_cons_zero, List.set_cons_succ]
                refine headH_takeS (i := 6) (v := ?_) 96 rfl (by kernel_rfl) (by kernel_rfl) (fun _ _ _ h => h) (Or.inl ⟨by rfl, ?_⟩) hHeld ?_
                rotate_left
                · intro w hSw
                  (try dsimp only at hSw)
                  go_simp
                  try with_reducible rfl
                try simp only [Act.put, List.setIfInBounds_toArray, List.set_cons_zero, List.set_cons_succ]
                refine headH_takeS (i := 7) (v := ?_) 97 rfl (by kernel_rfl) (by kernel_rfl) (fun _ _ _ h => h) (Or.inl ⟨by rfl, ?_⟩) hHeld ?_
                rotate_left
                · intro w hSw
                  (try dsimp only at hSw)
                  go_simp
                  try with_reducible rfl
                try simp only [Act.put, List.setIfInBounds_toArray, List.set_cons_zero, List.set_cons_succ]
                refine headH_takeS (i := 8) (v := ?_) 98 rfl (by kernel_rfl) (by kernel_rfl) (fun _ _ _ h => h) (Or.inl ⟨by rfl, ?_⟩) hHeld ?_
                rotate_left
                · intro w hSw
                  (try dsimp only at hSw)
                  go_simp
                  try with_reducible rfl
                try simp only [Act.put, List.setIfInBounds_toArray, List.set_cons_zero, List.set_cons_succ]
                refine headH_takeS (i := 9) (v := ?_) 99 rfl (by kernel_rfl) (by kernel_rfl) (fun _ _ _ h => h) (Or.inl ⟨by rfl, ?_⟩) hHeld ?_
                rotate_left
                · intro w hSw
                  (try dsimp only at hSw)
                  go_simp
                  try with_reducible rfl
                try simp only [Act.put, List.setIfInBounds_toArray, List.set_cons_zero, List.set_cons_succ]
                refine headH_takeS (i := 10) (v := ?_) 100 rfl (by kernel_rfl) (by kernel_rfl) (fun _ _ _ h => h) (Or.inl ⟨by rfl, ?_⟩) hHeld ?_
                rotate_left
                · intro w hSw
                  (try dsimp only at hSw)
                  go_simp
                  try with_reducible rfl
                try simp only [Act.put, List.setIfInBounds_toArray, List.set_cons_zero, List.set_cons_succ]
                refine headH_takeS (i := 11) (v := ?_) 101 rfl (by kernel_rfl) (by kernel_rfl) (fun _ _ _ h => h) (Or.inl ⟨by rfl, ?_⟩) hHeld ?_
                rotate_left
                · intro w hSw
                  (try dsimp only at hSw)
                  go_simp
                  try with_reducible rfl
                try simp only [Act.put, List.setIfInBounds_toArray, List.set_cons_zero, List.set_cons_succ]
                refine headH_takeS (i := 12) (v := ?_) 102 rfl (by kernel_rfl) (by kernel_rfl) (fun _ _ _ h => h) (Or.inl ⟨by rfl, ?_⟩) hHeld ?_
                rotate_left
                · intro w hSw
                  (try dsimp only at hSw)
                  go_simp
                  try with_reducible rfl
                try simp only [Act.put, List.setIfInBounds_toArray, List.set_cons_zero, List.set_cons_succ]
                refine headH_takeS (i := 13) (v := ?_) 103 rfl (by kernel_rfl) (by kernel_rfl) (fun _ _ _ h => h) (Or.inl ⟨by rfl, ?_⟩) hHeld ?_
                rotate_left
                · intro w hSw
                  (try dsimp only at hSw)
                  go_simp
                  try with_reducible rfl
                try simp only [Act.put, List.setIfInBounds_toArray, List.set_cons_zero, List.set_cons_succ]
                refine headH_takeS (i := 14) (v := ?_) 104 rfl (by kernel_rfl) (by kernel_rfl) (fun _ _ _ h => h) (Or.inl ⟨by rfl, ?_⟩) hHeld ?_
                rotate_left
                · intro w hSw
                  (try dsimp only at hSw)
                  go_simp
                  try with_reducible rfl
                try simp only [Act.put, List.setIfInBounds_toArray, List.set_cons_zero, List.set_cons_succ]
                refine headH_takeS (i := 15) (v := ?_) 105 rfl (by kernel_rfl) (by kernel_rfl) (fun _ _ _ h => h) (Or.inl ⟨by rfl, ?_⟩) hHeld ?_
                rotate_left
                · intro w hSw
                  (try dsimp only at hSw)
                  go_simp
                  try with_reducible rfl
                try simp only [Act.put, List.setIfInBounds_toArray, List.set_cons_zero, List.set_cons_succ]
                refine headH_takeS (i := 16) (v := ?_) 106 rfl (by kernel_rfl) (by kernel_rfl) (fun _ _ _ h => h) (Or.inl ⟨by rfl, ?_⟩) hHeld ?_
                rotate_left
                · intro w hSw
                  (try dsimp only at hSw)
                  go_simp
                  try with_reducible rfl
                try simp only [Act.put, List.setIfInBounds_toArray, List.set_cons_zero, List.set_cons_succ]
                refine headH_tail (by kernel_rfl) ?_
                clear hHeld
                go_wp2
                go_roundw
                case rel => exact ⟨k + 1, by omega, by go_num, by rw [← HSET.out]; exact bg.set k5 _, Below.setCell (hbk.trans ((Below.drew (Below.refl _ wr)).mono hbk.size)) (Nat.le_refl _) _⟩
                case measure => simp [intOf]; omega
              · have ek : k = c0 := by omega
                subst ek
                obtain ⟨g, hg⟩ : ∃ g, g = leastTo cl order k m k := ⟨_, rfl⟩
                rw [← hg] at bg HSN
                have ob3 := ob.below hbk
                have own3 := own.below hbk
                have oi3 := oi.below hbk
                obtain ⟨o0, o1, o2⟩ := ob3.cells
                obtain ⟨g0, g1, g2, g3, g4, g5⟩ := bg.at.cells0
                have nlt : ¬ (k : Int) < k := by omega
                have ZR := Lib.hid zr
                have zk := hbk.size
                clear hg hkq ob own
                go_wp2_with (at_builtin; go_must (refine wpList_push_map _ rfl (.tmp 108) (.tmp 110) rfl W0.heap.size (.slice Aw xs.length cw) xs rfl (own3.below (kbelow _ _)) _ g rfl (MpBox.new g 67 rfl) (by omega) (by have := ZR.out; simp; omega) ?_; intro v8 w8 hown8 hg8 hv8; obtain ⟨A8, c8, rfl, _⟩ := hown8.see; have ob8 := (ob3.below (kbelow wr (.cells #[.int .i64 g.p, .int .i64 g.a, .int .i64 g.b, .int .i64 g.c, .int .i64 g.d, .int .i64 g.e] 67))).grow hg8 (fun e => by have := nbv _ e; omega); obtain ⟨o80, o81, o82⟩ := ob8.cells; have fr8 := ob8.free))
                have oi8 := OwnInts.keep (oi3.below (kbelow wr (.cells #[.int .i64 g.p, .int .i64 g.a, .int .i64 g.b, .int .i64 g.c, .int .i64 g.d, .int .i64 g.e] 67))) (S := fun q => q = W0.heap.size + 1) (fun q hq => by simp [Value.ownBlock] at hq; exact hq.symm) (keep_grown hg8 (fun q hq e => by have := nbv q hq; omega))
                have hb8 : Below W0.heap.size W0 w8 := (btrans hbb (kbelow wr (.cells #[.int .i64 g.p, .int .i64 g.a, .int .i64 g.b, .int .i64 g.c, .int .i64 g.d, .int .i64 g.e] 67))).grown hg8 (btrans hbb (kbelow wr (.cells #[.int .i64 g.p, .int .i64 g.a, .int .i64 g.b, .int .i64 g.c, .int .i64 g.d, .int .i64 g.e] 67))).size (fun q hq => (own3.lt q hq).1)
                have z8 : W0.heap.size + 3 ≤ w8.heap.size := Nat.le_trans ZR.out (Nat.le_trans zk (Nat.le_trans (kbelow wr (.cells #[.int .i64 g.p, .int .i64 g.a, .int .i64 g.b, .int .i64 g.c, .int .i64 g.d, .int .i64 g.e] 67)).size hg8.size))
                have zk1 := (kbelow wr (.cells #[.int .i64 g.p, .int .i64 g.a, .int .i64 g.b, .int .i64 g.c, .int .i64 g.d, .int .i64 g.e] 67)).size
                have nb8 : ∀ q, (Value.slice A8 (xs.length + 1) c8).ownBlock = some q → q = W0.heap.size ∨ W0.heap.size + 3 ≤ q := fun q hq => by
                  have hq' : (Value.slice A8 (xs ++ [g]).length c8).ownBlock = some q := by
                    cases A8 with
                    | none => cases hq
                    | some a => exact hq
                  rcases hv8 with h1 | h1
                  · exact nbv q (h1 ▸ hq')
                  · rw [h1] at hq'
                    have := Option.some.inj hq'
                    have := ZR.out
                    omega
                have hk8 : Keep (fun q => q ≠ W0.heap.size + 1 + 1) w8 (w8.setCell ⟨W0.heap.size + 1 + 1, 0, none⟩ (.slice A8 (xs.length + 1) c8)) := kput w8 ⟨W0.heap.size + 1 + 1, 0, none⟩ (.slice A8 (xs.length + 1) c8)
                simp only [List.length_append, List.length_cons, List.length_nil, Nat.zero_add] at hown8
                have hown9 := hown8.keep (fun q hq => by have := nb8 q hq; omega) hk8
                have oi9 := oi8.keep (fun q hq => by simp [Value.ownBlock] at hq; omega) hk8
                go_roundw
                case rel => exact ⟨i + 1, _, by omega, by go_num, ob8.set0 _, by rw [HSN.out]; exact hown9, nb8, oi9, Below.setCell hb8 (by show W0.heap.size ≤ W0.heap.size + 1 + 1; omega) _, by simpa using z8⟩
                case measure => simp [intOf]; omega
          · have ei : i = ms.length := by omega
            rw [ei, List.take_length] at hxs
            rw [ei]
            rw [← hxs] at LA
            have nlt2 : ¬ (ms.length : Int) < ms.length := by omega
            obtain ⟨W2, rfl⟩ : ∃ W2, W2 = wr := ⟨_, rfl⟩
            clear hxs ei hilt LST
            have OWN := Lib.hid own
            have NBV := Lib.hid nbv
            have ZR := Lib.hid zr
            have HB2 := Lib.hid (btrans HBB.out hb)
            have HB22 := Lib.hid (btrans HB0.out hb)
            have HBX := Lib.hid hb
            clear own nbv zr hb
            go_wp2
            go_loopw [15] (fun kv wr2 => ∃ (k : Nat) (v' : Value), k ≤ c0 ∧ kv = .int .i64 k ∧ OBox wr2 (W0.heap.size + 1 + 1) (.slice Aw xs.length cw) 0 v' ∧ OwnInts wr2 W0.heap.size v' (leastLast cl order ls k) ∧ (∀ q, v'.ownBlock = some q → q = W0.heap.size + 1 ∨ W2.heap.size ≤ q) ∧ Keep (fun q => q < W2.heap.size ∧ q ≠ W0.heap.size + 1 ∧ q ≠ W0.heap.size + 1 + 1) W2 wr2) (fun kv _ => c0 - (intOf kv).toNat)
            case atStart => exact ⟨0, _, Nat.zero_le _, rfl, ob, oi, fun q hq => by simp [Value.ownBlock] at hq; omega, Keep.refl _ _⟩
            case round =>
              clear ob oi
              obtain ⟨k, v', hk, rfl, ob, own, nbv, hkp⟩ := hrel
              have zk := hkp.size
              obtain ⟨ys, hys⟩ : ∃ ys, ys = leastLast cl order ls k := ⟨_, rfl⟩
              rw [← hys] at own
              obtain ⟨Av, cv, rfl, _⟩ := own.see
              have hzz := HBB.out.size
              have hbb : Below W1.heap.size W1 wr := HB2.out.trans (hkp.below (by have := ZR.out; omega) (fun q hq => by have := ZR.out; omega))
              have k0 : (0 : Int) ≤ k := by omega
              by_cases hkq : k < c0
              · obtain ⟨o, fo, o0, o6, hset⟩ := LLS.out k hkq
                rw [← hys] at hset
                have hyl : ys.length ≤ 5 := by rw [hys]; have := leastLast_le cl order ls k; omega
                have HSET := Lib.hid hset
                have k1 : (k : Int) < c0 := by omega
                obtain ⟨bf, of, eA, gf⟩ := S4.out (ne_of_lt (k := k) (by omega))
                subst eA
                have hbW : Below w3.heap.size w3 wr := HB22.out.trans (hkp.below (by have := ZR.out; have := HB0.out.size; omega) (fun q hq => by have := ZR.out; have := HB0.out.size; omega))
                have hb0W : Below W0.heap.size W0 wr := HBX.out.trans (hkp.below (by have := ZR.out; omega) (fun q hq => by have := ZR.out; omega))
                have d0 := bcell hbb b0
                have d1 := bcell hbb b1
                have d2 := bcell hbb b2
                have qo := bcell hb0W (gf k o fo)
                have HL0 := LAST.out wr.drew (hbb.trans ((Below.drew (Below.refl _ wr)).mono hbb.size)) o o0 o6
                obtain ⟨bl, hbl⟩ : ∃ bl, bl = decide (o ∈ ls) := ⟨_, rfl⟩
                rw [← hbl] at HL0
                have HIL := Lib.hid HL0
                clear hset fo gf hys HL0 hbW
                cases bl
                · have HS2 := Lib.hid (show leastLast cl order ls (k + 1) = ys by rw [HSET.out, if_neg (of_decide_eq_false hbl.symm), List.append_nil])
                  clear hbl
                  go_wp2
                  refine wp_region_headS 5 (fun w' => w'.cell? ⟨w.heap.size, 0, none⟩ = some (.slice A ms.length c) ∧ w'.cell? ⟨w.heap.size, 1, none⟩ = some (.int .i64 f) ∧ w'.cell? ⟨w.heap.size, 2, none⟩ = some (.slice A' ls.length c') ∧ w'.cell? ⟨bf, of + k, none⟩ = some (.int .i64 o)) (by kernel_rfl) (by kernel_rfl) ⟨d0, d1, d2, qo⟩ (fun hHeld => ?_)
                  simp only [List.drop]
                  refine headH_takeS (i := 0) (v := ?_) 119 rfl (by kernel_rfl) (by kernel_rfl) (fun _ _ _ h => h) (Or.inl ⟨by rfl, ?_⟩) hHeld ?_
                  rotate_left
                  · intro w hSw
                    (try dsimp only at hSw)
                    go_simp
                    try with_reducible rfl
                  try simp only [Act.put, List.setIfInBounds_toArray, List.set_cons_zero, List.set_cons_succ]
                  refine headH_takeS (i := 1) (v := ?_) 120 rfl (by kernel_rfl) (by kernel_rfl) (fun _ _ _ h => h) (Or.inl ⟨by rfl, ?_⟩) hHeld ?_
                  rotate_left
                  · intro w hSw
                    (try dsimp only at hSw)
                    go_simp
                    try with_reducible rfl
                  try simp only [Act.put, List.setIfInBounds_toArray, List.set_cons_zero, List.set_cons_succ]
                  refine headH_takeS (i := 2) (v := ?_) 121 rfl (by kernel_rfl) (by kernel_rfl) (fun _ _ _ h => h) (Or.inl ⟨by rfl, ?_⟩) hHeld ?_
                  rotate_left
                  · intro w hSw
                    (try dsimp only at hSw)
                    go_simp
                    try with_reducible rfl
                  try simp only [Act.put, List.setIfInBounds_toArray, List.set_cons_zero, List.set_cons_succ]
                  refine headH_takeS (i := 3) (v := ?_) 122 rfl (by kernel_rfl) (by kernel_rfl) (fun _ _ _ h => h) (Or.inl ⟨by rfl, ?_⟩) hHeld ?_
                  rotate_left
                  · intro w hSw
                    (try dsimp only at hSw)
                    go_simp
                    try with_reducible rfl
                  try simp only [Act.put, List.setIfInBounds_toArray, List.set_cons_zero, List.set_cons_succ]
                  refine headH_takeS (i := 4) (v := ?_) 123 rfl (by kernel_rfl) (by kernel_rfl) (fun _ _ _ h => h) (Or.inl ⟨by rfl, ?_⟩) hHeld ?_
                  rotate_left
                  · intro w hSw
                    (try dsimp only at hSw)
                    go_simp
                    try with_reducible rfl
                  try simp only [Act.put, List.setIfInBounds_toArray, List.set_cons_zero, List.set_cons_succ]
                  refine headH_tail (by kernel_rfl) ?_
                  clear hHeld
                  go_wp2_with (go_at_call 65; refine HIL.out.mono ?_; rintro e w7 ⟨rfl, hb7⟩; replace hb7 := bdr hb7)
                  go_roundw
                  case rel => exact ⟨k + 1, _, by omega, by go_num, ob.below hb7, by rw [HS2.out]; exact own.below hb7, nbv, hkp.trans (kb hb7)⟩
                  case measure => simp [intOf]; omega
                · have HS2 := Lib.hid (show leastLast cl order ls (k + 1) = ys ++ [(k : Int)] by rw [HSET.out, if_pos (of_decide_eq_true hbl.symm)])
                  clear hbl
                  go_wp2
                  refine wp_region_headS 5 (fun w' => w'.cell? ⟨w.heap.size, 0, none⟩ = some (.slice A ms.length c) ∧ w'.cell? ⟨w.heap.size, 1, none⟩ = some (.int .i64 f) ∧ w'.cell? ⟨w.heap.size, 2, none⟩ = some (.slice A' ls.length c') ∧ w'.cell? ⟨bf, of + k, none⟩ = some (.int .i64 o)) (by kernel_rfl) (by kernel_rfl) ⟨d0, d1, d2, qo⟩ (fun hHeld => ?_)
                  simp only [List.drop]
                  refine headH_takeS (i := 0) (v := ?_) 119 rfl (by kernel_rfl) (by kernel_rfl) (fun _ _ _ h => h) (Or.inl ⟨by rfl, ?_⟩) hHeld ?_
                  rotate_left
                  · intro w hSw
                    (try dsimp only at hSw)
                    go_simp
                    try with_reducible rfl
                  try simp only [Act.put, List.setIfInBounds_toArray, List.set_cons_zero, List.set_cons_succ]
                  refine headH_takeS (i := 1) (v := ?_) 120 rfl (by kernel_rfl) (by kernel_rfl) (fun _ _ _ h => h) (Or.inl ⟨by rfl, ?_⟩) hHeld ?_
                  rotate_left
                  · intro w hSw
                    (try dsimp only at hSw)
                    go_simp
                    try with_reducible rfl
                  try simp only [Act.put, List.setIfInBounds_toArray, List.set_cons_zero, List.set_cons_succ]
                  refine headH_takeS (i := 2) (v := ?_) 121 rfl (by kernel_rfl) (by kernel_rfl) (fun _ _ _ h => h) (Or.inl ⟨by rfl, ?_⟩) hHeld ?_
                  rotate_left
                  · intro w hSw
                    (try dsimp only at hSw)
                    go_simp
                    try with_reducible rfl
                  try simp only [Act.put, List.setIfInBounds_toArray, List.set_cons_zero, List.set_cons_succ]
                  refine headH_takeS (i := 3) (v := ?_) 122 rfl (by kernel_rfl) (by kernel_rfl) (fun _ _ _ h => h) (Or.inl ⟨by rfl, ?_⟩) hHeld ?_
                  rotate_left
                  · intro w hSw
                    (try dsimp only at hSw)
                    go_simp
                    try with_reducible rfl
                  try simp only [Act.put, List.setIfInBounds_toArray, List.set_cons_zero, List.set_cons_succ]
                  refine headH_takeS (i := 4) (v := ?_) 123 rfl (by kernel_rfl) (by kernel_rfl) (fun _ _ _ h => h) (Or.inl ⟨by rfl, ?_⟩) hHeld ?_
                  rotate_left
                  · intro w hSw
                    (try dsimp only at hSw)
                    go_simp
                    try with_reducible rfl
                  try simp only [Act.put, List.setIfInBounds_toArray, List.set_cons_zero, List.set_cons_succ]
                  refine headH_tail (by kernel_rfl) ?_
                  clear hHeld
                  go_wp2_with (first | (go_at_call 65; refine HIL.out.mono ?_; rintro e w7 ⟨rfl, hb7⟩; replace hb7 := bdr hb7; have ob7 := ob.below hb7; have own7 := own.below hb7; obtain ⟨o70, o71, o72⟩ := ob7.cells) | (at_builtin; go_must (refine wpList_push_int _ rfl (.tmp 126) (.tmp 128) rfl W0.heap.size (.slice Av ys.length cv) ys rfl (own7.below (kbelow _ _)) ⟨w7.heap.size, 0, none⟩ (k : Int) rfl (by simp [go_sem]) (by omega) (by have := hb7.size; have := ZR.out; simp; omega) ?_; intro v8 w8 hown8 hg8 hv8; obtain ⟨A8, c8, rfl, _⟩ := hown8.see; have ob8 := (ob7.below (kbelow w7 (.cells #[.int .i64 (k : Int)] 2))).grow hg8 (fun e => by have := nbv _ e; have := ZR.out; omega); obtain ⟨o80, o81, o82⟩ := ob8.cells; have fr8 := ob8.free)))
                  have hb78 := btrans hb7 (kbelow w7 (.cells #[.int .i64 (k : Int)] 2))
                  have hk8 : Keep (fun q => q < W2.heap.size ∧ q ≠ W0.heap.size + 1 ∧ q ≠ W0.heap.size + 1 + 1) W2 w8 := (hkp.trans (kb hb78)).trans (keep_grown hg8 fun q hq hs => by have := nbv q hq; omega)
                  have zb := hb78.size
                  have zb2 := hg8.size
                  have nb8 : ∀ q, (Value.slice A8 (ys.length + 1) c8).ownBlock = some q → q = W0.heap.size + 1 ∨ W2.heap.size ≤ q := fun q hq => by
                    have hq' : (Value.slice A8 (ys ++ [(k : Int)]).length c8).ownBlock = some q := by
                      cases A8 with
                      | none => cases hq
                      | some a => exact hq
                    rcases hv8 with h1 | h1
                    · exact nbv q (h1 ▸ hq')
                    · rw [h1] at hq'
                      have := Option.some.inj hq'
                      omega
                  simp only [List.length_append, List.length_cons, List.length_nil, Nat.zero_add] at hown8
                  have hown9 := hown8.keep (S := fun q => q ≠ W0.heap.size + 1 + 1) (fun q hq => by have := nb8 q hq; have := ZR.out; omega) (kput w8 ⟨W0.heap.size + 1 + 1, 2, none⟩ (.slice A8 (ys.length + 1) c8))
                  go_roundw
                  case rel => exact ⟨k + 1, _, by omega, by go_num, ob8.set2 _, by rw [HS2.out]; exact hown9, nb8, Keep.set hk8 (by simp) _⟩
                  case measure => simp [intOf]; omega
              · have ek : k = c0 := by omega
                subst ek
                have HYS := Lib.hid hys
                clear hys
                have nlt3 : ¬ (k : Int) < k := by omega
                obtain ⟨o0, o1, o2⟩ := ob.cells
                have rb := RB1.out.below hbb
                obtain ⟨r0, r1, r2⟩ := rb.cells
                have rf := rb.free
                have hZ := ZR.out
                have hNB := NBV.out
                have hown := OWN.out.keep (fun q hq => by have h1 := OWN.out.lt q hq; have h2 := hNB q hq; exact ⟨h1.2, by omega, by omega⟩) hkp
                have hbz : Below w.heap.size w wr := btrans KK1.out hbb
                have hz1 := RB1.out.lt
                clear hkq
                go_wp2
                refine bodyPost_ret (v := .agg #[.slice Aw xs.length cw, .int .i64 0, .slice Av ys.length cv]) (by simp [results, Try.results91, go_sem, r0, r1, r2, o0, o1, o2, hz1]) rfl ?_
                rw [LA.out]
                have zz : w.heap.size + 1 < W0.heap.size := by omega
                refine ⟨_, _, rfl, ?_, ?_, ?_⟩
                · refine OwnMaps.mono ?_ (show w.heap.size ≤ W0.heap.size by omega)
                  iterate 3 refine OwnMaps.setBelow ?_ (by simp; omega) _
                  exact hown
                · refine OwnInts.mono ?_ (show w.heap.size ≤ W0.heap.size by omega)
                  iterate 3 refine OwnInts.setBelow ?_ (by simp; omega) _
                  rw [← HYS.out]
                  exact own
                · iterate 3 refine Below.setCell ?_ (by simp) _
                  exact hbz
/-! 'LeastAcceptor', on both sides. -/
set_option maxHeartbeats 4000000 in
theorem implLeastAcceptor_l {A A' : Option Addr} {c c' : Nat} {ms : List Mp} {f : Int} {ls : List Int} {w : World} (h : SeeMaps w A ms) (hn : ms.length ≤ 2097152) (hA : NilOk A c) (h' : SeeInts w A' ls) (hn' : ls.length ≤ 2097152) (hA' : NilOk A' c') :
    Calls Try.prog 45 #[.agg #[.slice A ms.length c, .int .i64 f, .slice A' ls.length c']] w fun e w' => ∃ v v', e = .returned (.tuple #[.agg #[v, .int .i64 (RLeastAcceptor ms f ls).1.2.1, v'], .int .i64 (RLeastAcceptor ms f ls).2]) ∧ OwnMaps w' w.heap.size v (RLeastAcceptor ms f ls).1.1 ∧ OwnInts w' w.heap.size v' (RLeastAcceptor ms f ls).1.2.2 ∧ Below w.heap.size w w' := by
  obtain ⟨W1, hW1⟩ : ∃ W1, W1 = (w.alloc (Obj.cells #[Value.slice A ms.length c, .int .i64 f, Value.slice A' ls.length c'] 30)).alloc (Obj.cells #[Value.slice none 0 0, .int .i64 0, Value.slice none 0 0] 30) := ⟨_, rfl⟩
  have k1 : Below w.heap.size w W1 := by rw [hW1]; go_grown
  have at1 : AccAt W1 w.heap.size A A' c c' ms f ls := by rw [hW1]; exact (AccAt.new h h' _).below (kbelow _ _)
  have rb1 : OBox W1 (w.heap.size + 1) (.slice none 0 0) 0 (.slice none 0 0) := by rw [hW1]; exact OBox.new _ _ _ _ (by simp)
  have hacc := IsAcceptor_c A A' c c' ms f ls W1 at1.sm hn hA at1.sl hn'
  obtain ⟨r, hr⟩ : ∃ r, r = RLeastAcceptor ms f ls := ⟨_, rfl⟩
  rw [← hr]
  have HR := Lib.hid hr
  have HK0 := Lib.hid k1
  have AT1 := Lib.hid at1
  have b0 := at1.c0
  have b1 := at1.c1
  have b2 := at1.c2
  clear hr k1 h h' hA at1
  cases hac : accB ms f ls
  · rw [hac] at hacc
    have HACC := Lib.hid hacc
    have E1 := Lib.hid (show r = (([], 0, []), 1) by rw [HR.out]; unfold RLeastAcceptor; rw [if_neg (by rw [hac]; decide)])
    clear hacc hac HR
    go_enter Try.func45, Try.ntmps45
    go_wp2_with fail
    rw [← hW1]
    clear hW1
    refine HACC.out.mono ?_
    rintro e w1 ⟨rfl, hb1⟩
    have rb := rb1.below hb1
    obtain ⟨rz, ry, rx⟩ := rb.cells
    have fy := rb.free
    have hb := btrans HK0.out hb1
    go_wp2
    refine bodyPost_ret (v := .tuple #[.agg #[.slice none 0 0, .int .i64 0, .slice none 0 0], .int .i64 1]) (by simp [results, Try.results45, go_sem, rz, ry, rx]) rfl ?_
    rw [E1.out]
    exact ⟨_, _, rfl, OwnMaps.none _ _, OwnInts.nil _ _, by go_grown⟩
  · rw [hac] at hacc
    have HACC := Lib.hid hacc
    have ra := RightA.of hac
    obtain ⟨lm, ll, hl⟩ : ∃ lm ll, leastA ms f ls = (lm, 0, ll) := ⟨_, _, rfl⟩
    have E1 := Lib.hid (show r = ((lm, 0, ll), 0) by rw [HR.out, ← hl]; unfold RLeastAcceptor; rw [if_pos hac])
    have HLC := Lib.hid (fun W (hW : Below W1.heap.size W1 W) => least_c ra (AT1.out.below hW) hn' hn)
    rw [hl] at HLC
    clear hacc hac HR ra hl
    go_enter Try.func45, Try.ntmps45
    go_wp2_with fail
    rw [← hW1]
    clear hW1
    refine HACC.out.mono ?_
    rintro e w1 ⟨rfl, hb1⟩
    go_wp2_with fail
    refine (HLC.out w1 hb1).mono ?_
    rintro e w2 ⟨v, v', rfl, own, own', hb2⟩
    obtain ⟨A2, c2, rfl, _⟩ := own.see
    obtain ⟨A3, c3, rfl, _⟩ := own'.see
    have rb := rb1.below (btrans hb1 hb2)
    obtain ⟨rz, ry, rx⟩ := rb.cells
    have fy := rb.free
    have hb := btrans HK0.out (btrans hb1 hb2)
    have zz := (btrans HK0.out hb1).size
    have zz2 := rb1.lt
    have zz3 := hb1.size
    go_wp2
    refine bodyPost_ret (v := .tuple #[.agg #[.slice A2 lm.length c2, .int .i64 0, .slice A3 ll.length c3], .int .i64 0]) (by simp [results, Try.results45, go_sem, rz, ry, rx]) rfl ?_
    rw [E1.out]
    refine ⟨_, _, rfl, ?_, ?_, by go_grown⟩
    · refine OwnMaps.mono ?_ zz
      iterate 3 refine OwnMaps.setBelow ?_ (by simp; omega) _
      exact own
    · refine OwnInts.mono ?_ zz
      iterate 3 refine OwnInts.setBelow ?_ (by simp; omega) _
      exact own'
set_option maxHeartbeats 4000000 in
theorem specLeastAcceptor_l {A A' : Option Addr} {c c' : Nat} {ms : List Mp} {f : Int} {ls : List Int} {w : World} (h : SeeMaps w A ms) (hn : ms.length ≤ 2097152) (hA : NilOk A c) (h' : SeeInts w A' ls) (hn' : ls.length ≤ 2097152) (hA' : NilOk A' c') :
    Calls Try.prog 44 #[.agg #[.slice A ms.length c, .int .i64 f, .slice A' ls.length c']] w fun e w' => ∃ v v', e = .returned (.tuple #[.agg #[v, .int .i64 (RLeastAcceptor ms f ls).1.2.1, v'], .int .i64 (RLeastAcceptor ms f ls).2]) ∧ OwnMaps w' w.heap.size v (RLeastAcceptor ms f ls).1.1 ∧ OwnInts w' w.heap.size v' (RLeastAcceptor ms f ls).1.2.2 ∧ Below w.heap.size w w' := by
  obtain ⟨W1, hW1⟩ : ∃ W1, W1 = (w.alloc (Obj.cells #[Value.slice A ms.length c, .int .i64 f, Value.slice A' ls.length c'] 30)).alloc (Obj.cells #[Value.slice none 0 0, .int .i64 0, Value.slice none 0 0] 30) := ⟨_, rfl⟩
  have k1 : Below w.heap.size w W1 := by rw [hW1]; go_grown
  have at1 : AccAt W1 w.heap.size A A' c c' ms f ls := by rw [hW1]; exact (AccAt.new h h' _).below (kbelow _ _)
  have rb1 : OBox W1 (w.heap.size + 1) (.slice none 0 0) 0 (.slice none 0 0) := by rw [hW1]; exact OBox.new _ _ _ _ (by simp)
  have hacc := l07Is_c A A' c c' ms f ls W1 at1.sm hn at1.sl hn'
  obtain ⟨r, hr⟩ : ∃ r, r = RLeastAcceptor ms f ls := ⟨_, rfl⟩
  rw [← hr]
  have HR := Lib.hid hr
  have HK0 := Lib.hid k1
  have AT1 := Lib.hid at1
  have b0 := at1.c0
  have b1 := at1.c1
  have b2 := at1.c2
  clear hr k1 h h' hA at1
  cases hac : accB ms f ls
  · rw [hac] at hacc
    have HACC := Lib.hid hacc
    have E1 := Lib.hid (show r = (([], 0, []), 1) by rw [HR.out]; unfold RLeastAcceptor; rw [if_neg (by rw [hac]; decide)])
    clear hacc hac HR
    go_enter Try.func44, Try.ntmps44
    go_wp2_with fail
    rw [← hW1]
    clear hW1
    refine HACC.out.mono ?_
    rintro e w1 ⟨rfl, hb1⟩
    have rb := rb1.below hb1
    obtain ⟨rz, ry, rx⟩ := rb.cells
    have fy := rb.free
    have hb := btrans HK0.out hb1
    go_wp2
    refine bodyPost_ret (v := .tuple #[.agg #[.slice none 0 0, .int .i64 0, .slice none 0 0], .int .i64 1]) (by simp [results, Try.results44, go_sem, rz, ry, rx]) rfl ?_
    rw [E1.out]
    exact ⟨_, _, rfl, OwnMaps.none _ _, OwnInts.nil _ _, by go_grown⟩
  · rw [hac] at hacc
    have HACC := Lib.hid hacc
    have ra := RightA.of hac
    obtain ⟨lm, ll, hl⟩ : ∃ lm ll, leastA ms f ls = (lm, 0, ll) := ⟨_, _, rfl⟩
    have E1 := Lib.hid (show r = ((lm, 0, ll), 0) by rw [HR.out, ← hl]; unfold RLeastAcceptor; rw [if_pos hac])
    have HLC := Lib.hid (fun W (hW : Below W1.heap.size W1 W) => l07Least_c (c := c) (c' := c') ra (AT1.out.below hW).sm (AT1.out.below hW).sl hn')
    rw [hl] at HLC
    clear hacc hac HR ra hl
    go_enter Try.func44, Try.ntmps44
    go_wp2_with fail
    rw [← hW1]
    clear hW1
    refine HACC.out.mono ?_
    rintro e w1 ⟨rfl, hb1⟩
    have c0 := bcell hb1 b0
    have c1 := bcell hb1 b1
    have c2 := bcell hb1 b2
    go_wp2_with fail
    refine (HLC.out w1 hb1).mono ?_
    rintro e w2 ⟨v, v', rfl, own, own', hb2⟩
    obtain ⟨A2, c2, rfl, _⟩ := own.see
    obtain ⟨A3, c3, rfl, _⟩ := own'.see
    have rb := rb1.below (btrans hb1 hb2)
    obtain ⟨rz, ry, rx⟩ := rb.cells
    have fy := rb.free
    have hb := btrans HK0.out (btrans hb1 hb2)
    have zz := (btrans HK0.out hb1).size
    have zz2 := rb1.lt
    have zz3 := hb1.size
    go_wp2
    refine bodyPost_ret (v := .tuple #[.agg #[.slice A2 lm.length c2, .int .i64 0, .slice A3 ll.length c3], .int .i64 0]) (by simp [results, Try.results44, go_sem, rz, ry, rx]) rfl ?_
    rw [E1.out]
    refine ⟨_, _, rfl, ?_, ?_, by go_grown⟩
    · refine OwnMaps.mono ?_ zz
      iterate 3 refine OwnMaps.setBelow ?_ (by simp; omega) _
      exact own
    · refine OwnInts.mono ?_ zz
      iterate 3 refine OwnInts.setBelow ?_ (by simp; omega) _
      exact own'
end Go.Proofs.Ytbodaefdaagelaa
