/- 'PointsReached' on both sides; the reference's search for points. No condition. -/
import Derived.Test.YtbodaefdaagelaaReached
import Derived.Test.YtbodaefdaagelaaLast
namespace Go.Proofs.Ytbodaefdaagelaa
set_option linter.unusedSimpArgs false
set_option linter.unusedVariables false
set_option linter.unusedSectionVars false
open Go.RowKit
/-- one letter's step of a point -/
def stS (ms : List Mp) (j : Nat) (p : Int) : Int := (ms.getD j Mp.z).at p
def reachS (ms : List Mp) (p : Int) : List Int := (gF (stS ms) ms.length p).map Prod.fst
def ptsU (n : Int) : List Int := (List.range n.toNat).map fun (i : Nat) => (i : Int)
theorem ptsU_mem {n p : Int} : p ∈ ptsU n ↔ 0 ≤ p ∧ p < n := by
  unfold ptsU
  rw [List.mem_map]
  constructor
  · rintro ⟨i, hi, rfl⟩
    have := List.mem_range.1 hi
    omega
  · rintro ⟨h0, h1⟩
    exact ⟨p.toNat, List.mem_range.2 (by omega), by omega⟩
theorem RightL.getD {ms : List Mp} {n : Int} (h : RightL ms n) {j : Nat} (hj : j < ms.length) : MpN (ms.getD j Mp.z) n := by
  rw [List.getD_eq_getElem?_getD, List.getElem?_eq_getElem hj]
  exact h.all _ (List.getElem_mem hj)
theorem univS {ms : List Mp} {n p : Int} (h : RightL ms n) (h0 : 0 ≤ p) (h1 : p < n) : Univ (stS ms) ms.length p (ptsU n) :=
  ⟨ptsU_mem.2 ⟨h0, h1⟩, fun j hj s hs => ptsU_mem.2 ((h.getD hj).at (ptsU_mem.1 hs).1 (ptsU_mem.1 hs).2), by have := h.bounds; unfold ptsU; rw [List.length_map, List.length_range]; omega⟩
theorem reach_eq {ms : List Mp} {n p : Int} (h : RightL ms n) (h0 : 0 ≤ p) (h1 : p < n) : reachL ms p = reachS ms p := by
  unfold reachL reachS gF
  rw [gb_map (univS h h0 h1) (st' := stp leadB ms) (start' := [p]) (fun x => [x]) rfl (fun j _ s _ => rfl) (fun s _ t _ e => by simpa using e), List.map_map]
  rfl
theorem bit_zero {ls : List Int} (hx : ∀ x ∈ ls, 0 ≤ x ∧ x < 6) {p : Int} (p0 : 0 ≤ p) : (bits .and .i64 ((bitsN ls : Int) / 2 ^ p.toNat) 1 == 0) = !decide (p ∈ ls) := by
  have h := last_bit hx p0
  have hlt : bitsN ls < 2 ^ 6 := bitsN_lt (j := 6) hx
  have e1 : ((bitsN ls : Int) / 2 ^ p.toNat) = ((bitsN ls / 2 ^ p.toNat : Nat) : Int) := by push_cast; rfl
  have h63 : bitsN ls / 2 ^ p.toNat < 2 ^ 63 := Nat.lt_of_le_of_lt (Nat.div_le_self _ _) (Nat.lt_of_lt_of_le hlt (by decide))
  have e2 : bits .and .i64 ((bitsN ls / 2 ^ p.toNat : Nat) : Int) 1 = ((bitsN ls / 2 ^ p.toNat &&& 1 : Nat) : Int) := bits_and _ 1 h63 (by decide)
  rw [e1, e2, Nat.and_one_is_mod] at h ⊢
  rw [← h]
  rcases Nat.mod_two_eq_zero_or_one (bitsN ls / 2 ^ p.toNat) with h0 | h0 <;> simp [h0]
theorem bitsN_snoc {ls : List Int} (hx : ∀ x ∈ ls, 0 ≤ x ∧ x < 6) {p : Int} (p0 : 0 ≤ p) (p1 : p < 6) : bits .or .i64 (bitsN ls : Int) (wrap64 (2 ^ p.toNat)) = (bitsN (ls ++ [p]) : Int) := by
  have hlt' : bitsN ls < 2 ^ 63 := Nat.lt_of_lt_of_le (bitsN_lt (j := 6) hx) (by decide)
  rw [pow_of p0 p1, bits_or _ _ hlt' (pow_lt p1)]
  congr 1
  simp [bitsN, List.foldl_append]
theorem mem_any (q : List (Int × List Int)) (p : Int) : q.any (fun m => decide (m.1 = p)) = decide (p ∈ q.map Prod.fst) := by
  rw [Bool.eq_iff_iff, List.any_eq_true, decide_eq_true_eq, List.mem_map]
  constructor
  · rintro ⟨m, hm, e⟩; exact ⟨m, hm, by simpa using e⟩
  · rintro ⟨m, hm, e⟩; exact ⟨m, hm, by simpa using e⟩
theorem bits_one (f : Int) : ((1 <<< f.toNat : Nat) : Int) = (bitsN [f] : Int) := by simp [bitsN]
theorem sh1 {f : Int} (f6 : f < 6) : wrap64 (2 ^ min f.toNat 64) = wrap64 (2 ^ f.toNat) := by rw [Nat.min_eq_left (by omega)]
set_option maxHeartbeats 4000000 in
theorem l07Reached_c (A A' : Option Addr) (l' c c' : Nat) (ms : List Mp) (f n : Int) (w : World) (h : SeeMaps w A ms) (hr : RightL ms n) (f0 : 0 ≤ f) (f1 : f < n) :
    Calls Try.prog 75 #[.agg #[.slice A ms.length c, .int .i64 f, .slice A' l' c']] w fun e w' => ∃ v, e = .returned v ∧ OwnInts w' w.heap.size v (reachS ms f) ∧ Below w.heap.size w w' := by
  have hU := univS hr f0 f1
  have n5 := hr.bounds.2
  have six := hr.six
  have k0 : Below w.heap.size w (w.alloc (Obj.cells #[Value.slice A ms.length c, .int .i64 f, Value.slice A' l' c'] 30)) := by go_grown
  obtain ⟨b0, b1, b2⟩ := AccBox w A A' ms.length c l' c' f 30
  have hs := (h.below k0).bw
  have f6 : f < 6 := by omega
  have hfine := fun i => gb_fine hU i
  have hlen := fun i => gb_length hU i
  have HFine := Lib.hid hfine
  have HLen := Lib.hid hlen
  have HU := Lib.hid hU
  have HR := Lib.hid hr
  have pow0 := pow_of f0 f6
  have POW := Lib.hid pow0
  clear hfine hlen hU hr pow0
  go_enter Try.func75, Try.ntmps75
  go_wp2
  refine wp_region_headS 8 (fun w' => w'.cell? ⟨w.heap.size, 1, none⟩ = some (.int .i64 f)) (by kernel_rfl) (by kernel_rfl) (show _ from b1 ⟨_, Below.drew (Below.refl _ _)⟩) (fun hHeld => ?_)
  simp only [List.drop]
  refine headH_take (i := 0) (v := ?_) rfl (by kernel_rfl) (fun _ _ _ h => h) (Or.inl ⟨by rfl, ?_⟩) hHeld ?_
  rotate_left
  · intro w hSw
    (try dsimp only at hSw)
    go_simp
    try with_reducible rfl
  try simp only [Act.put, List.setIfInBounds_toArray, List.set_cons_zero, List.set_cons_succ]
  refine headH_take (i := 1) (v := ?_) rfl (by kernel_rfl) (fun _ _ _ h => h) (Or.inl ⟨by rfl, ?_⟩) hHeld ?_
  rotate_left
  · intro w hSw
    (try dsimp only at hSw)
    go_simp
    try with_reducible rfl
  try simp only [Act.put, List.setIfInBounds_toArray, List.set_cons_zero, List.set_cons_succ]
  refine headH_take (i := 3) (v := ?_) rfl (by kernel_rfl) (fun _ _ _ h => h) (Or.inl ⟨by rfl, ?_⟩) hHeld ?_
  rotate_left
  · intro w hSw
    (try dsimp only at hSw)
    go_simp
    try with_reducible rfl
  try simp only [Act.put, List.setIfInBounds_toArray, List.set_cons_zero, List.set_cons_succ]
  refine headH_take (i := 4) (v := ?_) rfl (by kernel_rfl) (fun _ _ _ h => h) (Or.inl ⟨by rfl, ?_⟩) hHeld ?_
  rotate_left
  · intro w hSw
    (try dsimp only at hSw)
    go_simp
    try with_reducible rfl
  try simp only [Act.put, List.setIfInBounds_toArray, List.set_cons_zero, List.set_cons_succ]
  refine headH_take (i := 5) (v := ?_) rfl (by kernel_rfl) (fun _ _ _ h => h) (Or.inl ⟨by rfl, ?_⟩) hHeld ?_
  rotate_left
  · intro w hSw
    (try dsimp only at hSw)
    go_simp
    try with_reducible rfl
  try simp only [Act.put, List.setIfInBounds_toArray, List.set_cons_zero, List.set_cons_succ]
  refine headH_take (i := 6) (v := ?_) rfl (by kernel_rfl) (fun _ _ _ h => h) (Or.inl ⟨by rfl, ?_⟩) hHeld ?_
  rotate_left
  · intro w hSw
    (try dsimp only at hSw)
    go_simp
    try with_reducible rfl
  try simp only [Act.put, List.setIfInBounds_toArray, List.set_cons_zero, List.set_cons_succ]
  refine headH_all (rs := [2]) (by kernel_rfl) (by kernel_rfl) (headH_cons rfl (fun K hK => ?_) headH_nil)
  go_simp
  refine hK.out _ _ (by simp [go_sem]) (fun hHeldn => ?_)
  clear hK K hHeld
  have hHeld := hHeldn
  clear hHeldn
  try simp only [Act.put, List.setIfInBounds_toArray, List.set_cons_zero, List.set_cons_succ]
  refine headH_take (i := 7) (v := ?_) rfl (by kernel_rfl) (fun _ _ _ h => h) (Or.inl ⟨by rfl, ?_⟩) hHeld ?_
  rotate_left
  · intro w hSw
    (try dsimp only at hSw)
    go_simp
    try with_reducible rfl
  try simp only [Act.put, List.setIfInBounds_toArray, List.set_cons_zero, List.set_cons_succ]
  refine headH_tail (by kernel_rfl) ?_
  go_wp2
  have k1 : Below (w.alloc (Obj.cells #[Value.slice A ms.length c, .int .i64 f, Value.slice A' l' c'] 30)).heap.size (w.alloc (Obj.cells #[Value.slice A ms.length c, .int .i64 f, Value.slice A' l' c'] 30)) (((w.alloc (Obj.cells #[Value.slice A ms.length c, .int .i64 f, Value.slice A' l' c'] 30)).alloc (Obj.cells #[.int .i64 f] 2)).drew) := Below.drew (kbelow _ _)
  have e1 : (w.alloc (Obj.cells #[Value.slice A ms.length c, .int .i64 f, Value.slice A' l' c'] 30)).heap.size = w.heap.size + 1 := by simp
  have o1 : OwnInts (((w.alloc (Obj.cells #[Value.slice A ms.length c, .int .i64 f, Value.slice A' l' c'] 30)).alloc (Obj.cells #[.int .i64 f] 2)).drew) (w.heap.size + 1) (.slice (some ⟨w.heap.size + 1, 0, none⟩) 1 1) [f] := by
    have o1 := (OwnInts.one (w.alloc (Obj.cells #[Value.slice A ms.length c, .int .i64 f, Value.slice A' l' c'] 30)) (w.heap.size + 1) (by simp) f).below (Below.drew (Below.refl _ _))
    rw [e1] at o1
    exact o1
  clear e1
  clear hHeld
  generalize hW1 : w.alloc (Obj.cells #[Value.slice A ms.length c, .int .i64 f, Value.slice A' l' c'] 30) = W1 at *
  have hz1 : W1.heap.size = w.heap.size + 1 := by rw [← hW1]; simp
  have HZ1 := Lib.hid hz1
  clear hW1 hz1
  generalize (W1.alloc (Obj.cells #[.int .i64 f] 2)).drew = W2 at *
  go_loopw [5, 3, 4] (fun at_ out met wr => ∃ k : Nat, at_ = .int .i64 k ∧ k ≤ (gb (stS ms) ms.length f k).length ∧ OwnInts wr (w.heap.size + 1) out ((gb (stS ms) ms.length f k).map Prod.fst) ∧ met = .int .i64 (bitsN ((gb (stS ms) ms.length f k).map Prod.fst)) ∧ Below W1.heap.size W1 wr) (fun at_ _ _ _ => 1001 - (intOf at_).toNat)
  case atStart => exact ⟨0, rfl, Nat.zero_le _, o1, by rw [sh1 f6, POW.out]; exact congrArg (Value.int .i64) (bits_one f), k1⟩
  case round =>
    clear o1 k1
    obtain ⟨k, rfl, hk, hown, rfl, hb⟩ := hrel
    have hle := HLen.out k
    have hgl : ((gb (stS ms) ms.length f k).map Prod.fst).length = (gb (stS ms) ms.length f k).length := List.length_map _
    obtain ⟨A1, c1, rfl, hsee⟩ := hown.see
    rw [hgl] at hown ⊢
    have HGL := Lib.hid hgl
    clear hgl
    by_cases hlt : k < (gb (stS ms) ms.length f k).length
    · obtain ⟨now, hnow⟩ := el hlt
      have hnp : 0 ≤ now.1 ∧ now.1 < n := ptsU_mem.1 ((HFine.out k).mem now (List.mem_of_getElem? hnow))
      have HN := Lib.hid hnow
      clear hnow hsee
      have l0 : (0 : Int) ≤ k := by omega
      have l1 : (k : Int) < (gb (stS ms) ms.length f k).length := by omega
      have hgq : gb (stS ms) ms.length f (k + 1) = gTo (stS ms) now (gb (stS ms) ms.length f k) ms.length := gb_succ HN.out
      have HGQ := Lib.hid hgq
      clear hgq
      go_wp2
      go_loopw [6, 3, 4] (fun i out met wr => ∃ j : Nat, i = .int .i64 j ∧ j ≤ ms.length ∧ OwnInts wr (w.heap.size + 1) out ((gTo (stS ms) now (gb (stS ms) ms.length f k) j).map Prod.fst) ∧ met = .int .i64 (bitsN ((gTo (stS ms) now (gb (stS ms) ms.length f k) j).map Prod.fst)) ∧ Below W1.heap.size W1 wr) (fun i _ _ _ => ms.length - (intOf i).toNat)
      case atStart => exact ⟨0, rfl, Nat.zero_le _, hown, rfl, hb⟩
      case round =>
        clear hown hb
        obtain ⟨j, rfl, hj, hown, rfl, hb⟩ := hrel
        have q0 := b0 ⟨wr, hb⟩
        simp only at q0
        have hfin := gTo_fine (st := stS ms) (now := now) (HFine.out k) j (fun i hi => HU.out.step i (by omega) _ ((HFine.out k).mem now (List.mem_of_getElem? HN.out)))
        have hin : ∀ x ∈ (gTo (stS ms) now (gb (stS ms) ms.length f k) j).map Prod.fst, 0 ≤ x ∧ x < 6 := fun x hx => by
          obtain ⟨m, hm, rfl⟩ := List.mem_map.1 hx
          have := ptsU_mem.1 (hfin.mem m hm)
          omega
        have hq1000 := hfin.length
        have hq2 := (HU.out).len
        have hpre : ((gTo (stS ms) now (gb (stS ms) ms.length f k) j).map Prod.fst)[k]? = some now.1 := by
          obtain ⟨t, ht⟩ := gTo_prefix (st := stS ms) now (gb (stS ms) ms.length f k) j
          rw [ht, List.map_append, List.getElem?_append_left (by rw [List.length_map]; exact hlt), List.getElem?_map, HN.out]
          rfl
        have hq3 : ((gTo (stS ms) now (gb (stS ms) ms.length f k) j).map Prod.fst).length ≤ 1000 := by rw [List.length_map]; omega
        obtain ⟨Q, hQ⟩ : ∃ Q, Q = (gTo (stS ms) now (gb (stS ms) ms.length f k) j).map Prod.fst := ⟨_, rfl⟩
        rw [← hQ] at hown hin hpre hq3 ⊢
        have HQ := Lib.hid hQ
        have HIN := Lib.hid hin
        have HFJ := Lib.hid hfin
        clear hQ hin hfin hq1000 hq2
        by_cases hlj : j < ms.length
        · obtain ⟨b, o, g, rfl, hg, gm⟩ := (hs ⟨wr, hb⟩).at_ hlj
          obtain ⟨A2, c2, rfl, hsee⟩ := hown.see
          obtain ⟨b2', o2, x, rfl, hx, qx⟩ := hsee.at_ (k := k) (List.getElem?_eq_some_iff.1 hpre).1
          rw [hpre] at hx
          obtain rfl := Option.some.inj hx
          have hgn : MpN g n := HR.out.all g (List.mem_of_getElem? hg)
          have hst : stS ms j now.1 = g.at now.1 := by unfold stS; rw [List.getD_eq_getElem?_getD, hg]; rfl
          have hto := gm.to (i := now.1.toNat) (by omega)
          obtain ⟨p0, p1⟩ := hgn.at hnp.1 hnp.2
          have e : g.to now.1.toNat = g.at now.1 := rfl
          rw [e] at hto
          generalize g.at now.1 = p at *
          have HST := Lib.hid hst
          have n0 := hnp.1
          have n1 : now.1 < 5 := by omega
          have p6 : p < 6 := by omega
          have kq : k < Q.length := (List.getElem?_eq_some_iff.1 hpre).1
          have kq' : (k : Int) < Q.length := by omega
          have lj0 : (0 : Int) ≤ j := by omega
          have lj1 : (j : Int) < ms.length := by omega
          have Q0 := bwcell q0
          have QX := bwcell qx
          have QT := bwcell hto
          have bz := bit_zero HIN.out p0
          have step : ∀ Q', Q' = (gTo (stS ms) now (gb (stS ms) ms.length f k) (j + 1)).map Prod.fst → (p ∈ Q → Q' = Q) ∧ (p ∉ Q → Q' = Q ++ [p]) := fun Q' hQ' => by
            have ha := mem_any (gTo (stS ms) now (gb (stS ms) ms.length f k) j) p
            rw [← HQ.out] at ha
            constructor
            · intro hp
              rw [hQ', HQ.out]
              show (g1 (stS ms) now (gTo (stS ms) now (gb (stS ms) ms.length f k) j) j).map Prod.fst = _
              rw [g1_hit (by rw [HST.out, ha]; simpa using hp)]
            · intro hp
              rw [hQ', HQ.out]
              show (g1 (stS ms) now (gTo (stS ms) now (gb (stS ms) ms.length f k) j) j).map Prod.fst = _
              rw [g1_new (by rw [HST.out, ha]; simpa using hp), List.map_append, HST.out]
              rfl
          have HSTEP := Lib.hid step
          clear step hst hpre hg hgn qx hto hsee e gm
          by_cases hp : p ∈ Q
          · have HP := Lib.hid hp
            rw [decide_eq_true hp] at bz
            clear hp
            go_wp2
            refine wp_region_bw (by kernel_rfl) (by kernel_rfl) ?_
            repeat go_big_quiet_step (fail)
            refine wpQuiet_nil ?_
            rintro _ ⟨⟨w2, hb2⟩, rfl⟩
            go_wp2
            go_roundw
            case rel =>
              obtain e := (HSTEP.out _ rfl).1 HP.out
              exact ⟨j + 1, by go_num, by omega, by rw [e]; exact hown.below hb2, by rw [e], btrans hb hb2⟩
            case measure => simp [intOf]; omega
          · have HP := Lib.hid hp
            rw [decide_eq_false hp] at bz
            clear hp
            have pw := bitsN_snoc HIN.out p0 p6
            have PW := Lib.hid pw
            clear pw
            go_wp2
            refine wp_region_bw (by kernel_rfl) (by kernel_rfl) ?_
            repeat go_big_quiet_step (fail)
            refine wpQuiet_nil ?_
            rintro w2 ⟨⟨w2x, hb2⟩, rfl⟩
            have hown2 := hown.below hb2
            have hb3 := btrans hb hb2
            have hz3 : w.heap.size + 1 ≤ w2.heap.size := by have := hb3.size; have := HZ1.out; omega
            clear Q0 QX QT
            go_wp2_with (at_builtin; refine wpList_push_int _ rfl (.tmp 50) (.tmp 52) rfl (w.heap.size + 1) _ _ rfl (hown2.below (kbelow _ _)) ⟨w2.heap.size, 0, none⟩ p rfl (by simp [go_sem]) (by omega) (by simp; omega) ?_; intro v' w3 hown' hgrow hv')
            go_roundw
            case rel =>
              obtain e := (HSTEP.out _ rfl).2 HP.out
              refine ⟨j + 1, by go_num, by omega, by rw [e]; exact hown', ?_, ?_⟩
              · rw [e, ← PW.out]
              · exact hb3.trans (Below.grown (w := w2.alloc (.cells #[.int .i64 p] 2)) (Below.alloc (Below.refl _ _) (by have := HZ1.out; omega) _) hgrow (by have := HZ1.out; simp; omega) (fun i hi => by have := (hown2.lt i hi).1; have := HZ1.out; omega))
            case measure => simp [intOf]; omega
        · obtain rfl : j = ms.length := by omega
          have q0' := q0
          go_wp2
          go_roundw
          case rel =>
            refine ⟨k + 1, by go_num, ?_, by rw [HGQ.out, ← HQ.out]; exact hown, by rw [HGQ.out, ← HQ.out], hb⟩
            have h1 := (List.getElem?_eq_some_iff.1 hpre).1
            rw [HGQ.out]
            have h2 := congrArg List.length HQ.out
            rw [List.length_map] at h2
            omega
          case measure => simp [intOf]; omega
    · have hk' : ¬ ((k : Int) < (gb (stS ms) ms.length f k).length) := by omega
      clear hk hlt
      go_wp2
      go_returns
      refine ⟨_, rfl, ?_, ?_⟩
      · have hn : (gb (stS ms) ms.length f k)[k]? = none := List.getElem?_eq_none (by omega)
        unfold reachS
        rw [gF_of_end HU.out hn]
        exact hown.mono (by omega)
      · exact btrans k0 hb
theorem SeeMaps.inS {w : World} {A : Option Addr} {ms : List Mp} (h : SeeMaps w A ms) (hn : ms ≠ []) : InS (fun k => k < w.heap.size) A := fun a ha => by
  obtain ⟨b, o, e, g⟩ := h hn
  rw [ha] at e
  obtain rfl := Option.some.inj e
  obtain ⟨m, hm⟩ := el (xs := ms) (k := 0) (by cases ms with | nil => exact absurd rfl hn | cons => simp)
  exact World.block_lt_of_cell? w ⟨b, o + 0 * 6, none⟩ (g 0 m hm).h0
theorem SeeInts.inS {w : World} {A : Option Addr} {xs : List Int} (h : SeeInts w A xs) (hn : xs ≠ []) : InS (fun k => k < w.heap.size) A := fun a ha => by
  obtain ⟨b, o, e, g⟩ := h hn
  rw [ha] at e
  obtain rfl := Option.some.inj e
  obtain ⟨m, hm⟩ := el (xs := xs) (k := 0) (by cases xs with | nil => exact absurd rfl hn | cons => simp)
  exact World.block_lt_of_cell? w ⟨b, o + 0, none⟩ (g 0 m hm)
theorem RightL.ne {ms : List Mp} {n : Int} (h : RightL ms n) : ms ≠ [] := fun e => by have := h.pos; rw [e] at this; simp at this
open Classical in
noncomputable def RPointsReached (ms : List Mp) (f : Int) (ls : List Int) : List Int × Int := if accB ms f ls = true then (reachL ms f, 0) else ([], 1)
theorem RPointsReached_len (ms : List Mp) (f : Int) (ls : List Int) : (RPointsReached ms f ls).1.length ≤ 1000 := by
  unfold RPointsReached
  split
  · rename_i h
    have hr := RightA.of h
    dsimp only
    unfold reachL
    rw [List.length_map]
    exact gF_length (univ1 hr.list hr.f0 hr.f1)
  · simp
set_option maxRecDepth 100000 in
set_option maxHeartbeats 2000000 in
theorem implPointsReached_l {A A' : Option Addr} {c c' : Nat} {ms : List Mp} {f : Int} {ls : List Int} {w : World} (h : SeeMaps w A ms) (hn : ms.length ≤ 2097152) (hA : NilOk A c) (h' : SeeInts w A' ls) (hn' : ls.length ≤ 2097152) (_ : NilOk A' c') :
    Calls Try.prog 32 #[.agg #[.slice A ms.length c, .int .i64 f, .slice A' ls.length c']] w fun e w' => ∃ v, e = .returned (.tuple #[v, .int .i64 (RPointsReached ms f ls).2]) ∧ OwnInts w' w.heap.size v (RPointsReached ms f ls).1 ∧ Below w.heap.size w w' := by
  have k0 : Below w.heap.size w (w.alloc (Obj.cells #[Value.slice A ms.length c, .int .i64 f, Value.slice A' ls.length c'] 30)) := by go_grown
  obtain ⟨b0, b1, b2⟩ := AccBox w A A' ms.length c ls.length c' f 30
  cases hacc : accB ms f ls
  · have e1 : RPointsReached ms f ls = ([], 1) := by simp [RPointsReached, hacc]
    rw [e1]
    clear e1
    go_enter Try.func32, Try.ntmps32
    go_wp2_with (go_at_call 18; go_must (refine (valB (IsAcceptor_c _ _ _ _ ms f ls _ (h.below k0) hn hA (h'.below k0) hn') hacc).mono ?_); rintro e w2 ⟨rfl, hb2⟩)
    go_returns
    exact ⟨_, rfl, OwnInts.nil _ _, btrans k0 hb2⟩
  · have HR := RightA.of hacc
    have e1 : RPointsReached ms f ls = (reachL ms f, 0) := by simp [RPointsReached, hacc]
    rw [e1]
    clear e1
    have HRH := Lib.hid HR
    clear HR
    go_enter Try.func32, Try.ntmps32
    go_wp2_with (go_at_call 18; go_must (refine (valB (IsAcceptor_c _ _ _ _ ms f ls _ (h.below k0) hn hA (h'.below k0) hn') hacc).mono ?_); rintro e w2 ⟨rfl, hb2⟩; have q0 := b0 ⟨w2, hb2⟩; have q1 := b1 ⟨w2, hb2⟩; have hs := (h.below k0).below hb2)
    refine (reached_c _ hs (hs.inS HRH.out.list.ne) HRH.out.list HRH.out.f0 HRH.out.f1).mono ?_
    rintro e w3 ⟨v, rfl, hown, hb3⟩
    obtain ⟨A1, c1, rfl, _⟩ := hown.see
    have hz := (btrans k0 hb2).size
    go_wp2
    go_returns
    exact ⟨_, rfl, hown.mono hz, btrans (btrans k0 hb2) hb3⟩
set_option maxRecDepth 100000 in
set_option maxHeartbeats 2000000 in
theorem specPointsReached_l {A A' : Option Addr} {c c' : Nat} {ms : List Mp} {f : Int} {ls : List Int} {w : World} (h : SeeMaps w A ms) (hn : ms.length ≤ 2097152) (_ : NilOk A c) (h' : SeeInts w A' ls) (hn' : ls.length ≤ 2097152) (_ : NilOk A' c') :
    Calls Try.prog 31 #[.agg #[.slice A ms.length c, .int .i64 f, .slice A' ls.length c']] w fun e w' => ∃ v, e = .returned (.tuple #[v, .int .i64 (RPointsReached ms f ls).2]) ∧ OwnInts w' w.heap.size v (RPointsReached ms f ls).1 ∧ Below w.heap.size w w' := by
  have k0 : Below w.heap.size w (w.alloc (Obj.cells #[Value.slice A ms.length c, .int .i64 f, Value.slice A' ls.length c'] 30)) := by go_grown
  obtain ⟨b0, b1, b2⟩ := AccBox w A A' ms.length c ls.length c' f 30
  cases hacc : accB ms f ls
  · have e1 : RPointsReached ms f ls = ([], 1) := by simp [RPointsReached, hacc]
    rw [e1]
    clear e1
    go_enter Try.func31, Try.ntmps31
    go_wp2_with (go_at_call 58; go_must (refine (valB (l07Is_c _ _ _ _ ms f ls _ (h.below k0) hn (h'.below k0) hn') hacc).mono ?_); rintro e w2 ⟨rfl, hb2⟩)
    go_returns
    exact ⟨_, rfl, OwnInts.nil _ _, btrans k0 hb2⟩
  · have HR := RightA.of hacc
    have e1 : RPointsReached ms f ls = (reachS ms f, 0) := by simp [RPointsReached, hacc, reach_eq HR.list HR.f0 HR.f1]
    rw [e1]
    clear e1
    have HRH := Lib.hid HR
    clear HR
    go_enter Try.func31, Try.ntmps31
    go_wp2_with (go_at_call 58; go_must (refine (valB (l07Is_c _ _ _ _ ms f ls _ (h.below k0) hn (h'.below k0) hn') hacc).mono ?_); rintro e w2 ⟨rfl, hb2⟩; have q0 := b0 ⟨w2, hb2⟩; have q1 := b1 ⟨w2, hb2⟩; have q2 := b2 ⟨w2, hb2⟩; have hs := (h.below k0).below hb2)
    refine (l07Reached_c _ _ _ _ _ ms f _ _ hs HRH.out.list HRH.out.f0 HRH.out.f1).mono ?_
    rintro e w3 ⟨v, rfl, hown, hb3⟩
    obtain ⟨A1, c1, rfl, _⟩ := hown.see
    have hz := (btrans k0 hb2).size
    go_wp2
    go_returns
    exact ⟨_, rfl, hown.mono hz, btrans (btrans k0 hb2) hb3⟩
end Go.Proofs.Ytbodaefdaagelaa
