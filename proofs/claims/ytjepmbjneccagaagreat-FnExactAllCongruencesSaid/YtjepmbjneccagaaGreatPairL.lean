/- slices.CompactFunc by slices.Equal at rows of rows. No condition. -/
import Derived.Test.YtjepmbjneccagaaGreatOrdC
import Derived.Test.YtjepmbjneccagaaGreatMade
import Derived.Test.YtjepmbjneccagaaGreatRowsL
import Derived.Test.YtjepmbjneccagaaGreatNamed
import Derived.Test.YtjepmbjneccagaaGreatClosed
import Derived.Test.YtjepmbjneccagaaGreatPaired
import Derived.Shelf.SlSortCmp.NoneTotal
namespace Go.Proofs.YtjepmbjneccagaaGreat
set_option linter.unusedSimpArgs false
set_option linter.unusedVariables false
set_option linter.unusedSectionVars false
open Go.RowKit
theorem OwnSls.put {w : World} {base g n c : Nat} {xs : List Sl} (h : OwnSls w base (.slice (some ⟨g, 0, none⟩) n c) xs) (k : Nat) (s : Sl) : OwnSls (w.setCell ⟨g, k, none⟩ s.v) base (.slice (some ⟨g, 0, none⟩) n c) (xs.set k s) := by
  unfold OwnSls at h ⊢
  obtain rfl := own_slice_len h
  rw [List.length_set, List.map_set]
  exact (h.stored k _).1
theorem own_takeS {w : World} {base g n c k : Nat} {xs : List Sl} (h : OwnSls w base (.slice (some ⟨g, 0, none⟩) n c) xs) (hk : k ≤ n) : OwnSls w base (.slice (some ⟨g, 0, none⟩) k c) (xs.take k) := by
  obtain ⟨h1, h2⟩ := h
  rcases h2 with ⟨h2, _⟩ | ⟨g', cap, cur, h2, hb, hg, hc, hm, hs, ht⟩
  · cases h2
  · simp only [Value.slice.injEq, Option.some.injEq, Addr.mk.injEq, and_true] at h2
    obtain ⟨rfl, hnx, rfl⟩ := h2
    have e1 : (xs.take k).length = k := by rw [List.length_take]; omega
    refine ⟨by simp, .inr ⟨g, c, cur, by rw [e1], hb, hg, by omega, hm, hs, ?_⟩⟩
    rw [e1, Nat.mul_one, List.map_take, ← ht, Nat.mul_one, List.take_take, Nat.min_eq_left (by omega)]
theorem own_nilsS {base g n c : Nat} : ∀ (m o : Nat) (w : World) (xs : List Sl), OwnSls w base (.slice (some ⟨g, 0, none⟩) n c) xs → ∃ ys, OwnSls (w.setCells g o (List.replicate m (.slice none 0 0))) base (.slice (some ⟨g, 0, none⟩) n c) ys ∧ ys.length = xs.length ∧ ys.take o = xs.take o ∧ Keep (fun k => k ≠ g) w (w.setCells g o (List.replicate m (.slice none 0 0)))
  | 0, o, w, xs, h => ⟨xs, h, rfl, rfl, Keep.refl _ _⟩
  | m + 1, o, w, xs, h => by
    obtain ⟨ys, h1, h2, h3, h4⟩ := own_nilsS m (o + 1) _ _ (h.put o ⟨none, 0, []⟩)
    refine ⟨ys, h1, by rw [h2, List.length_set], ?_, (Keep.set (Keep.refl _ w) (a := ⟨g, o, none⟩) (by simp) _).trans h4⟩
    have := congrArg (List.take o) h3
    rw [List.take_take, List.take_take, Nat.min_eq_left (by omega)] at this
    rw [this, List.take_set_of_le (by omega)]
/-- whether an element is kept: the first, and what is not as the one before -/
def keptB (ws : List Sl) (i : Nat) : Bool := decide (i = 0) || !decide ((ws[i]?).map Sl.xs = (ws[i - 1]?).map Sl.xs)
def compTo (ws : List Sl) : Nat → List Sl
  | 0 => []
  | i + 1 => compTo ws i ++ (if keptB ws i = true then (ws[i]?).toList else [])
theorem compTo_le (ws : List Sl) : ∀ i, (compTo ws i).length ≤ i
  | 0 => Nat.le_refl _
  | i + 1 => by
    have := compTo_le ws i
    unfold compTo
    rw [List.length_append]
    split
    · cases ws[i]? <;> simp <;> omega
    · simp; omega
theorem compTo_kept {ws : List Sl} {i : Nat} {s : Sl} (h : ws[i]? = some s) (hk : keptB ws i = true) : compTo ws (i + 1) = compTo ws i ++ [s] := by
  show compTo ws i ++ (if keptB ws i = true then (ws[i]?).toList else []) = _
  rw [if_pos hk, h]; rfl
theorem compTo_skip {ws : List Sl} {i : Nat} (hk : keptB ws i = false) : compTo ws (i + 1) = compTo ws i := by
  show compTo ws i ++ (if keptB ws i = true then (ws[i]?).toList else []) = _
  rw [hk]; simp
theorem keptB_at {ws : List Sl} {i : Nat} {s t : Sl} (h : ws[i + 1]? = some s) (h' : ws[i]? = some t) : keptB ws (i + 1) = !decide (s.xs = t.xs) := by
  unfold keptB
  rw [h, Nat.add_sub_cancel, h']
  simp
theorem compTo_all {ws : List Sl} : ∀ k, k ≤ ws.length → (∀ j, j < k → keptB ws j = true) → compTo ws k = ws.take k
  | 0, _, _ => rfl
  | k + 1, hk, h => by
    rw [compTo_kept (List.getElem?_eq_getElem (by omega)) (h k (by omega)), compTo_all k (by omega) fun j hj => h j (by omega), List.take_add_one, List.getElem?_eq_getElem (by omega)]
    rfl
theorem compTo_sub {ws : List Sl} : ∀ k, (compTo ws k).Sublist (ws.take k)
  | 0 => List.Sublist.refl _
  | k + 1 => by
    rw [List.take_add_one]
    show (compTo ws k ++ (if keptB ws k = true then (ws[k]?).toList else [])).Sublist _
    refine List.Sublist.append (compTo_sub k) ?_
    split
    · exact List.Sublist.refl _
    · exact List.nil_sublist _
theorem compTo_mem {ws : List Sl} : ∀ k, k ≤ ws.length → ∀ i s, i < k → ws[i]? = some s → ∃ t ∈ compTo ws k, t.xs = s.xs
  | 0, _, i, s, hi, _ => by omega
  | k + 1, hk, i, s, hi, hs => by
    by_cases e : i = k
    · subst e
      cases hb : keptB ws i with
      | true => exact ⟨s, by rw [compTo_kept hs hb]; simp, rfl⟩
      | false =>
        cases i with
        | zero => simp [keptB] at hb
        | succ j =>
          obtain ⟨u, hu⟩ := el (xs := ws) (k := j) (by omega)
          obtain ⟨t, ht, e⟩ := compTo_mem (j + 1) (by omega) j u (by omega) hu
          rw [keptB_at hs hu] at hb
          exact ⟨t, by rw [compTo_skip (by rw [keptB_at hs hu]; exact hb)]; exact ht, by rw [e]; simpa using (Eq.symm (by simpa using hb : s.xs = u.xs))⟩
    · obtain ⟨t, ht, e2⟩ := compTo_mem k (by omega) i s (by omega) hs
      refine ⟨t, ?_, e2⟩
      show t ∈ compTo ws k ++ _
      exact List.mem_append_left _ ht
/-- what is left of a sorted row ascends strictly -/
theorem compTo_asc {N : Nat} {ws : List Sl} (hN : ∀ s ∈ ws, s.xs.length = N) (hs : ws.Pairwise fun s t => ¬ ltC t.xs s.xs) : ∀ k, k ≤ ws.length → ((compTo ws k).map Sl.xs).Pairwise ltC ∧ ∀ t ∈ compTo ws k, ∀ u, k ≤ ws.length → (0 < k → ws[k - 1]? = some u → ¬ ltC u.xs t.xs)
  | 0, _ => ⟨List.Pairwise.nil, fun t ht => by cases ht⟩
  | k + 1, hk => by
    obtain ⟨h1, h2⟩ := compTo_asc hN hs k (by omega)
    have T := ltC_tot N
    have hsub := compTo_sub (ws := ws) k
    have hm : ∀ t ∈ compTo ws k, t ∈ ws := fun t ht => List.mem_of_mem_take (hsub.mem ht)
    have hlast : ∀ t ∈ compTo ws (k + 1), ∀ u, ws[k]? = some u → ¬ ltC u.xs t.xs := fun t ht u hu => by
      have hmt : t ∈ ws.take (k + 1) := (compTo_sub (ws := ws) (k + 1)).mem ht
      obtain ⟨j, hj⟩ := List.getElem?_of_mem hmt
      rw [List.getElem?_take] at hj
      split at hj
      · rename_i hjk
        by_cases e : j = k
        · subst e
          rw [hu] at hj
          obtain rfl := Option.some.inj hj
          exact T.irr _ (hN u (List.mem_of_getElem? hu))
        · obtain ⟨lj, ej⟩ := List.getElem?_eq_some_iff.1 hj
          obtain ⟨lk, ek⟩ := List.getElem?_eq_some_iff.1 hu
          have := List.pairwise_iff_getElem.1 hs j k lj lk (by omega)
          rw [ej, ek] at this
          exact this
      · cases hj
    refine ⟨?_, fun t ht u _ _ hu => hlast t ht u hu⟩
    obtain ⟨s, hsk⟩ := el (xs := ws) (k := k) (by omega)
    cases hb : keptB ws k with
    | false => rw [compTo_skip hb]; exact h1
    | true =>
      rw [compTo_kept hsk hb, List.map_append, List.pairwise_append]
      refine ⟨h1, by simp, fun a ha b hb' => ?_⟩
      obtain ⟨t, ht, rfl⟩ := List.mem_map.1 ha
      rw [List.map_singleton, List.mem_singleton] at hb'
      subst hb'
      have hms := List.mem_of_getElem? hsk
      have ht' : t ∈ compTo ws (k + 1) := by rw [compTo_kept hsk hb]; exact List.mem_append_left _ ht
      have h3 := hlast t ht' s hsk
      cases k with
      | zero => cases ht
      | succ j =>
        obtain ⟨u, hu⟩ := el (xs := ws) (k := j) (by omega)
        have h4 := h2 t ht u (by omega) (by omega) (by rw [Nat.add_sub_cancel]; exact hu)
        rw [keptB_at hsk hu] at hb
        have hne : s.xs ≠ u.xs := by simpa using hb
        have hus := List.pairwise_iff_getElem.1 hs j (j + 1) (by omega) (by omega) (by omega)
        rw [(List.getElem?_eq_some_iff.1 hu).2, (List.getElem?_eq_some_iff.1 hsk).2] at hus
        have nt := hN t (hm t ht)
        have nu := hN u (List.mem_of_getElem? hu)
        have ns := hN s hms
        -- t ≤ u < s
        have us : ltC u.xs s.xs := by
          rcases T.tot _ _ nu ns (fun e => hne e.symm) with h | h
          · exact h
          · exact absurd h hus
        by_cases e : t.xs = u.xs
        · rw [e]; exact us
        · rcases T.tot _ _ nt nu e with h | h
          · exact T.tr _ _ _ nt nu ns h us
          · exact absurd h h4
/-- the row while the second loop goes over it -/
structure CInv (ws : List Sl) (i : Nat) (rs : List Sl) : Prop where
  len : rs.length = ws.length
  kl : (compTo ws i).length < i
  low : rs.take (compTo ws i).length = compTo ws i
  high : ∀ k, i - 1 ≤ k → rs[k]? = ws[k]?
theorem CInv.skip {ws rs : List Sl} {i : Nat} (h : CInv ws i rs) (hk : keptB ws i = false) : CInv ws (i + 1) rs := by
  have e := compTo_skip hk
  exact ⟨h.len, by rw [e]; have := h.kl; omega, by rw [e]; exact h.low, fun k hk => h.high k (by omega)⟩
theorem CInv.keep {ws rs : List Sl} {i : Nat} {s : Sl} (h : CInv ws i rs) (hs : ws[i]? = some s) (hk : keptB ws i = true) : CInv ws (i + 1) (rs.set (compTo ws i).length s) := by
  have e := compTo_kept hs hk
  have hl := (List.getElem?_eq_some_iff.1 hs).1
  have hkl := h.kl
  have hil : (compTo ws i).length < rs.length := by rw [h.len]; omega
  refine ⟨by rw [List.length_set]; exact h.len, by rw [e, List.length_append]; simp; omega, ?_, fun k hk => ?_⟩
  · rw [e, List.length_append, List.length_singleton, List.take_add_one, List.getElem?_set_self hil, List.take_set_of_le (by omega), h.low]; rfl
  · rw [List.getElem?_set_ne (by omega)]; exact h.high k (by omega)
set_option maxHeartbeats 8000000 in
set_option maxRecDepth 100000 in
theorem CompFC_c {N : Nat} (w : World) (base g c : Nat) (ws : List Sl) (h : OwnSls w base (.slice (some ⟨g, 0, none⟩) ws.length c) ws) (he : ElsOk w base ws) (hn : ws.length ≤ 2097152) (hC : ∀ s ∈ ws, s.xs.length = N) (hN : N ≤ 300) :
    Calls Tryz.prog 90 #[.slice (some ⟨g, 0, none⟩) ws.length c, .func (.func 49) #[] #[]] w fun e w' => e = .returned (.slice (some ⟨g, 0, none⟩) (compTo ws ws.length).length c) ∧ OwnSls w' base (.slice (some ⟨g, 0, none⟩) (compTo ws ws.length).length c) (compTo ws ws.length) ∧ Keep (fun k => k ≠ g) w w' := by
  have hcap : ws.length ≤ c := by
    rcases h.2 with ⟨h2, _⟩ | ⟨g', cap, cur, h2, _, _, h3, _⟩
    · cases h2
    · simp only [Value.slice.injEq] at h2
      omega
  have hel : ∀ s ∈ ws, ∀ k, s.v.ownBlock = some k → k ≠ g := fun s hs k hk e => own_ne h (he s hs) (by decide) g rfl (e ▸ hk)
  have heq : ∀ (W : World), Keep (fun k => k ≠ g) w W → ∀ (i k : Nat) (s t : Sl), ws[i]? = some s → ws[k]? = some t → Calls Tryz.prog 49 #[s.v, t.v] W fun e w' => e = .returned (.bool (decide (s.xs = t.xs))) ∧ Below W.heap.size W w' := fun W hW i k s t hs ht => by
    have m1 := List.mem_of_getElem? hs
    have m2 := List.mem_of_getElem? ht
    exact EqualI_c s.A t.A s.c t.c s.xs t.xs W ((he s m1).keep (hel s m1) hW).see' ((he t m2).keep (hel t m2) hW).see' (by rw [hC s m1]; omega)
  have HEQ := Lib.hid heq
  clear heq
  obtain ⟨R, hR⟩ : ∃ R, R = compTo ws ws.length := ⟨_, rfl⟩
  rw [← hR]
  have HR := Lib.hid hR
  have HO := Lib.hid h
  have hg := h.lt g rfl
  clear hR h he hC hel
  by_cases hl2 : ws.length < 2
  · have HE := Lib.hid (show R = ws by
      rw [HR.out, compTo_all ws.length (Nat.le_refl _) (fun j hj => by
        have : j = 0 := by omega
        subst this; rfl), List.take_length])
    have l1 : (ws.length : Int) < 2 := by omega
    go_enter Tryz.func90, Tryz.ntmps90
    go_wp2
    go_returns
    rw [HE.out]
    exact ⟨rfl, HO.out, Keep.refl _ _⟩
  · have l1 : ¬ (ws.length : Int) < 2 := by omega
    go_enter Tryz.func90, Tryz.ntmps90
    go_wp2
    go_loopw [5] (fun kv wr => ∃ k : Nat, 1 ≤ k ∧ k ≤ ws.length ∧ kv = .int .i64 k ∧ Hid (∀ j, j < k → keptB ws j = true) ∧ Keep (fun _ => True) w wr) (fun kv _ => ws.length - (intOf kv).toNat)
    case atStart => exact ⟨1, by omega, by omega, rfl, Lib.hid (fun j hj => by (have : j = 0 := by omega); subst this; rfl), Keep.refl _ _⟩
    case round =>
      obtain ⟨k, hk1, hk, rfl, hK, hkp⟩ := hrel
      have hkg : Keep (fun k => k ≠ g) w wr := ⟨hkp.os, hkp.tape, hkp.output, hkp.size, fun i hi _ => hkp.block i hi trivial⟩
      have own := HO.out.keep (fun _ _ => trivial) hkp
      have k0 : (0 : Int) ≤ k := by omega
      by_cases hlt : k < ws.length
      · have k2 : (k : Int) < ws.length := by omega
        obtain ⟨s, hs⟩ := el hlt
        obtain ⟨t, ht⟩ := el (xs := ws) (k := k - 1) (by omega)
        have qs := own.cell hs
        have qt := own.cell ht
        have heq := HEQ.out wr.drew (⟨hkg.os, hkg.tape, hkg.output, hkg.size, hkg.block⟩) k (k - 1) s t hs ht
        have hkb : keptB ws k = !decide (s.xs = t.xs) := by
          have := keptB_at (ws := ws) (i := k - 1) (s := s) (t := t) (by rw [Nat.sub_add_cancel hk1]; exact hs) ht
          rwa [Nat.sub_add_cancel hk1] at this
        unfold Sl.v at heq
        have wr1 : IntKind.i64.wrap ((k : Int) - 1) = ((k - 1 : Nat) : Int) := by rw [IntKind.wrap_i64]; omega
        have n0 : (0 : Int) ≤ ((k - 1 : Nat) : Int) := by omega
        have n1 : ((k - 1 : Nat) : Int) < ws.length := by omega
        have HS := Lib.hid hs
        have HKB := Lib.hid hkb
        have HQ := Lib.hid heq
        clear hs ht hkb heq
        cases e : decide (s.xs = t.xs)
        · have HN := Lib.hid (show ∀ j, j < k + 1 → keptB ws j = true from fun j hj => by
            by_cases e' : j = k
            · subst e'; rw [HKB.out, e]; rfl
            · exact hK.out j (by omega))
          rw [e] at HQ
          clear e
          go_wp2
          refine wp_region_headS 10 (fun w' => w'.cell? ⟨g, k, none⟩ = some (.slice s.A s.xs.length s.c) ∧ w'.cell? ⟨g, k - 1, none⟩ = some (.slice t.A t.xs.length t.c)) (by kernel_rfl) (by kernel_rfl) ⟨qs, qt⟩ (fun hHeld => ?_)
          simp only [List.drop]
          refine headH_takeS (i := 0) (v := ?_) 18 rfl (by kernel_rfl) (by kernel_rfl) (fun _ _ _ h => h) (Or.inl ⟨by rfl, ?_⟩) hHeld ?_
          rotate_left
          · intro w hSw
            (try dsimp only at hSw)
            go_simp
            try with_reducible rfl
          try simp only [Act.put, List.setIfInBounds_toArray, List.set_cons_zero, List.set_cons_succ]
          refine headH_takeS (i := 1) (v := ?_) 19 rfl (by kernel_rfl) (by kernel_rfl) (fun _ _ _ h => h) (Or.inl ⟨by rfl, ?_⟩) hHeld ?_
          rotate_left
          · intro w hSw
            (try dsimp only at hSw)
            go_simp
            try with_reducible rfl
          try simp only [Act.put, List.setIfInBounds_toArray, List.set_cons_zero, List.set_cons_succ]
          refine headH_takeS (i := 2) (v := ?_) 20 rfl (by kernel_rfl) (by kernel_rfl) (fun _ _ _ h => h) (Or.inl ⟨by rfl, ?_⟩) hHeld ?_
          rotate_left
          · intro w hSw
            (try dsimp only at hSw)
            go_simp
            try with_reducible rfl
          try simp only [Act.put, List.setIfInBounds_toArray, List.set_cons_zero, List.set_cons_succ]
          refine headH_takeS (i := 3) (v := ?_) 21 rfl (by kernel_rfl) (by kernel_rfl) (fun _ _ _ h => h) (Or.inl ⟨by rfl, ?_⟩) hHeld ?_
          rotate_left
          · intro w hSw
            (try dsimp only at hSw)
            go_simp
            try with_reducible rfl
          try simp only [Act.put, List.setIfInBounds_toArray, List.set_cons_zero, List.set_cons_succ]
          refine headH_takeS (i := 4) (v := ?_) 22 rfl (by kernel_rfl) (by kernel_rfl) (fun _ _ _ h => h) (Or.inl ⟨by rfl, ?_⟩) hHeld ?_
          rotate_left
          · intro w hSw
            (try dsimp only at hSw)
            go_simp
            try with_reducible rfl
          try simp only [Act.put, List.setIfInBounds_toArray, List.set_cons_zero, List.set_cons_succ]
          refine headH_takeS (i := 5) (v := ?_) 23 rfl (by kernel_rfl) (by kernel_rfl) (fun _ _ _ h => h) (Or.inl ⟨by rfl, ?_⟩) hHeld ?_
          rotate_left
          · intro w hSw
            (try dsimp only at hSw)
            go_simp
            try with_reducible rfl
          try simp only [Act.put, List.setIfInBounds_toArray, List.set_cons_zero, List.set_cons_succ]
          refine headH_takeS (i := 6) (v := ?_) 24 rfl (by kernel_rfl) (by kernel_rfl) (fun _ _ _ h => h) (Or.inl ⟨by rfl, ?_⟩) hHeld ?_
          rotate_left
          · intro w hSw
            (try dsimp only at hSw)
            go_simp
            try with_reducible rfl
          try simp only [Act.put, List.setIfInBounds_toArray, List.set_cons_zero, List.set_cons_succ]
          refine headH_takeS (i := 7) (v := ?_) 25 rfl (by kernel_rfl) (by kernel_rfl) (fun _ _ _ h => h) (Or.inl ⟨by rfl, ?_⟩) hHeld ?_
          rotate_left
          · intro w hSw
            (try dsimp only at hSw)
            go_simp
            try with_reducible rfl
          try simp only [Act.put, List.setIfInBounds_toArray, List.set_cons_zero, List.set_cons_succ]
          refine headH_takeS (i := 8) (v := ?_) 26 rfl (by kernel_rfl) (by kernel_rfl) (fun _ _ _ h => h) (Or.inl ⟨by rfl, ?_⟩) hHeld ?_
          rotate_left
          · intro w hSw
            (try dsimp only at hSw)
            go_simp
            try with_reducible rfl
          try simp only [Act.put, List.setIfInBounds_toArray, List.set_cons_zero, List.set_cons_succ]
          refine headH_takeS (i := 9) (v := ?_) 27 rfl (by kernel_rfl) (by kernel_rfl) (fun _ _ _ h => h) (Or.inl ⟨by rfl, ?_⟩) hHeld ?_
          rotate_left
          · intro w hSw
            (try dsimp only at hSw)
            go_simp
            try with_reducible rfl
          try simp only [Act.put, List.setIfInBounds_toArray, List.set_cons_zero, List.set_cons_succ]
          refine headH_tail (by kernel_rfl) ?_
          clear hHeld
          go_wp2_with (first | (go_at_call 49; refine HQ.out.mono ?_; rintro e w5 ⟨rfl, hb5⟩) | (go_at_fn 49; refine HQ.out.mono ?_; rintro e w5 ⟨rfl, hb5⟩))
          go_roundw
          case rel => exact ⟨k + 1, by omega, by omega, by go_num, HN, hkp.trans ((kb (Below.drew (Below.refl _ wr))).trans (kb hb5))⟩
          case measure => simp [intOf]; omega
        · rw [e] at HQ
          have hskip : keptB ws k = false := by rw [HKB.out, e]; rfl
          have e1 : compTo ws (k + 1) = ws.take k := (compTo_skip hskip).trans (compTo_all k (by omega) hK.out)
          have I0 := Lib.hid (show CInv ws (k + 1) ws from ⟨rfl, by rw [e1, List.length_take]; omega, by rw [e1, List.length_take, Nat.min_eq_left (by omega)], fun _ _ => rfl⟩)
          have l0 : (compTo ws (k + 1)).length = k := by rw [e1, List.length_take]; omega
          have L0 := Lib.hid l0
          have kc : (k : Int) ≤ c := by omega
          clear e hskip e1 l0 hK HKB
          go_wp2
          refine wp_region_headS 10 (fun w' => w'.cell? ⟨g, k, none⟩ = some (.slice s.A s.xs.length s.c) ∧ w'.cell? ⟨g, k - 1, none⟩ = some (.slice t.A t.xs.length t.c)) (by kernel_rfl) (by kernel_rfl) ⟨qs, qt⟩ (fun hHeld => ?_)
          simp only [List.drop]
          refine headH_takeS (i := 0) (v := ?_) 18 rfl (by kernel_rfl) (by kernel_rfl) (fun _ _ _ h => h) (Or.inl ⟨by rfl, ?_⟩) hHeld ?_
          rotate_left
          · intro w hSw
            (try dsimp only at hSw)
            go_simp
            try with_reducible rfl
          try simp only [Act.put, List.setIfInBounds_toArray, List.set_cons_zero, List.set_cons_succ]
          refine headH_takeS (i := 1) (v := ?_) 19 rfl (by kernel_rfl) (by kernel_rfl) (fun _ _ _ h => h) (Or.inl ⟨by rfl, ?_⟩) hHeld ?_
          rotate_left
          · intro w hSw
            (try dsimp only at hSw)
            go_simp
            try with_reducible rfl
          try simp only [Act.put, List.setIfInBounds_toArray, List.set_cons_zero, List.set_cons_succ]
          refine headH_takeS (i := 2) (v := ?_) 20 rfl (by kernel_rfl) (by kernel_rfl) (fun _ _ _ h => h) (Or.inl ⟨by rfl, ?_⟩) hHeld ?_
          rotate_left
          · intro w hSw
            (try dsimp only at hSw)
            go_simp
            try with_reducible rfl
          try simp only [Act.put, List.setIfInBounds_toArray, List.set_cons_zero, List.set_cons_succ]
          refine headH_takeS (i := 3) (v := ?_) 21 rfl (by kernel_rfl) (by kernel_rfl) (fun _ _ _ h => h) (Or.inl ⟨by rfl, ?_⟩) hHeld ?_
          rotate_left
          · intro w hSw
            (try dsimp only at hSw)
            go_simp
            try with_reducible rfl
          try simp only [Act.put, List.setIfInBounds_toArray, List.set_cons_zero, List.set_cons_succ]
          refine headH_takeS (i := 4) (v := ?_) 22 rfl (by kernel_rfl) (by kernel_rfl) (fun _ _ _ h => h) (Or.inl ⟨by rfl, ?_⟩) hHeld ?_
          rotate_left
          · intro w hSw
            (try dsimp only at hSw)
            go_simp
            try with_reducible rfl
          try simp only [Act.put, List.setIfInBounds_toArray, List.set_cons_zero, List.set_cons_succ]
          refine headH_takeS (i := 5) (v := ?_) 23 rfl (by kernel_rfl) (by kernel_rfl) (fun _ _ _ h => h) (Or.inl ⟨by rfl, ?_⟩) hHeld ?_
          rotate_left
          · intro w hSw
            (try dsimp only at hSw)
            go_simp
            try with_reducible rfl
          try simp only [Act.put, List.setIfInBounds_toArray, List.set_cons_zero, List.set_cons_succ]
          refine headH_takeS (i := 6) (v := ?_) 24 rfl (by kernel_rfl) (by kernel_rfl) (fun _ _ _ h => h) (Or.inl ⟨by rfl, ?_⟩) hHeld ?_
          rotate_left
          · intro w hSw
            (try dsimp only at hSw)
            go_simp
            try with_reducible rfl
          try simp only [Act.put, List.setIfInBounds_toArray, List.set_cons_zero, List.set_cons_succ]
          refine headH_takeS (i := 7) (v := ?_) 25 rfl (by kernel_rfl) (by kernel_rfl) (fun _ _ _ h => h) (Or.inl ⟨by rfl, ?_⟩) hHeld ?_
          rotate_left
          · intro w hSw
            (try dsimp only at hSw)
            go_simp
            try with_reducible rfl
          try simp only [Act.put, List.setIfInBounds_toArray, List.set_cons_zero, List.set_cons_succ]
          refine headH_takeS (i := 8) (v := ?_) 26 rfl (by kernel_rfl) (by kernel_rfl) (fun _ _ _ h => h) (Or.inl ⟨by rfl, ?_⟩) hHeld ?_
          rotate_left
          · intro w hSw
            (try dsimp only at hSw)
            go_simp
            try with_reducible rfl
          try simp only [Act.put, List.setIfInBounds_toArray, List.set_cons_zero, List.set_cons_succ]
          refine headH_takeS (i := 9) (v := ?_) 27 rfl (by kernel_rfl) (by kernel_rfl) (fun _ _ _ h => h) (Or.inl ⟨by rfl, ?_⟩) hHeld ?_
          rotate_left
          · intro w hSw
            (try dsimp only at hSw)
            go_simp
            try with_reducible rfl
          try simp only [Act.put, List.setIfInBounds_toArray, List.set_cons_zero, List.set_cons_succ]
          refine headH_tail (by kernel_rfl) ?_
          clear hHeld
          go_wp2_with (first | (go_at_call 49; refine HQ.out.mono ?_; rintro e w5 ⟨rfl, hb5⟩) | (go_at_fn 49; refine HQ.out.mono ?_; rintro e w5 ⟨rfl, hb5⟩))
          have hkd : Keep (fun _ => True) w w5 := hkp.trans ((kb (Below.drew (Below.refl _ wr))).trans (kb hb5))
          have own5 := HO.out.keep (fun _ _ => trivial) hkd
          have hk5 : Keep (fun k => k ≠ g) w w5 := ⟨hkd.os, hkd.tape, hkd.output, hkd.size, fun i hi _ => hkd.block i hi trivial⟩
          go_loopw [7, 5] (fun jv kv wr2 => ∃ (j : Nat) (rs : List Sl), 1 ≤ j ∧ k + j ≤ ws.length ∧ jv = .int .i64 j ∧ kv = .int .i64 ((compTo ws (k + j)).length : Nat) ∧ OwnSls wr2 base (.slice (some ⟨g, 0, none⟩) ws.length c) rs ∧ Hid (CInv ws (k + j) rs) ∧ Keep (fun k => k ≠ g) w wr2) (fun jv _ _ => ws.length - k - (intOf jv).toNat)
          case atStart => exact ⟨1, ws, Nat.le_refl _, hlt, rfl, by rw [L0.out], own5, I0, hk5⟩
          case round =>
            clear own5 hk5 hkd hb5 qs qt own
            obtain ⟨j, rs, hj1, hj, rfl, rfl, own, hI, hK⟩ := hrel
            have hlen := hI.out.len
            have hkl := hI.out.kl
            have j0 : (0 : Int) ≤ j := by omega
            obtain ⟨kk, hkk⟩ : ∃ kk, kk = (compTo ws (k + j)).length := ⟨_, rfl⟩
            rw [← hkk] at hkl ⊢
            have kk0 : (0 : Int) ≤ kk := by omega
            by_cases hjl : k + j < ws.length
            · have j1 : (j : Int) < ((ws.length : Int) - k) := by omega
              have j1' : (j : Int) < ((ws.length - k : Nat) : Int) := by omega
              obtain ⟨s2, hs2⟩ := el hjl
              obtain ⟨t2, ht2⟩ := el (xs := ws) (k := k + (j - 1)) (by omega)
              have qs := own.cell (show rs[k + j]? = some s2 by rw [hI.out.high (k + j) (by omega)]; exact hs2)
              have qt := own.cell (show rs[k + (j - 1)]? = some t2 by rw [hI.out.high (k + (j - 1)) (by omega)]; exact ht2)
              have heq := HEQ.out wr.drew ⟨hK.os, hK.tape, hK.output, hK.size, hK.block⟩ (k + j) (k + (j - 1)) s2 t2 hs2 ht2
              have hkb : keptB ws (k + j) = !decide (s2.xs = t2.xs) := by
                have e1 : k + j = k + (j - 1) + 1 := by omega
                have := keptB_at (ws := ws) (i := k + (j - 1)) (s := s2) (t := t2) (by rw [← e1]; exact hs2) ht2
                rwa [← e1] at this
              unfold Sl.v at heq
              have wr3 : IntKind.i64.wrap ((j : Int) - 1) = ((j - 1 : Nat) : Int) := by rw [IntKind.wrap_i64]; omega
              have n0 : (0 : Int) ≤ ((j - 1 : Nat) : Int) := by omega
              have n1 : ((j - 1 : Nat) : Int) < ((ws.length - k : Nat) : Int) := by omega
              have n2 : ((j - 1 : Nat) : Int) < (ws.length : Int) - k := by omega
              have kkl : kk < ws.length := by omega
              have kk1 : (kk : Int) < ws.length := by omega
              obtain ⟨z, hz⟩ := el (xs := rs) (k := kk) (by omega)
              have qz := own.cell hz
              have fz := own_free own kk
              have HQ2 := Lib.hid heq
              have HI := Lib.hid hI.out
              have HS2 := Lib.hid hs2
              have HKB := Lib.hid hkb
              have HKK := Lib.hid hkk
              clear hs2 ht2 heq hkb hkk hz HQ hI
              cases e : decide (s2.xs = t2.xs)
              · have hkept : keptB ws (k + j) = true := by rw [HKB.out, e]; rfl
                have HN := Lib.hid (HI.out.keep HS2.out hkept)
                have HKN := Lib.hid (show (compTo ws (k + (j + 1))).length = kk + 1 by
                  rw [HKK.out]
                  show (compTo ws (k + j + 1)).length = _
                  rw [compTo_kept HS2.out hkept, List.length_append]; rfl)
                rw [e] at HQ2
                rw [← HKK.out] at HN
                clear e hkept
                go_wp2
                refine wp_region_headS 10 (fun w' => w'.cell? ⟨g, k + j, none⟩ = some (.slice s2.A s2.xs.length s2.c) ∧ w'.cell? ⟨g, k + (j - 1), none⟩ = some (.slice t2.A t2.xs.length t2.c)) (by kernel_rfl) (by kernel_rfl) ⟨qs, qt⟩ (fun hHeld => ?_)
                simp only [List.drop]
                refine headH_takeS (i := 0) (v := ?_) 38 rfl (by kernel_rfl) (by kernel_rfl) (fun _ _ _ h => h) (Or.inl ⟨by rfl, ?_⟩) hHeld ?_
                rotate_left
                · intro w hSw
                  (try dsimp only at hSw)
                  go_simp
                  try with_reducible rfl
                try simp only [Act.put, List.setIfInBounds_toArray, List.set_cons_zero, List.set_cons_succ]
                refine headH_takeS (i := 1) (v := ?_) 39 rfl (by kernel_rfl) (by kernel_rfl) (fun _ _ _ h => h) (Or.inl ⟨by rfl, ?_⟩) hHeld ?_
                rotate_left
                · intro w hSw
                  (try dsimp only at hSw)
                  go_simp
                  try with_reducible rfl
                try simp only [Act.put, List.setIfInBounds_toArray, List.set_cons_zero, List.set_cons_succ]
                refine headH_takeS (i := 2) (v := ?_) 40 rfl (by kernel_rfl) (by kernel_rfl) (fun _ _ _ h => h) (Or.inl ⟨by rfl, ?_⟩) hHeld ?_
                rotate_left
                · intro w hSw
                  (try dsimp only at hSw)
                  go_simp
                  try with_reducible rfl
                try simp only [Act.put, List.setIfInBounds_toArray, List.set_cons_zero, List.set_cons_succ]
                refine headH_takeS (i := 3) (v := ?_) 41 rfl (by kernel_rfl) (by kernel_rfl) (fun _ _ _ h => h) (Or.inl ⟨by rfl, ?_⟩) hHeld ?_
                rotate_left
                · intro w hSw
                  (try dsimp only at hSw)
                  go_simp
                  try with_reducible rfl
                try simp only [Act.put, List.setIfInBounds_toArray, List.set_cons_zero, List.set_cons_succ]
                refine headH_takeS (i := 4) (v := ?_) 42 rfl (by kernel_rfl) (by kernel_rfl) (fun _ _ _ h => h) (Or.inl ⟨by rfl, ?_⟩) hHeld ?_
                rotate_left
                · intro w hSw
                  (try dsimp only at hSw)
                  go_simp
                  try with_reducible rfl
                try simp only [Act.put, List.setIfInBounds_toArray, List.set_cons_zero, List.set_cons_succ]
                refine headH_takeS (i := 5) (v := ?_) 43 rfl (by kernel_rfl) (by kernel_rfl) (fun _ _ _ h => h) (Or.inl ⟨by rfl, ?_⟩) hHeld ?_
                rotate_left
                · intro w hSw
                  (try dsimp only at hSw)
                  go_simp
                  try with_reducible rfl
                try simp only [Act.put, List.setIfInBounds_toArray, List.set_cons_zero, List.set_cons_succ]
                refine headH_takeS (i := 6) (v := ?_) 44 rfl (by kernel_rfl) (by kernel_rfl) (fun _ _ _ h => h) (Or.inl ⟨by rfl, ?_⟩) hHeld ?_
                rotate_left
                · intro w hSw
                  (try dsimp only at hSw)
                  go_simp
                  try with_reducible rfl
                try simp only [Act.put, List.setIfInBounds_toArray, List.set_cons_zero, List.set_cons_succ]
                refine headH_takeS (i := 7) (v := ?_) 45 rfl (by kernel_rfl) (by kernel_rfl) (fun _ _ _ h => h) (Or.inl ⟨by rfl, ?_⟩) hHeld ?_
                rotate_left
                · intro w hSw
                  (try dsimp only at hSw)
                  go_simp
                  try with_reducible rfl
                try simp only [Act.put, List.setIfInBounds_toArray, List.set_cons_zero, List.set_cons_succ]
                refine headH_takeS (i := 8) (v := ?_) 46 rfl (by kernel_rfl) (by kernel_rfl) (fun _ _ _ h => h) (Or.inl ⟨by rfl, ?_⟩) hHeld ?_
                rotate_left
                · intro w hSw
                  (try dsimp only at hSw)
                  go_simp
                  try with_reducible rfl
                try simp only [Act.put, List.setIfInBounds_toArray, List.set_cons_zero, List.set_cons_succ]
                refine headH_takeS (i := 9) (v := ?_) 47 rfl (by kernel_rfl) (by kernel_rfl) (fun _ _ _ h => h) (Or.inl ⟨by rfl, ?_⟩) hHeld ?_
                rotate_left
                · intro w hSw
                  (try dsimp only at hSw)
                  go_simp
                  try with_reducible rfl
                try simp only [Act.put, List.setIfInBounds_toArray, List.set_cons_zero, List.set_cons_succ]
                refine headH_tail (by kernel_rfl) ?_
                clear hHeld
                go_wp2_with (first | (go_at_call 49; refine HQ2.out.mono ?_; rintro e w5 ⟨rfl, hb5⟩; have own5 := (own.keep (fun _ _ => trivial) (Keep.trans (S := fun _ => True) (kb (Below.drew (Below.refl _ wr))) (kb hb5))); have qs5 := bcell (w := wr.drew) hb5 qs; have qz5 := bcell (w := wr.drew) hb5 qz; have fz5 := own_free own5 kk) | (go_at_fn 49; refine HQ2.out.mono ?_; rintro e w5 ⟨rfl, hb5⟩; have own5 := (own.keep (fun _ _ => trivial) (Keep.trans (S := fun _ => True) (kb (Below.drew (Below.refl _ wr))) (kb hb5))); have qs5 := bcell (w := wr.drew) hb5 qs; have qz5 := bcell (w := wr.drew) hb5 qz; have fz5 := own_free own5 kk))
                have hk5 : Keep (fun k => k ≠ g) w w5 := hK.trans ((kb (Below.drew (Below.refl _ wr))).trans (kb hb5))
                go_roundw
                case rel => exact ⟨j + 1, rs.set kk s2, by omega, by omega, by go_num, by rw [HKN.out]; go_num, own5.put kk s2, HN, hk5.set (by simp) _⟩
                case measure => simp [intOf]; omega
              · have hskip : keptB ws (k + j) = false := by rw [HKB.out, e]; rfl
                have HN := Lib.hid (HI.out.skip hskip)
                have HKN := Lib.hid (show (compTo ws (k + (j + 1))).length = kk by
                  rw [HKK.out]
                  show (compTo ws (k + j + 1)).length = _
                  rw [compTo_skip hskip])
                rw [e] at HQ2
                clear e hskip
                go_wp2
                refine wp_region_headS 10 (fun w' => w'.cell? ⟨g, k + j, none⟩ = some (.slice s2.A s2.xs.length s2.c) ∧ w'.cell? ⟨g, k + (j - 1), none⟩ = some (.slice t2.A t2.xs.length t2.c)) (by kernel_rfl) (by kernel_rfl) ⟨qs, qt⟩ (fun hHeld => ?_)
                simp only [List.drop]
                refine headH_takeS (i := 0) (v := ?_) 38 rfl (by kernel_rfl) (by kernel_rfl) (fun _ _ _ h => h) (Or.inl ⟨by rfl, ?_⟩) hHeld ?_
                rotate_left
                · intro w hSw
                  (try dsimp only at hSw)
                  go_simp
                  try with_reducible rfl
                try simp only [Act.put, List.setIfInBounds_toArray, List.set_cons_zero, List.set_cons_succ]
                refine headH_takeS (i := 1) (v := ?_) 39 rfl (by kernel_rfl) (by kernel_rfl) (fun _ _ _ h => h) (Or.inl ⟨by rfl, ?_⟩) hHeld ?_
                rotate_left
                · intro w hSw
                  (try dsimp only at hSw)
                  go_simp
                  try with_reducible rfl
                try simp only [Act.put, List.setIfInBounds_toArray, List.set_cons_zero, List.set_cons_succ]
                refine headH_takeS (i := 2) (v := ?_) 40 rfl (by kernel_rfl) (by kernel_rfl) (fun _ _ _ h => h) (Or.inl ⟨by rfl, ?_⟩) hHeld ?_
                rotate_left
                · intro w hSw
                  (try dsimp only at hSw)
                  go_simp
                  try with_reducible rfl
                try simp only [Act.put, List.setIfInBounds_toArray, List.set_cons_zero, List.set_cons_succ]
                refine headH_takeS (i := 3) (v := ?_) 41 rfl (by kernel_rfl) (by kernel_rfl) (fun _ _ _ h => h) (Or.inl ⟨by rfl, ?_⟩) hHeld ?_
                rotate_left
                · intro w hSw
                  (try dsimp only at hSw)
                  go_simp
                  try with_reducible rfl
                try simp only [Act.put, List.setIfInBounds_toArray, List.set_cons_zero, List.set_cons_succ]
                refine headH_takeS (i := 4) (v := ?_) 42 rfl (by kernel_rfl) (by kernel_rfl) (fun _ _ _ h => h) (Or.inl ⟨by rfl, ?_⟩) hHeld ?_
                rotate_left
                · intro w hSw
                  (try dsimp only at hSw)
                  go_simp
                  try with_reducible rfl
                try simp only [Act.put, List.setIfInBounds_toArray, List.set_cons_zero, List.set_cons_succ]
                refine headH_takeS (i := 5) (v := ?_) 43 rfl (by kernel_rfl) (by kernel_rfl) (fun _ _ _ h => h) (Or.inl ⟨by rfl, ?_⟩) hHeld ?_
                rotate_left
                · intro w hSw
                  (try dsimp only at hSw)
                  go_simp
                  try with_reducible rfl
                try simp only [Act.put, List.setIfInBounds_toArray, List.set_cons_zero, List.set_cons_succ]
                refine headH_takeS (i := 6) (v := ?_) 44 rfl (by kernel_rfl) (by kernel_rfl) (fun _ _ _ h => h) (Or.inl ⟨by rfl, ?_⟩) hHeld ?_
                rotate_left
                · intro w hSw
                  (try dsimp only at hSw)
                  go_simp
                  try with_reducible rfl
                try simp only [Act.put, List.setIfInBounds_toArray, List.set_cons_zero, List.set_cons_succ]
                refine headH_takeS (i := 7) (v := ?_) 45 rfl (by kernel_rfl) (by kernel_rfl) (fun _ _ _ h => h) (Or.inl ⟨by rfl, ?_⟩) hHeld ?_
                rotate_left
                · intro w hSw
                  (try dsimp only at hSw)
                  go_simp
                  try with_reducible rfl
                try simp only [Act.put, List.setIfInBounds_toArray, List.set_cons_zero, List.set_cons_succ]
                refine headH_takeS (i := 8) (v := ?_) 46 rfl (by kernel_rfl) (by kernel_rfl) (fun _ _ _ h => h) (Or.inl ⟨by rfl, ?_⟩) hHeld ?_
                rotate_left
                · intro w hSw
                  (try dsimp only at hSw)
                  go_simp
                  try with_reducible rfl
                try simp only [Act.put, List.setIfInBounds_toArray, List.set_cons_zero, List.set_cons_succ]
                refine headH_takeS (i := 9) (v := ?_) 47 rfl (by kernel_rfl) (by kernel_rfl) (fun _ _ _ h => h) (Or.inl ⟨by rfl, ?_⟩) hHeld ?_
                rotate_left
                · intro w hSw
                  (try dsimp only at hSw)
                  go_simp
                  try with_reducible rfl
                try simp only [Act.put, List.setIfInBounds_toArray, List.set_cons_zero, List.set_cons_succ]
                refine headH_tail (by kernel_rfl) ?_
                clear hHeld
                go_wp2_with (first | (go_at_call 49; refine HQ2.out.mono ?_; rintro e w5 ⟨rfl, hb5⟩; have own5 := (own.keep (fun _ _ => trivial) (Keep.trans (S := fun _ => True) (kb (Below.drew (Below.refl _ wr))) (kb hb5))); have qs5 := bcell (w := wr.drew) hb5 qs; have qz5 := bcell (w := wr.drew) hb5 qz; have fz5 := own_free own5 kk) | (go_at_fn 49; refine HQ2.out.mono ?_; rintro e w5 ⟨rfl, hb5⟩; have own5 := (own.keep (fun _ _ => trivial) (Keep.trans (S := fun _ => True) (kb (Below.drew (Below.refl _ wr))) (kb hb5))); have qs5 := bcell (w := wr.drew) hb5 qs; have qz5 := bcell (w := wr.drew) hb5 qz; have fz5 := own_free own5 kk))
                have hk5 : Keep (fun k => k ≠ g) w w5 := hK.trans ((kb (Below.drew (Below.refl _ wr))).trans (kb hb5))
                go_roundw
                case rel => exact ⟨j + 1, rs, by omega, by omega, by go_num, by rw [HKN.out], own5, HN, hk5⟩
                case measure => simp [intOf]; omega
            · have ej : k + j = ws.length := by omega
              have hR2 : R = rs.take kk := by rw [HR.out, ← ej, hkk]; exact hI.out.low.symm
              have hRl : R.length = kk := by rw [hR2, List.length_take]; omega
              have hcl : ∀ ty, (Builtin.clear_ #[24] ty #[.slice (some ⟨g, kk, none⟩) (ws.length - kk) (c - kk)]).run Tryz.prog wr = .ok (.tuple #[]) (wr.setCells g kk (List.replicate (ws.length - kk) (.slice none 0 0))) :=
                fun ty => Lib.run_clear_slice wr _ 38 ty _ Tryz.underlying24 Tryz.zeroValue38 rfl rfl g kk _ _ (by omega) (fun t ht => by
                  obtain ⟨z, hz⟩ := el (xs := rs) (k := kk + t) (by omega)
                  rw [own.cell hz]; rfl) (fun t ht => own_free own _)
              obtain ⟨ys, hy1, hy2, hy3, hy4⟩ := own_nilsS (ws.length - kk) kk wr rs own
              have hfin : OwnSls (wr.setCells g kk (List.replicate (ws.length - kk) (.slice none 0 0))) base (.slice (some ⟨g, 0, none⟩) R.length c) R ∧ Keep (fun k => k ≠ g) w (wr.setCells g kk (List.replicate (ws.length - kk) (.slice none 0 0))) := by
                refine ⟨?_, hK.trans hy4⟩
                have := own_takeS hy1 (k := kk) (by omega)
                rw [hy3, ← hR2] at this
                rw [hRl]
                exact this
              have HF := Lib.hid hfin
              have HRL := Lib.hid hRl
              have nlt : ¬ (j : Int) < (ws.length : Int) - k := by omega
              have nlt' : ¬ (j : Int) < ((ws.length - k : Nat) : Int) := by omega
              have i1 : (kk : Int) ≤ ws.length := by omega
              have i2 : (kk : Int) ≤ c := by omega
              clear hfin hy1 hy2 hy3 hy4 hR2 hRl own ej hjl hkk
              go_wp2
              go_returns
              exact ⟨by rw [HRL.out]; rfl, HF.out⟩
      · have ek : k = ws.length := by omega
        have HE := Lib.hid (show R = ws by rw [HR.out, compTo_all ws.length (Nat.le_refl _) (by rw [← ek]; exact hK.out), List.take_length])
        have nlt : ¬ (k : Int) < ws.length := by omega
        go_wp2
        go_returns
        rw [HE.out]
        exact ⟨rfl, own, hkg⟩
/-! 'inOrder': rows of classes, each once, in their order. -/
theorem keep_lt {w w' : World} {base g : Nat} (h : Keep (fun k => k ≠ g) w w') (hg : base ≤ g) : Keep (fun k => k < base) w w' := ⟨h.os, h.tape, h.output, h.size, fun k hk hs => h.block k hk (by omega)⟩
set_option maxHeartbeats 2000000 in
theorem inOrder_c {N : Nat} (w : World) (base : Nat) (v : Value) (ws : List Sl) (h : OwnSls w base v ws) (he : ElsOk w base ws) (hd : (ws.map Sl.v).Pairwise DisV) (hv : ws = [] → v = .slice none 0 0) (hn : ws.length ≤ 2097152) (hC : ∀ s ∈ ws, IsCan s.xs N) (h0 : 0 < N) (hN : N ≤ 300) :
    Calls Tryz.prog 57 #[v] w fun e w' => ∃ v', e = .returned v' ∧ OwnSS w' base v' (sortC (ws.map Sl.xs)) ∧ Keep (fun k => k < base) w w' := by
  by_cases hne : ws = []
  · obtain rfl := hv hne
    subst hne
    have hs := AnyF.slices_SortFunc_none (P := Tryz.prog) (ρ := sortSL_ren) { sortSL with } none 0 (.func (.func 85) #[] #[]) w
    have HS := Lib.hid hs
    clear hs
    have hcf : ∀ W, Calls Tryz.prog 90 #[.slice none 0 0, .func (.func 49) #[] #[]] W fun e w' => e = .returned (.slice none 0 0) ∧ w' = W := fun W => by
      go_enter Tryz.func90, Tryz.ntmps90
      go_wp2
      go_returns
      exact ⟨rfl, rfl⟩
    have HF := Lib.hid hcf
    clear hcf h he hd hC
    go_enter Tryz.func57, Tryz.ntmps57
    go_wp2_with fail
    refine HS.out.mono ?_
    rintro e w2 ⟨rfl, rfl⟩
    go_wp2_with fail
    refine (HF.out w2).mono ?_
    rintro e w3 ⟨rfl, rfl⟩
    go_wp2
    go_returns
    exact ⟨_, rfl, OwnSS.nil _ _, Keep.refl _ _⟩
  · obtain ⟨A, c, rfl, ga⟩ := h.at_
    obtain ⟨s0, hs0⟩ := el (xs := ws) (k := 0) (by cases ws with | nil => exact absurd rfl hne | cons _ _ => simp)
    obtain ⟨g, rfl, _⟩ := ga 0 s0 hs0
    have hg := (h.lt g rfl).1
    have hsf := SortFuncC_c w base g c ws h he hn hC h0 hN hne
    have HSF := Lib.hid hsf
    have HE := Lib.hid he
    have HD := Lib.hid hd
    have HC := Lib.hid hC
    have hel : ∀ s ∈ ws, ∀ k, s.v.ownBlock = some k → k ≠ g := fun s hs k hk e => own_ne h (he s hs) (by decide) g rfl (e ▸ hk)
    have HEL := Lib.hid hel
    clear hsf ga hs0 he hd hC hel h
    go_enter Tryz.func57, Tryz.ntmps57
    go_wp2_with fail
    refine HSF.out.mono ?_
    rintro e w2 ⟨rfl, us, hp, hs, own2, hk2⟩
    have hul : us.length = ws.length := hp.length_eq
    have he2 : ElsOk w2 base us := fun s hs => (HE.out s (hp.mem_iff.1 hs)).keep (HEL.out s (hp.mem_iff.1 hs)) hk2
    rw [← hul] at own2
    have hcf := CompFC_c (N := N) w2 base g c us own2 he2 (by omega) (fun s hs => (HC.out s (hp.mem_iff.1 hs)).1) hN
    rw [hul] at hcf
    have HCF := Lib.hid hcf
    have HP := Lib.hid hp
    have HSO := Lib.hid hs
    have HE2 := Lib.hid he2
    have HUL := Lib.hid hul
    have hel2 : ∀ s ∈ us, ∀ k, s.v.ownBlock = some k → k ≠ g := fun s hs => HEL.out s (hp.mem_iff.1 hs)
    have HEL2 := Lib.hid hel2
    clear hcf hp hs he2 own2 hul hel2
    go_wp2_with fail
    refine HCF.out.mono ?_
    rintro e w3 ⟨rfl, own3, hk3⟩
    have HO3 := Lib.hid own3
    have hres : OwnSS w3 base (.slice (some ⟨g, 0, none⟩) (compTo us ws.length).length c) (sortC (ws.map Sl.xs)) := by
      have hsub := compTo_sub (ws := us) us.length
      rw [List.take_length, HUL.out] at hsub
      have hNx : ∀ y ∈ ws.map Sl.xs, y.length = N := fun y hy => by
        obtain ⟨s, hs, rfl⟩ := List.mem_map.1 hy
        exact (HC.out s hs).1
      have hasc := (compTo_asc (N := N) (fun s hs => (HC.out s (HP.out.mem_iff.1 hs)).1) HSO.out us.length (Nat.le_refl _)).1
      rw [HUL.out] at hasc
      refine ⟨compTo us ws.length, own3, fun s hs => (HE2.out s (hsub.mem hs)).keep (HEL2.out s (hsub.mem hs)) hk3, ?_, ?_⟩
      · have h1 : (us.map Sl.v).Pairwise DisV := (List.Perm.pairwise_iff (fun {x y} h => DisV.symm h) (HP.out.map Sl.v)).2 HD.out
        exact h1.sublist (hsub.map Sl.v)
      · refine sortC_uniq hNx hasc fun y => ?_
        rw [List.mem_map, List.mem_map]
        constructor
        · rintro ⟨s, hs, rfl⟩
          exact ⟨s, HP.out.mem_iff.1 (hsub.mem hs), rfl⟩
        · rintro ⟨s, hs, rfl⟩
          obtain ⟨i, hi⟩ := List.getElem?_of_mem (HP.out.mem_iff.2 hs)
          obtain ⟨t, ht, e⟩ := compTo_mem us.length (Nat.le_refl _) i s (List.getElem?_eq_some_iff.1 hi).1 hi
          rw [HUL.out] at ht
          exact ⟨t, ht, e⟩
    have HR := Lib.hid hres
    clear hres own3
    go_wp2
    go_returns
    exact ⟨_, rfl, HR.out, (keep_lt hk2 hg).trans (keep_lt hk3 hg)⟩
/-! 'byPairs': the congruences that are made by one pair; 'PairCongruences', the program's side. -/
section
variable {N : Nat} {T : Nat → Nat → Nat}
/-- the congruence made by one pair -/
noncomputable def onePr (N : Nat) (T : Nat → Nat → Nat) (b a : Nat) : List Int := genL N T true (PairP [[(b : Int), (a : Int)]])
noncomputable def prTo (N : Nat) (T : Nat → Nat → Nat) (a : Nat) (k : Nat) : List (List Int) := (List.range k).map fun b => onePr N T b a
theorem prTo_succ (a k : Nat) : prTo N T a (k + 1) = prTo N T a k ++ [onePr N T k a] := by unfold prTo; rw [List.range_succ, List.map_append]; rfl
noncomputable def prAll (N : Nat) (T : Nat → Nat → Nat) : Nat → List (List Int)
  | 0 => []
  | a + 1 => prAll N T a ++ prTo N T a a
theorem genL_can {both : Bool} (P : Nat → Nat → Prop) : IsCan (genL N T both P) N := numL_can _ _
theorem prTo_can (a k : Nat) : ∀ y ∈ prTo N T a k, IsCan y N := fun y hy => by
  unfold prTo at hy
  obtain ⟨b, _, rfl⟩ := List.mem_map.1 hy
  exact genL_can _
theorem prAll_can : ∀ a, ∀ y ∈ prAll N T a, IsCan y N
  | 0, y, hy => by cases hy
  | a + 1, y, hy => by
    rcases List.mem_append.1 hy with hy | hy
    · exact prAll_can a y hy
    · exact prTo_can a a y hy
theorem prTo_length (a k : Nat) : (prTo N T a k).length = k := by simp [prTo]
theorem prAll_len : ∀ a, a ≤ 300 → (prAll N T a).length ≤ a * 300
  | 0, _ => Nat.le_refl _
  | a + 1, h => by
    have := prAll_len a (by omega)
    show (prAll N T a ++ prTo N T a a).length ≤ _
    rw [List.length_append, prTo_length, Nat.add_mul]
    omega
/-- the congruences made by one pair, in order -/
noncomputable def pairL (N : Nat) (T : Nat → Nat → Nat) : List (List Int) := sortC (prAll N T N)
theorem pairL_can : ∀ y ∈ pairL N T, IsCan y N := fun y hy => prAll_can N y ((mem_sortC (N := N) fun y hy => (prAll_can N y hy).1).1 hy)
end
set_option maxHeartbeats 8000000 in
set_option maxRecDepth 100000 in
theorem byPairs_c {rows : List (List Int)} {N : Nat} {T : Nat → Nat → Nat} {A : Option Addr} {c : Nat} {w : World} (ht : TabOk rows N T) (h0 : 0 < N) (hN : N ≤ 300) (h : SeeTab w A rows) :
    Calls Tryz.prog 41 #[.slice A N c] w fun e w' => ∃ v, e = .returned v ∧ OwnSS w' w.heap.size v (pairL N T) ∧ Below w.heap.size w w' := by
  have HM := Lib.hid (fun (W : World) (hW : Below w.heap.size w W) Ap cp b a (hb : b < N) (ha : a < N) (hp : SeeTab W Ap [[(b : Int), (a : Int)]]) => made_c A Ap c cp [[(b : Int), (a : Int)]] true W ht h0 hN (h.below hW) hp (fun pr hpr => ⟨b, a, by simpa using hpr, hb, ha⟩) (by simp))
  clear h ht
  go_enter Tryz.func41, Tryz.ntmps41
  go_wp2
  go_loopw [8, 3] (fun av v wr => ∃ a : Nat, a ≤ N ∧ av = .int .i64 a ∧ OwnSS wr w.heap.size v (prAll N T a) ∧ Hid (prAll N T a = [] → v = .slice none 0 0) ∧ Below w.heap.size w wr) (fun av _ _ => N - (intOf av).toNat)
  case atStart => exact ⟨0, Nat.zero_le _, rfl, OwnSS.nil _ _, Lib.hid fun _ => rfl, Below.refl _ _⟩
  case round =>
    obtain ⟨a, ha, rfl, own, hv, hb⟩ := hrel
    have a0 : (0 : Int) ≤ a := by omega
    by_cases hal : a < N
    · have a1 : (a : Int) < N := by omega
      obtain ⟨Ao, co, rfl, _⟩ := own.see
      have HSU := Lib.hid (show prAll N T (a + 1) = prAll N T a ++ prTo N T a a from rfl)
      have hpl := prAll_len (N := N) (T := T) a (by omega)
      generalize prAll N T a = ys at *
      go_wp2
      go_loopw [12, 3] (fun bv v wr => ∃ b : Nat, b ≤ a ∧ bv = .int .i64 b ∧ OwnSS wr w.heap.size v (ys ++ prTo N T a b) ∧ Hid (ys ++ prTo N T a b = [] → v = .slice none 0 0) ∧ Below w.heap.size w wr) (fun bv _ _ => a - (intOf bv).toNat)
      case atStart => exact ⟨0, Nat.zero_le _, rfl, by simpa [prTo] using own, Lib.hid (by simpa [prTo] using hv.out), hb⟩
      case round =>
        clear own hv hb
        obtain ⟨b, hbl, rfl, own, hv, hb⟩ := hrel
        have b0 : (0 : Int) ≤ b := by omega
        by_cases hblt : b < a
        · have b1 : (b : Int) < a := by omega
          have HSB := Lib.hid (show ys ++ prTo N T a (b + 1) = (ys ++ prTo N T a b) ++ [onePr N T b a] by rw [prTo_succ, List.append_assoc])
          have hzl : (ys ++ prTo N T a b).length ≤ 200000 := by rw [List.length_append, prTo_length]; have : a * 300 ≤ 300 * 300 := Nat.mul_le_mul_right _ (by omega); omega
          obtain ⟨zs, hzs⟩ : ∃ zs, zs = ys ++ prTo N T a b := ⟨_, rfl⟩
          rw [← hzs] at own hv HSB hzl
          obtain ⟨ws, h1, h2, h3, h4⟩ := own.ex
          obtain ⟨Aw, cw, rfl, _⟩ := h1.at_
          have hwl : ws.length ≤ 200000 := by rw [← h4, List.length_map] at hzl; exact hzl
          have HWS := Lib.hid (⟨h2, h3, h4⟩ : ElsOk wr w.heap.size ws ∧ (ws.map Sl.v).Pairwise DisV ∧ ws.map Sl.xs = zs)
          have k1 := kbelow wr (.cells #[.int .i64 (b : Int), .int .i64 (a : Int)] 2)
          have k2 := btrans k1 (kbelow _ (.cells #[.slice (some ⟨wr.heap.size, 0, none⟩) 2 2] 38))
          have sp : SeeTab ((wr.alloc (.cells #[.int .i64 (b : Int), .int .i64 (a : Int)] 2)).alloc (.cells #[.slice (some ⟨wr.heap.size, 0, none⟩) 2 2] 38)) (some ⟨wr.heap.size + 1, 0, none⟩) [[(b : Int), (a : Int)]] := by
            refine see_tab1 (A := some ⟨wr.heap.size, 0, none⟩) (c := 2) (by simp [go_sem]) (fun _ => ⟨wr.heap.size, 0, rfl, fun k x hk => ?_⟩) (fun e => by cases e)
            match k, hk with
            | 0, hk => simp at hk; subst hk; simp [go_sem]
            | 1, hk => simp at hk; subst hk; simp [go_sem]
          have hmd := HM.out _ (btrans hb k2) (some ⟨wr.heap.size + 1, 0, none⟩) 1 b a (by omega) hal sp
          have hmd' : Calls Tryz.prog 78 #[.slice A N c, .slice (some ⟨wr.heap.size + 1, 0, none⟩) 1 1, .bool true] _ fun e w' => ∃ v, e = .returned v ∧ OwnInts w' _ v (onePr N T b a) ∧ Below _ _ w' := hmd
          have HMD := Lib.hid hmd'
          obtain ⟨o1, ho1⟩ : ∃ o1, o1 = onePr N T b a := ⟨_, rfl⟩
          rw [← ho1] at HMD HSB
          clear sp hmd hmd' h2 h3 h4 hzs own ho1
          go_wp2_with fail
          refine HMD.out.mono ?_
          rintro e w6 ⟨v6, rfl, own6, hb6⟩
          obtain ⟨A6, c6, rfl, _⟩ := own6.see
          have hb36 := btrans k2 hb6
          have zk2 := k2.size
          have kk7 := kbelow w6 (.cells #[.slice A6 o1.length c6] 38)
          have hbx := btrans hb36 kk7
          have h14 := h1.below hbx
          have hs2 := (OwnInts.mono own6 (Nat.le_trans hb.size zk2)).below kk7
          have hsb : ∀ q, (Sl.v ⟨A6, c6, o1⟩).ownBlock = some q → wr.heap.size ≤ q := fun q hq => Nat.le_trans zk2 (own6.lt q hq).1
          go_wp2_with (at_builtin; go_must (refine wpList_push_sl _ rfl (.tmp 15) (.tmp 22) rfl w.heap.size (.slice Aw ws.length cw) ws rfl h14 ⟨w6.heap.size, 0, none⟩ ⟨A6, c6, o1⟩ rfl (by simp [go_sem]) (by omega) (btrans hb hbx).size ?_; intro v5 w5 hown5 hgrow5 hv5; have h5 := hown5.at_; obtain ⟨A5, c5, rfl, _⟩ := h5))
          have hss := OwnSS.push (s := ⟨A6, c6, o1⟩) h1 HWS.out.1 HWS.out.2.1 HWS.out.2.2 hbx hs2 hsb hgrow5 hown5
          have hb5 : Below w.heap.size w w5 := (btrans hb hbx).grown hgrow5 (btrans hb hbx).size (fun i hi => (h14.lt i hi).1)
          go_roundw
          case rel => exact ⟨b + 1, by omega, by go_num, by rw [HSB.out]; simpa using hss, Lib.hid fun e => by rw [HSB.out] at e; simp at e, hb5⟩
          case measure => simp [intOf]; omega
        · have eb : b = a := by omega
          subst eb
          have nlt : ¬ (b : Int) < b := by omega
          have HO := Lib.hid own
          obtain ⟨Ax, cx, rfl, _⟩ := own.see
          clear own hblt
          go_wp2
          go_roundw
          case rel => exact ⟨b + 1, by omega, by go_num, by rw [HSU.out]; exact HO.out, Lib.hid fun e => hv.out (by rw [← HSU.out]; exact e), hb⟩
          case measure => simp [intOf]; omega
    · have ea : a = N := by omega
      subst ea
      have nlt : ¬ (a : Int) < a := by omega
      have hpl := prAll_len (N := a) (T := T) a (by omega)
      have hcn := prAll_can (N := a) (T := T) a
      have HP := Lib.hid (show pairL a T = sortC (prAll a T a) from rfl)
      obtain ⟨ys, hys⟩ : ∃ ys, ys = prAll a T a := ⟨_, rfl⟩
      rw [← hys] at own hv hpl hcn HP
      obtain ⟨ws, h1, h2, h3, h4⟩ := own.ex
      obtain ⟨Aw, cw, rfl, _⟩ := h1.at_
      have hwl : ws.length ≤ a * 300 := by rw [← h4, List.length_map] at hpl; exact hpl
      have hio := inOrder_c (N := a) wr w.heap.size _ ws h1 h2 h3 (fun e => hv.out (by rw [← h4, e]; rfl)) (by have : a * 300 ≤ 300 * 300 := Nat.mul_le_mul_right _ (by omega); omega) (fun s hs => hcn _ (by rw [← h4]; exact List.mem_map.2 ⟨s, hs, rfl⟩)) h0 hN
      rw [h4, ← HP.out] at hio
      have HIO := Lib.hid hio
      clear hio h1 h2 h3 h4 own hv hys hcn HP hpl HM hwl
      go_wp2_with fail
      refine HIO.out.mono ?_
      rintro e w2 ⟨v2, rfl, own2, hk2⟩
      obtain ⟨A2, c2, rfl, _⟩ := own2.see
      have HO2 := Lib.hid own2
      clear own2
      go_wp2
      go_returns
      exact ⟨_, rfl, HO2.out, hb.trans (hk2.below hb.size (fun k hk => hk))⟩
/-! 'l06Less', 'l06Put', 'l06One': congruences in order, as the reference keeps them. -/
set_option maxHeartbeats 4000000 in
theorem l06Less_c {A B : Option Addr} {c d N : Nat} {a b : List Int} (w : World) (ha : SeeInts w A a) (hb : SeeInts w B b) (ca : IsCan a N) (cb : IsCan b N) (h0 : 0 < N) (hN : N ≤ 300) :
    Calls Tryz.prog 83 #[.slice A N c, .slice B N d] w fun e w' => e = .returned (.bool (decide (ltC a b))) ∧ Below w.heap.size w w' := by
  have ea : nqC a = (qN a N : Int) := by unfold nqC; rw [ca.1]
  have eb : nqC b = (qN b N : Int) := by unfold nqC; rw [cb.1]
  have HA := Lib.hid (fun W (hW : Below w.heap.size w W) => l06Number_c A c N a (qN a N) W (ha.below hW) ca (qN_spec ca h0).1 h0 hN)
  have HB := Lib.hid (fun W (hW : Below w.heap.size w W) => l06Number_c B d N b (qN b N) W (hb.below hW) cb (qN_spec cb h0).1 h0 hN)
  obtain ⟨bA, oA, rfl, gA⟩ := ha.cls (by rw [ca.1]; exact h0)
  obtain ⟨bB, oB, rfl, gB⟩ := hb.cls (by rw [cb.1]; exact h0)
  rw [ca.1] at gA
  rw [cb.1] at gB
  have GA := Lib.hid gA
  have GB := Lib.hid gB
  have hl : a.length = b.length := by rw [ca.1, cb.1]
  have HL := Lib.hid hl
  have LA := Lib.hid ca.1
  obtain ⟨r, hr⟩ : ∃ r, r = decide (ltC a b) := ⟨_, rfl⟩
  rw [← hr]
  have hq1 : qN a N ≠ qN b N → r = decide (qN b N < qN a N) := fun hne => by
    rw [hr, decide_eq_decide, ltC_iff, ea, eb]
    omega
  have hq2 : qN a N = qN b N → r = decide (cmpLs a b < 0) := fun he => by
    rw [hr, decide_eq_decide, ltC_iff, ea, eb]
    omega
  have Q1 := Lib.hid hq1
  have Q2 := Lib.hid hq2
  clear hq1 hq2 hr ea eb gA gB hl ha hb ca cb
  generalize qN a N = na at *
  generalize qN b N = nb at *
  go_enter Tryz.func83, Tryz.ntmps83
  go_wp2_with fail
  refine (HA.out w (Below.refl _ _)).mono ?_
  rintro e w2 ⟨rfl, hb2⟩
  go_wp2_with fail
  refine (HB.out w2 hb2).mono ?_
  rintro e w3 ⟨rfl, hb3⟩
  have hb23 := btrans hb2 hb3
  by_cases hne : na = nb
  · have d : ((na : Int) != (nb : Int)) = false := by rw [hne]; simp
    have R := Lib.hid (Q2.out hne)
    subst hne
    go_wp2
    go_loopw [7] (fun iv wr => ∃ i : Nat, i ≤ N ∧ iv = .int .i64 i ∧ Hid (∀ j x y, j < i → a[j]? = some x → b[j]? = some y → cmpI x y = 0) ∧ Below w.heap.size w wr) (fun iv _ => N - (intOf iv).toNat)
    case atStart => exact ⟨0, Nat.zero_le _, rfl, Lib.hid (fun j _ _ hj => by omega), hb23⟩
    case round =>
      obtain ⟨i, hi, rfl, hE, hb4⟩ := hrel
      have i0 : (0 : Int) ≤ i := by omega
      by_cases hlt : i < N
      · have i1 : (i : Int) < N := by omega
        have q1 := bwc hb4 (GA.out i hlt)
        have q2 := bwc hb4 (GB.out i hlt)
        have hca := cls_get (cl := a) (i := i) (by rw [LA.out]; exact hlt)
        have hcb := cls_get (cl := b) (i := i) (by rw [← HL.out, LA.out]; exact hlt)
        have HCA := Lib.hid hca
        have HCB := Lib.hid hcb
        clear hca hcb
        generalize cls a i = x at *
        generalize cls b i = y at *
        by_cases e : x = y
        · have d : (x != y) = false := by simpa using e
          have HN := Lib.hid (show ∀ j x y, j < i + 1 → a[j]? = some x → b[j]? = some y → cmpI x y = 0 from fun j x' y' hj h1 h2 => by
            by_cases e' : j = i
            · subst e'
              rw [HCA.out] at h1
              rw [HCB.out] at h2
              rw [← Option.some.inj h1, ← Option.some.inj h2]
              exact cmpI_eq.2 e
            · exact hE.out j x' y' (by omega) h1 h2)
          clear e
          go_wp2
          refine wp_region_bw (by kernel_rfl) (by kernel_rfl) ?_
          repeat go_big_quiet_step (fail)
          refine wpQuiet_nil ?_
          rintro w5 ⟨⟨w5x, hb5⟩, rfl⟩
          go_wp2
          go_roundw
          case rel => exact ⟨i + 1, by omega, by go_num, HN, btrans hb4 hb5⟩
          case measure => simp [intOf]; omega
        · have d : (x != y) = true := by simpa using e
          have hcm : cmpLs a b = cmpI x y := by
            rw [cmpLs_skip a b i HL.out hE.out]
            obtain ⟨k1, e1⟩ := List.getElem?_eq_some_iff.1 HCA.out
            obtain ⟨k2, e2⟩ := List.getElem?_eq_some_iff.1 HCB.out
            rw [List.drop_eq_getElem_cons k1, List.drop_eq_getElem_cons k2, e1, e2]
            show (if cmpI x y = 0 then _ else cmpI x y) = _
            rw [if_neg fun h => e (cmpI_eq.1 h)]
          have R2 := Lib.hid (show r = decide (x < y) by rw [R.out, hcm, decide_eq_decide]; exact cmpI_lt)
          have p1 := bwcell (q1 ⟨wr, Below.refl _ _⟩)
          have p2 := bwcell (q2 ⟨wr, Below.refl _ _⟩)
          clear e hcm
          go_wp2
          refine wp_region_bw (by kernel_rfl) (by kernel_rfl) ?_
          repeat go_big_quiet_step (fail)
          refine wpQuiet_nil ?_
          rintro w5 ⟨⟨w5x, hb5⟩, rfl⟩
          have q1' := bwcell (p1 ⟨w5, hb5⟩)
          have q2' := bwcell (p2 ⟨w5, hb5⟩)
          go_wp2
          refine wp_region_bw (by kernel_rfl) (by kernel_rfl) ?_
          repeat go_big_quiet_step (fail)
          refine wpQuiet_nil ?_
          rintro w6 ⟨⟨w6x, hb6⟩, rfl⟩
          go_wp2
          go_returns
          rw [R2.out]
          exact ⟨rfl, btrans (btrans hb4 hb5) hb6⟩
      · have ei : i = N := by omega
        subst ei
        have nlt : ¬ (i : Int) < i := by omega
        have R2 := Lib.hid (show r = false by
          rw [R.out, cmpLs_skip a b i HL.out hE.out]
          have h1 : a.drop i = [] := by rw [← LA.out]; exact List.drop_length
          rw [h1]
          rfl)
        go_wp2
        go_returns
        rw [R2.out]
        exact ⟨rfl, hb4⟩
  · have d : ((na : Int) != (nb : Int)) = true := bne_iff_ne.2 (by omega)
    have R := Lib.hid (Q1.out hne)
    clear hne
    go_wp2
    go_returns
    rw [R.out]
    exact ⟨rfl, hb23⟩
theorem SeeSls.cells {w : World} {A : Option Addr} {c : Nat} {ys : List Sl} (h : SeeSls w A ys) (hA : NilOk A c) : SeeCells w A c (ys.map Sl.v) := by
  cases A with
  | none =>
    refine .inl ⟨rfl, hA rfl, ?_⟩
    cases ys with
    | nil => rfl
    | cons x xs => obtain ⟨b, o, e, _⟩ := h (by simp); cases e
  | some ad =>
    refine .inr ⟨ad, rfl, fun j u hu => ?_⟩
    have hj : j < ys.length := by simpa using (List.getElem?_eq_some_iff.1 hu).1
    obtain ⟨b, o, e, g⟩ := h (ne_of_lt hj)
    obtain rfl := Option.some.inj e
    obtain ⟨x, hx⟩ := el hj
    rw [List.getElem?_map, hx] at hu
    obtain rfl := Option.some.inj hu
    rw [add_lit]
    exact g j x hx
theorem OwnSls.seeS {w : World} {base g n c : Nat} {ws : List Sl} (h : OwnSls w base (.slice (some ⟨g, 0, none⟩) n c) ws) : SeeSls w (some ⟨g, 0, none⟩) ws := fun _ => ⟨g, 0, rfl, fun k s hk => by rw [Nat.zero_add]; exact h.cell hk⟩
theorem OwnSls.seeTake {w : World} {base g n c : Nat} {ws : List Sl} (h : OwnSls w base (.slice (some ⟨g, 0, none⟩) n c) ws) (i : Nat) : SeeSls w (some ⟨g, 0, none⟩) (ws.take i) := fun _ => ⟨g, 0, rfl, fun k s hk => by
  rw [List.getElem?_take] at hk
  split at hk
  · rw [Nat.zero_add]; exact h.cell hk
  · cases hk⟩
theorem OwnSls.seeDrop {w : World} {base g n c : Nat} {ws : List Sl} (h : OwnSls w base (.slice (some ⟨g, 0, none⟩) n c) ws) (i : Nat) : SeeSls w (some ⟨g, i, none⟩) (ws.drop i) := fun _ => ⟨g, i, rfl, fun k s hk => by
  rw [List.getElem?_drop] at hk
  exact h.cell hk⟩
theorem OwnSls.seeA {w : World} {base n c : Nat} {A : Option Addr} {ws : List Sl} (h : OwnSls w base (.slice A n c) ws) : SeeSls w A ws := fun hn => by
  obtain ⟨A', c', e, g⟩ := h.at_
  simp only [Value.slice.injEq] at e
  obtain ⟨rfl, _, _⟩ := e
  obtain ⟨s, hs⟩ := el (xs := ws) (k := 0) (List.length_pos_iff.2 hn)
  obtain ⟨b, rfl, _⟩ := g 0 s hs
  refine ⟨b, 0, rfl, fun k t hk => ?_⟩
  obtain ⟨b', e', q⟩ := g k t hk
  simp only [Option.some.injEq, Addr.mk.injEq, and_true] at e'
  rw [Nat.zero_add, e']
  exact q
theorem OwnSls.some_ {w : World} {base : Nat} {v : Value} {ws : List Sl} (h : OwnSls w base v ws) (hn : ws ≠ []) : ∃ g c, v = .slice (some ⟨g, 0, none⟩) ws.length c := by
  obtain ⟨A', c', e, g⟩ := h.at_
  obtain ⟨s, hs⟩ := el (xs := ws) (k := 0) (List.length_pos_iff.2 hn)
  obtain ⟨b, rfl, _⟩ := g 0 s hs
  exact ⟨b, c', e⟩
/-- out = append(out, ys...) -/
theorem wpList_cat_sl (w : World) {ops : Array Oper} {rest : List Oper} {o : Oper} {a : Act} {Q : Exit → Act → World → Prop} (hgd : o.guard = none) (s x : Operand)
    (ho : o.op = .call { callee := .builtin .append, args := #[s, x], argTypes := #[24, 24] })
    (base : Nat) (v : Value) (xs ys : List Sl) (hs : a.eval s = v) (hown : OwnSls w base v xs) (A : Option Addr) (m c : Nat) (hx : a.eval x = .slice A m c) (hm : ys.length = m) (hy : SeeSls w A ys) (hA : NilOk A c)
    (hn : xs.length + ys.length ≤ 2097152) (hbase : base ≤ w.heap.size)
    (hK : ∀ v' w', OwnSls w' base v' (xs ++ ys) → w.grownBy w' v.ownBlock → (v'.ownBlock = v.ownBlock ∨ v'.ownBlock = some w.heap.size) → wpList Tryz.prog ops Q rest (a.put o.dst v') w') : wpList Tryz.prog ops Q (o :: rest) a w := by
  obtain ⟨i0, hi, hz0, hz1, hz2⟩ := info_parts info_sl
  refine wpList_append_see w hgd s x 24 ho base 38 i0 (.slice none 0 0) 1 24 Tryz.underlying24 hi hz0 hz1 hz2 rfl (by decide) v xs.length (xs.map Sl.v) hs hown A m c (ys.map Sl.v) hx (by simp [hm]) (hy.cells hA) (fun u hu => by obtain ⟨y, _, rfl⟩ := List.mem_map.1 hu; rfl) (by unfold maxLen; omega) (by omega) hbase (fun v' w' h3 h4 h5 => hK v' w' ?_ h4 h5)
  unfold OwnSls
  rw [List.length_append, List.map_append, hm]
  exact h3
/-- a place between -/
theorem put_place {N : Nat} {ws : List Sl} {s : Sl} {i : Nat} (hC : ∀ t ∈ ws, t.xs.length = N) (hs : s.xs.length = N) (hasc : (ws.map Sl.xs).Pairwise ltC) (hi : i ≤ ws.length) (hup : ∀ j t, i ≤ j → ws[j]? = some t → ltC s.xs t.xs)
    (hlo : ∀ t, 0 < i → ws[i - 1]? = some t → ¬ ltC s.xs t.xs ∧ t.xs ≠ s.xs) : s.xs ∉ ws.map Sl.xs ∧ (ws.take i ++ s :: ws.drop i).map Sl.xs = insC (ws.map Sl.xs) s.xs := by
  have T := ltC_tot N
  have hP := List.pairwise_iff_getElem.1 hasc
  have lo : ∀ t ∈ ws.take i, ltC t.xs s.xs := fun t ht => by
    obtain ⟨j, hj⟩ := List.getElem?_of_mem ht
    rw [List.getElem?_take] at hj
    split at hj
    · rename_i hji
      obtain ⟨u, hu⟩ := el (xs := ws) (k := i - 1) (by omega)
      obtain ⟨h1, h2⟩ := hlo u (by omega) hu
      have hmu := List.mem_of_getElem? hu
      have hmt := List.mem_of_getElem? hj
      have hus : ltC u.xs s.xs := by
        rcases T.tot _ _ (hC u hmu) hs h2 with h | h
        · exact h
        · exact absurd h h1
      by_cases e : j = i - 1
      · subst e
        rw [hu] at hj
        obtain rfl := Option.some.inj hj
        exact hus
      · obtain ⟨lj, ej⟩ := List.getElem?_eq_some_iff.1 hj
        obtain ⟨lu, eu⟩ := List.getElem?_eq_some_iff.1 hu
        have := hP j (i - 1) (by simpa using lj) (by simpa using lu) (by omega)
        rw [List.getElem_map, List.getElem_map, ej, eu] at this
        exact T.tr _ _ _ (hC t hmt) (hC u hmu) hs this hus
    · cases hj
  have hi2 : ∀ t ∈ ws.drop i, ltC s.xs t.xs := fun t ht => by
    obtain ⟨j, hj⟩ := List.getElem?_of_mem ht
    rw [List.getElem?_drop] at hj
    exact hup (i + j) t (by omega) hj
  have hno : s.xs ∉ ws.map Sl.xs := fun hm => by
    obtain ⟨t, ht, e⟩ := List.mem_map.1 hm
    rw [← List.take_append_drop i ws] at ht
    rcases List.mem_append.1 ht with h | h
    · have := lo t h; rw [e] at this; exact T.irr _ hs this
    · have := hi2 t h; rw [e] at this; exact T.irr _ hs this
  refine ⟨hno, insC_uniq (N := N) (fun y hy => ?_) hs hasc ?_ (fun y => ?_)⟩
  · obtain ⟨t, ht, rfl⟩ := List.mem_map.1 hy
    exact hC t ht
  · rw [List.map_append, List.map_cons, List.pairwise_append]
    have h0 : ((ws.take i ++ ws.drop i).map Sl.xs).Pairwise ltC := by rw [List.take_append_drop]; exact hasc
    rw [List.map_append, List.pairwise_append] at h0
    refine ⟨h0.1, List.pairwise_cons.2 ⟨fun y hy => ?_, h0.2.1⟩, fun a ha b hb => ?_⟩
    · obtain ⟨t, ht, rfl⟩ := List.mem_map.1 hy
      exact hi2 t ht
    · rcases List.mem_cons.1 hb with rfl | hb
      · obtain ⟨t, ht, rfl⟩ := List.mem_map.1 ha
        exact lo t ht
      · exact h0.2.2 a ha b hb
  · rw [List.map_append, List.map_cons, List.mem_append, List.mem_cons]
    have e : y ∈ ws.map Sl.xs ↔ y ∈ (ws.take i).map Sl.xs ∨ y ∈ (ws.drop i).map Sl.xs := by rw [← List.mem_append, ← List.map_append, List.take_append_drop]
    rw [e]
    constructor
    · rintro (h | h | h)
      · exact .inl (.inl h)
      · exact .inr h
      · exact .inl (.inr h)
    · rintro ((h | h) | h)
      · exact .inl h
      · exact .inr (.inr h)
      · exact .inr (.inl h)
/-- the list with a row put into it: what it is made of, and where it lies -/
def PutR (w : World) (base g n c : Nat) (zs : List (List Int)) (ws : List Sl) (s : Sl) (g0 b0 : Nat) : Prop :=
  ∃ us : List Sl, OwnSls w base (.slice (some ⟨g, 0, none⟩) n c) us ∧ ElsOk w base us ∧ (us.map Sl.v).Pairwise DisV ∧ us.map Sl.xs = zs ∧ (∀ u ∈ us, u ∈ ws ∨ u = s) ∧ (g = g0 ∨ b0 ≤ g)
theorem PutR.ss {w : World} {base g n c : Nat} {zs : List (List Int)} {ws : List Sl} {s : Sl} {g0 b0 : Nat} (h : PutR w base g n c zs ws s g0 b0) : OwnSS w base (.slice (some ⟨g, 0, none⟩) n c) zs := by
  obtain ⟨us, h1, h2, h3, h4, _⟩ := h
  exact ⟨us, h1, h2, h3, h4⟩
set_option maxHeartbeats 8000000 in
set_option maxRecDepth 100000 in
theorem l06Put_c {N base g c : Nat} {ws : List Sl} {s : Sl} (w : World) (h1 : OwnSls w base (.slice (some ⟨g, 0, none⟩) ws.length c) ws) (h2 : ElsOk w base ws) (h3 : (ws.map Sl.v).Pairwise DisV) (hs : OwnInts w base s.v s.xs) (hd : ∀ t ∈ ws, DisV t.v s.v)
    (hC : ∀ t ∈ ws, IsCan t.xs N) (hc : IsCan s.xs N) (hasc : (ws.map Sl.xs).Pairwise ltC) (hn : ws.length ≤ 1000000) (hbw : base ≤ w.heap.size) (h0 : 0 < N) (hN : N ≤ 300) :
    Calls Tryz.prog 53 #[.slice (some ⟨g, 0, none⟩) ws.length c, .slice s.A N s.c] w fun e w' => ∃ g' n' c', e = .returned (.tuple #[.slice (some ⟨g', 0, none⟩) n' c', .bool (!decide (s.xs ∈ ws.map Sl.xs))]) ∧ PutR w' base g' n' c' (insC (ws.map Sl.xs) s.xs) ws s g w.heap.size ∧ Below w.heap.size w w' := by
  have hNs := hc.1
  have hsv : s.v = .slice s.A N s.c := by unfold Sl.v; rw [hNs]
  have sS : SeeInts w s.A s.xs := OwnInts.see' (show OwnInts w base (.slice s.A s.xs.length s.c) s.xs from hs)
  have eS : ∀ t ∈ ws, SeeInts w t.A t.xs := fun t ht => OwnInts.see' (show OwnInts w base (.slice t.A t.xs.length t.c) t.xs from h2 t ht)
  have hcap : ws.length ≤ c := by
    rcases h1.2 with ⟨h2', _⟩ | ⟨g', cap, cur, h2', _, _, h3', _⟩
    · cases h2'
    · simp only [Value.slice.injEq] at h2'
      omega
  have LESS := Lib.hid (fun (W : World) (hW : Below w.heap.size w W) t (ht : t ∈ ws) => l06Less_c (c := s.c) (d := t.c) W (sS.below hW) ((eS t ht).below hW) hc (hC t ht) h0 hN)
  have EQL := Lib.hid (fun (W : World) (hW : Below w.heap.size w W) t (ht : t ∈ ws) => (by
    have := l06Equal_c t.A s.A t.c s.c t.xs s.xs W ((eS t ht).below hW) (sS.below hW) (by rw [(hC t ht).1, hNs]) (by rw [(hC t ht).1]; omega)
    rw [(hC t ht).1] at this
    exact this : Calls Tryz.prog 64 #[.slice t.A N t.c, .slice s.A N s.c] W fun e w' => e = .returned (.bool (decide (t.xs = s.xs))) ∧ Below W.heap.size W w'))
  have CELL := Lib.hid (fun (W : World) (hW : Below w.heap.size w W) i t (ht : ws[i]? = some t) => (by
    have := bcell hW (h1.cell ht)
    rw [(hC t (List.mem_of_getElem? ht)).1] at this
    exact this : W.cell? ⟨g, i, none⟩ = some (.slice t.A N t.c)))
  have PLACE := Lib.hid (fun i hi hup hlo => put_place (N := N) (i := i) (fun t ht => (hC t ht).1) hNs hasc hi hup hlo)
  have HASC := Lib.hid hasc
  have HC := Lib.hid hC
  have O1 := Lib.hid h1
  have O2 := Lib.hid h2
  have O3 := Lib.hid h3
  have OS := Lib.hid hs
  have OD := Lib.hid hd
  have HSV := Lib.hid hsv
  obtain ⟨fresh, hfr⟩ : ∃ fresh, fresh = !decide (s.xs ∈ ws.map Sl.xs) := ⟨_, rfl⟩
  rw [← hfr]
  have HFR := Lib.hid hfr
  have HNS := Lib.hid hNs
  clear hasc hC h1 h2 h3 hs hd hsv hfr sS eS hNs hc
  go_enter Tryz.func53, Tryz.ntmps53
  go_wp2
  go_loopw [6] (fun iv wr => ∃ i : Nat, i ≤ ws.length ∧ iv = .int .i64 i ∧ Hid (∀ j t, i ≤ j → ws[j]? = some t → ltC s.xs t.xs) ∧ Below w.heap.size w wr) (fun iv _ => (intOf iv).toNat)
  case atStart => exact ⟨ws.length, Nat.le_refl _, rfl, Lib.hid (fun j t hj ht => by have := (List.getElem?_eq_some_iff.1 ht).1; omega), Below.refl _ _⟩
  case round =>
    obtain ⟨i, hi, rfl, hup, hb⟩ := hrel
    rcases Nat.eq_zero_or_pos i with rfl | hpos
    · have HLO := Lib.hid (show ∀ t, 0 < 0 → ws[0 - 1]? = some t → ¬ ltC s.xs t.xs ∧ t.xs ≠ s.xs from fun t h => by omega)
      have HPL := Lib.hid (PLACE.out 0 hi hup.out HLO.out)
      have z1 : w.heap.size ≤ wr.heap.size := hb.size
      have k1 := btrans hb (kbelow wr (.cells #[.slice s.A N s.c] 38))
      have ho1 := OwnSls.one wr w.heap.size z1 s
      rw [HNS.out] at ho1
      have i2 : (0 : Int) ≤ ws.length := by omega
      have i3 : (0 : Int) ≤ c := by omega
      have i4 : (0 : Int) ≤ 0 := by omega
      have hdl : (ws.drop 0).length = ws.length - 0 := List.length_drop
      have htl : (ws.take 0).length = 0 := by rw [List.length_take]; omega
      have HDL := Lib.hid hdl
      have HTL := Lib.hid htl
      have hdn : ws.length ≤ 1000000 := by omega
      have htn : ([] : List Sl).length ≤ 1000000 := by simp
      clear hdl htl
      go_wp2_with (first | (at_builtin; (refine wpList_cat_sl _ rfl (.tmp 36) (.tmp 39) rfl w.heap.size (.slice (some ⟨wr.heap.size, 0, none⟩) 1 1) [s] ws rfl ho1 _ _ _ rfl rfl (O1.out.below k1).seeS (fun e => by cases e) (by first | (simp; done) | (simp; omega)) k1.size ?_; intro v7 w7 hown7 hg7 hv7; have k7 : Below w.heap.size w w7 := k1.grown hg7 k1.size (fun q hq => (ho1.lt q hq).1); have k8 := btrans k7 (kbelow w7 (.cells #[] 38)); have ho8 : OwnSls (w7.alloc (.cells #[] 38)) w.heap.size (.slice (some ⟨w7.heap.size, 0, none⟩) 0 0) [] := own_mono (World.ownsRow_made w7 #[] 0 (Nat.le_refl _) (by decide) rfl) k7.size; have h7 := hown7.at_; obtain ⟨A7, c7, rfl, _⟩ := h7)) | (at_builtin; refine wpList_cat_sl _ rfl (.tmp 41) (.tmp 44) rfl w.heap.size (.slice (some ⟨w7.heap.size, 0, none⟩) 0 0) [] [] rfl ho8 _ _ _ rfl rfl (fun hne => absurd rfl hne) (fun e => by cases e) (by first | (simp; done) | (simp; omega)) k8.size ?_; intro v9 w9 hown9 hg9 hv9; have k9 : Below w.heap.size w w9 := k8.grown hg9 k8.size (fun q hq => (ho8.lt q hq).1); rw [List.nil_append] at hown9; have hg7' : OwnSls w9 w.heap.size (.slice A7 ([s] ++ ws).length c7) ([s] ++ ws) := (hown7.below (kbelow w7 (.cells #[] 38))).grow hg9 (fun q hq e => by have := (hown7.lt q hq).2; have := Option.some.inj e; simp at this; omega)) | (at_builtin; refine wpList_cat_sl _ rfl (.tmp 45) (.tmp 46) rfl w.heap.size v9 [] ([s] ++ ws) rfl hown9 _ _ _ rfl (by first | (simp; done) | (have := HDL.out; simp; omega)) hg7'.seeA (own_nilok hg7') (by first | (simp; done) | (simp; omega)) k9.size ?_; intro v10 w10 hown10 hg10 hv10; have HBW : Hid (Below w.heap.size w w10) := Lib.hid (k9.grown hg10 k9.size (fun q hq => (hown9.lt q hq).1)); have h10 := hown10.some_ (by simp); obtain ⟨g10, c10, rfl⟩ := h10))
      have hb10 := HBW.out
      have hsm : ∀ t ∈ ([] : List Sl) ++ s :: ws, t ∈ ws ∨ t = s := fun t ht => by
        rcases List.mem_append.1 ht with h | h
        · first | exact absurd h (by simp) | exact .inl (List.mem_of_mem_take h)
        · rcases List.mem_cons.1 h with h | h
          · exact .inr h
          · first | exact .inl h | exact .inl (List.mem_of_mem_drop h)
      have hpl := HPL.out
      (try simp only [List.take_zero, List.drop_zero] at hpl)
      have hF : fresh = true := by rw [HFR.out, decide_eq_false hpl.1]; rfl
      have hperm : (([] : List Sl) ++ s :: ws).Perm (s :: ws) := by
        refine List.perm_middle.trans (List.Perm.cons s ?_)
        first | exact List.Perm.refl _ | (rw [List.take_append_drop])
      have hres : PutR w10 base g10 (([] : List Sl) ++ s :: ws).length c10 (insC (ws.map Sl.xs) s.xs) ws s g w.heap.size := by
        refine ⟨([] : List Sl) ++ s :: ws, OwnSls.mono hown10 hbw, fun t ht => ?_, ?_, hpl.2, hsm, .inr (hown10.lt g10 rfl).1⟩
        · rcases hsm t ht with h | rfl
          · exact (O2.out t h).below hb10
          · exact OS.out.below hb10
        · refine (List.Perm.pairwise_iff (fun {x y} h => DisV.symm h) (hperm.map Sl.v)).2 ?_
          rw [List.map_cons]
          exact List.pairwise_cons.2 ⟨fun u hu => by
            obtain ⟨t, ht, rfl⟩ := List.mem_map.1 hu
            exact (OD.out t ht).symm, O3.out⟩
      have HLEN := Lib.hid (show (([] : List Sl) ++ s :: ws).length = ws.length + 1 by simp)
      have HR := Lib.hid hres
      have HF := Lib.hid hF
      clear hres hF hperm hpl hsm hown10
      go_wp2
      go_returns
      refine ⟨g10, _, c10, by rw [HF.out]; rfl, ?_, HBW.out⟩
      have hr := HR.out
      have := HDL.out
      have := HTL.out
      rw [HLEN.out] at hr
      exact hr
    · have i1 : (0 : Int) < i := by omega
      have wr1 : IntKind.i64.wrap ((i : Int) - 1) = ((i - 1 : Nat) : Int) := by rw [IntKind.wrap_i64]; omega
      have n0 : (0 : Int) ≤ ((i - 1 : Nat) : Int) := by omega
      have n1 : ((i - 1 : Nat) : Int) < ws.length := by omega
      obtain ⟨t, ht⟩ := el (xs := ws) (k := i - 1) (by omega)
      have hmt := List.mem_of_getElem? ht
      have q := CELL.out wr hb (i - 1) t ht
      have hls := LESS.out wr hb t hmt
      have HT := Lib.hid ht
      by_cases e : ltC s.xs t.xs
      · rw [decide_eq_true e] at hls
        have HLS := Lib.hid hls
        have HUP := Lib.hid (show ∀ j u, i - 1 ≤ j → ws[j]? = some u → ltC s.xs u.xs from fun j u hj hu => by
          by_cases e' : j = i - 1
          · subst e'
            rw [HT.out] at hu
            obtain rfl := Option.some.inj hu
            exact e
          · exact hup.out j u (by omega) hu)
        clear hls ht e
        go_wp2_with fail
        refine HLS.out.mono ?_
        rintro e w2 ⟨rfl, hb2⟩
        go_wp2
        go_roundw
        case rel => exact ⟨i - 1, by omega, by go_num, HUP, btrans hb hb2⟩
        case measure => simp [intOf]; omega
      · rw [decide_eq_false e] at hls
        have HLS := Lib.hid hls
        have HNL := Lib.hid e
        clear hls ht e
        go_wp2_with fail
        refine HLS.out.mono ?_
        rintro e w2 ⟨rfl, hb2⟩
        have hb22 := btrans hb hb2
        have heq := EQL.out w2 hb22 t hmt
        have q2 := CELL.out w2 hb22 (i - 1) t HT.out
        by_cases e : t.xs = s.xs
        · rw [decide_eq_true e] at heq
          have HEQ := Lib.hid heq
          have hm : s.xs ∈ ws.map Sl.xs := by rw [← e]; exact List.mem_map.2 ⟨t, hmt, rfl⟩
          have HF := Lib.hid (show fresh = false by rw [HFR.out, decide_eq_true hm]; rfl)
          have HI := Lib.hid (show insC (ws.map Sl.xs) s.xs = ws.map Sl.xs by unfold insC; rw [if_pos hm])
          clear heq e hm
          go_wp2_with fail
          refine HEQ.out.mono ?_
          rintro e w3 ⟨rfl, hb3⟩
          go_wp2
          go_returns
          have hb33 := btrans hb22 hb3
          refine ⟨g, ws.length, c, by rw [HF.out]; rfl, ⟨ws, O1.out.below hb33, O2.out.below hb33, O3.out, HI.out.symm, fun u hu => .inl hu, .inl rfl⟩, hb33⟩
        · rw [decide_eq_false e] at heq
          have HEQ := Lib.hid heq
          have HLO := Lib.hid (show ∀ u, 0 < i → ws[i - 1]? = some u → ¬ ltC s.xs u.xs ∧ u.xs ≠ s.xs from fun u _ hu => by
            rw [HT.out] at hu
            obtain rfl := Option.some.inj hu
            exact ⟨HNL.out, e⟩)
          clear heq e
          go_wp2_with fail
          refine HEQ.out.mono ?_
          rintro e w3 ⟨rfl, hb3⟩
          have hb33 := btrans hb22 hb3
          by_cases hic : i < c
          · have ic : (i : Int) < c := by omega
            have HPL := Lib.hid (PLACE.out i hi hup.out HLO.out)
            have z1 : w.heap.size ≤ w3.heap.size := hb33.size
            have k1 := btrans hb33 (kbelow w3 (.cells #[.slice s.A N s.c] 38))
            have ho1 := OwnSls.one w3 w.heap.size z1 s
            rw [HNS.out] at ho1
            have i2 : (i : Int) ≤ ws.length := by omega
            have i3 : (i : Int) ≤ c := by omega
            have i4 : (0 : Int) ≤ i := by omega
            have hdl : (ws.drop i).length = ws.length - i := List.length_drop
            have htl : (ws.take i).length = i := by rw [List.length_take]; omega
            have HDL := Lib.hid hdl
            have HTL := Lib.hid htl
            have hdn : (ws.drop i).length ≤ 1000000 := by rw [hdl]; omega
            have htn : (ws.take i).length ≤ 1000000 := by rw [htl]; omega
            clear hdl htl
            go_wp2_with (first | (at_builtin; (refine wpList_cat_sl _ rfl (.tmp 36) (.tmp 39) rfl w.heap.size (.slice (some ⟨w3.heap.size, 0, none⟩) 1 1) [s] (ws.drop i) rfl ho1 _ _ _ rfl (by have := HDL.out; omega) ((O1.out.below k1).seeDrop i) (fun e => by cases e) (by first | (simp; done) | (simp; omega)) k1.size ?_; intro v7 w7 hown7 hg7 hv7; have k7 : Below w.heap.size w w7 := k1.grown hg7 k1.size (fun q hq => (ho1.lt q hq).1); have k8 := btrans k7 (kbelow w7 (.cells #[] 38)); have ho8 : OwnSls (w7.alloc (.cells #[] 38)) w.heap.size (.slice (some ⟨w7.heap.size, 0, none⟩) 0 0) [] := own_mono (World.ownsRow_made w7 #[] 0 (Nat.le_refl _) (by decide) rfl) k7.size; have h7 := hown7.at_; obtain ⟨A7, c7, rfl, _⟩ := h7)) | (at_builtin; refine wpList_cat_sl _ rfl (.tmp 41) (.tmp 44) rfl w.heap.size (.slice (some ⟨w7.heap.size, 0, none⟩) 0 0) [] (ws.take i) rfl ho8 _ _ _ rfl HTL.out ((O1.out.below k8).seeTake i) (fun e => by cases e) (by first | (simp; done) | (simp; omega)) k8.size ?_; intro v9 w9 hown9 hg9 hv9; have k9 : Below w.heap.size w w9 := k8.grown hg9 k8.size (fun q hq => (ho8.lt q hq).1); rw [List.nil_append] at hown9; have hg7' : OwnSls w9 w.heap.size (.slice A7 ([s] ++ (ws.drop i)).length c7) ([s] ++ (ws.drop i)) := (hown7.below (kbelow w7 (.cells #[] 38))).grow hg9 (fun q hq e => by have := (hown7.lt q hq).2; have := Option.some.inj e; simp at this; omega)) | (at_builtin; refine wpList_cat_sl _ rfl (.tmp 45) (.tmp 46) rfl w.heap.size v9 (ws.take i) ([s] ++ (ws.drop i)) rfl hown9 _ _ _ rfl (by first | (simp; done) | (have := HDL.out; simp; omega)) hg7'.seeA (own_nilok hg7') (by first | (simp; done) | (simp; omega)) k9.size ?_; intro v10 w10 hown10 hg10 hv10; have HBW : Hid (Below w.heap.size w w10) := Lib.hid (k9.grown hg10 k9.size (fun q hq => (hown9.lt q hq).1)); have h10 := hown10.some_ (by simp); obtain ⟨g10, c10, rfl⟩ := h10))
            have hb10 := HBW.out
            have hsm : ∀ t ∈ (ws.take i) ++ s :: (ws.drop i), t ∈ ws ∨ t = s := fun t ht => by
              rcases List.mem_append.1 ht with h | h
              · first | exact absurd h (by simp) | exact .inl (List.mem_of_mem_take h)
              · rcases List.mem_cons.1 h with h | h
                · exact .inr h
                · first | exact .inl h | exact .inl (List.mem_of_mem_drop h)
            have hpl := HPL.out
            (try simp only [List.take_zero, List.drop_zero] at hpl)
            have hF : fresh = true := by rw [HFR.out, decide_eq_false hpl.1]; rfl
            have hperm : ((ws.take i) ++ s :: (ws.drop i)).Perm (s :: ws) := by
              refine List.perm_middle.trans (List.Perm.cons s ?_)
              first | exact List.Perm.refl _ | (rw [List.take_append_drop])
            have hres : PutR w10 base g10 ((ws.take i) ++ s :: (ws.drop i)).length c10 (insC (ws.map Sl.xs) s.xs) ws s g w.heap.size := by
              refine ⟨(ws.take i) ++ s :: (ws.drop i), OwnSls.mono hown10 hbw, fun t ht => ?_, ?_, hpl.2, hsm, .inr (hown10.lt g10 rfl).1⟩
              · rcases hsm t ht with h | rfl
                · exact (O2.out t h).below hb10
                · exact OS.out.below hb10
              · refine (List.Perm.pairwise_iff (fun {x y} h => DisV.symm h) (hperm.map Sl.v)).2 ?_
                rw [List.map_cons]
                exact List.pairwise_cons.2 ⟨fun u hu => by
                  obtain ⟨t, ht, rfl⟩ := List.mem_map.1 hu
                  exact (OD.out t ht).symm, O3.out⟩
            have HLEN := Lib.hid (show (ws.take i ++ s :: ws.drop i).length = i + (ws.length - i + 1) by rw [List.length_append, List.length_cons, HTL.out, HDL.out])
            have HR := Lib.hid hres
            have HF := Lib.hid hF
            clear hres hF hperm hpl hsm hown10
            go_wp2
            go_returns
            refine ⟨g10, _, c10, by rw [HF.out]; rfl, ?_, HBW.out⟩
            have hr := HR.out
            have := HDL.out
            have := HTL.out
            rw [HLEN.out] at hr
            exact hr
          · obtain rfl : i = c := by omega
            have ic : ¬ (i : Int) < i := by omega
            have HPL := Lib.hid (PLACE.out i hi hup.out HLO.out)
            have z1 : w.heap.size ≤ w3.heap.size := hb33.size
            have k1 := btrans hb33 (kbelow w3 (.cells #[.slice s.A N s.c] 38))
            have ho1 := OwnSls.one w3 w.heap.size z1 s
            rw [HNS.out] at ho1
            have i2 : (i : Int) ≤ ws.length := by omega
            have i3 : (i : Int) ≤ i := by omega
            have i4 : (0 : Int) ≤ i := by omega
            have hdl : (ws.drop i).length = ws.length - i := List.length_drop
            have htl : (ws.take i).length = i := by rw [List.length_take]; omega
            have HDL := Lib.hid hdl
            have HTL := Lib.hid htl
            have hdn : (ws.drop i).length ≤ 1000000 := by rw [hdl]; omega
            have htn : (ws.take i).length ≤ 1000000 := by rw [htl]; omega
            clear hdl htl
            go_wp2_with (first | (at_builtin; (refine wpList_cat_sl _ rfl (.tmp 36) (.tmp 39) rfl w.heap.size (.slice (some ⟨w3.heap.size, 0, none⟩) 1 1) [s] (ws.drop i) rfl ho1 _ _ _ rfl (by have := HDL.out; omega) (fun hne => absurd (List.drop_eq_nil_of_le (by omega)) hne) (fun e => by cases e) (by first | (simp; done) | (simp; omega)) k1.size ?_; intro v7 w7 hown7 hg7 hv7; have k7 : Below w.heap.size w w7 := k1.grown hg7 k1.size (fun q hq => (ho1.lt q hq).1); have k8 := btrans k7 (kbelow w7 (.cells #[] 38)); have ho8 : OwnSls (w7.alloc (.cells #[] 38)) w.heap.size (.slice (some ⟨w7.heap.size, 0, none⟩) 0 0) [] := own_mono (World.ownsRow_made w7 #[] 0 (Nat.le_refl _) (by decide) rfl) k7.size; have h7 := hown7.at_; obtain ⟨A7, c7, rfl, _⟩ := h7)) | (at_builtin; refine wpList_cat_sl _ rfl (.tmp 41) (.tmp 44) rfl w.heap.size (.slice (some ⟨w7.heap.size, 0, none⟩) 0 0) [] (ws.take i) rfl ho8 _ _ _ rfl HTL.out ((O1.out.below k8).seeTake i) (fun e => by cases e) (by first | (simp; done) | (simp; omega)) k8.size ?_; intro v9 w9 hown9 hg9 hv9; have k9 : Below w.heap.size w w9 := k8.grown hg9 k8.size (fun q hq => (ho8.lt q hq).1); rw [List.nil_append] at hown9; have hg7' : OwnSls w9 w.heap.size (.slice A7 ([s] ++ (ws.drop i)).length c7) ([s] ++ (ws.drop i)) := (hown7.below (kbelow w7 (.cells #[] 38))).grow hg9 (fun q hq e => by have := (hown7.lt q hq).2; have := Option.some.inj e; simp at this; omega)) | (at_builtin; refine wpList_cat_sl _ rfl (.tmp 45) (.tmp 46) rfl w.heap.size v9 (ws.take i) ([s] ++ (ws.drop i)) rfl hown9 _ _ _ rfl (by first | (simp; done) | (have := HDL.out; simp; omega)) hg7'.seeA (own_nilok hg7') (by first | (simp; done) | (simp; omega)) k9.size ?_; intro v10 w10 hown10 hg10 hv10; have HBW : Hid (Below w.heap.size w w10) := Lib.hid (k9.grown hg10 k9.size (fun q hq => (hown9.lt q hq).1)); have h10 := hown10.some_ (by simp); obtain ⟨g10, c10, rfl⟩ := h10))
            have hb10 := HBW.out
            have hsm : ∀ t ∈ (ws.take i) ++ s :: (ws.drop i), t ∈ ws ∨ t = s := fun t ht => by
              rcases List.mem_append.1 ht with h | h
              · first | exact absurd h (by simp) | exact .inl (List.mem_of_mem_take h)
              · rcases List.mem_cons.1 h with h | h
                · exact .inr h
                · first | exact .inl h | exact .inl (List.mem_of_mem_drop h)
            have hpl := HPL.out
            (try simp only [List.take_zero, List.drop_zero] at hpl)
            have hF : fresh = true := by rw [HFR.out, decide_eq_false hpl.1]; rfl
            have hperm : ((ws.take i) ++ s :: (ws.drop i)).Perm (s :: ws) := by
              refine List.perm_middle.trans (List.Perm.cons s ?_)
              first | exact List.Perm.refl _ | (rw [List.take_append_drop])
            have hres : PutR w10 base g10 ((ws.take i) ++ s :: (ws.drop i)).length c10 (insC (ws.map Sl.xs) s.xs) ws s g w.heap.size := by
              refine ⟨(ws.take i) ++ s :: (ws.drop i), OwnSls.mono hown10 hbw, fun t ht => ?_, ?_, hpl.2, hsm, .inr (hown10.lt g10 rfl).1⟩
              · rcases hsm t ht with h | rfl
                · exact (O2.out t h).below hb10
                · exact OS.out.below hb10
              · refine (List.Perm.pairwise_iff (fun {x y} h => DisV.symm h) (hperm.map Sl.v)).2 ?_
                rw [List.map_cons]
                exact List.pairwise_cons.2 ⟨fun u hu => by
                  obtain ⟨t, ht, rfl⟩ := List.mem_map.1 hu
                  exact (OD.out t ht).symm, O3.out⟩
            have HLEN := Lib.hid (show (ws.take i ++ s :: ws.drop i).length = i + 1 by rw [List.length_append, List.length_cons, HTL.out, HDL.out]; omega)
            have HR := Lib.hid hres
            have HF := Lib.hid hF
            clear hres hF hperm hpl hsm hown10
            go_wp2
            go_returns
            refine ⟨g10, _, c10, by rw [HF.out]; rfl, ?_, HBW.out⟩
            have hr := HR.out
            have := HDL.out
            have := HTL.out
            rw [HLEN.out] at hr
            exact hr
/-! 'l06One': the congruences that are made by one pair, as the reference finds them; 'PairCongruences', on both sides. -/
theorem OwnSS.lit0 (w : World) : OwnSS (w.alloc (.cells #[] 38)) w.heap.size (.slice (some ⟨w.heap.size, 0, none⟩) 0 0) [] :=
  ⟨[], World.ownsRow_made w #[] 0 (Nat.le_refl _) (by decide) rfl, ElsOk.nil _ _, List.Pairwise.nil, rfl⟩
theorem OwnInts.some_ {w : World} {base : Nat} {v : Value} {xs : List Int} (h : OwnInts w base v xs) (hn : xs ≠ []) : ∃ g c, v = .slice (some ⟨g, 0, none⟩) xs.length c := by
  rcases h.2 with ⟨rfl, e⟩ | ⟨g, cap, cur, rfl, _⟩
  · exact absurd (List.eq_nil_of_length_eq_zero e) hn
  · exact ⟨g, cap, rfl⟩
theorem sortC_snoc (l : List (List Int)) (x : List Int) : sortC (l ++ [x]) = insC (sortC l) x := by unfold sortC; rw [List.foldl_append]; rfl
theorem one_cli {N : Nat} {T : Nat → Nat → Nat} {a b : Nat} (ha : a < N) (hb : b < N) : ClI N T true (PairP [[(b : Int), (a : Int)]]) (joinL (idL N) (b : Int) (a : Int)) := by
  have hg : Gen N T true (PairP [[(b : Int), (a : Int)]]) b a := gen_of hb ha (by simp [PairP])
  have e1 : cls (idL N) b = (b : Int) := idL_cls hb
  have e2 : cls (idL N) a = (a : Int) := idL_cls ha
  have hj := sound_join (N := N) (T := T) (both := true) (P := PairP [[(b : Int), (a : Int)]]) (cl := idL N) (x := b) (y := a) (idL_length N) (fun i k hi hk h => by
    have h' : cls (idL N) i = cls (idL N) k := h
    rw [idL_cls hi, idL_cls hk] at h'
    have : i = k := by omega
    subst this
    exact gen_eqv.refl i hi) hb ha hg
  rw [e1, e2] at hj
  refine ⟨by rw [joinL_length, idL_length], hj, fun x y hx hy h => ?_⟩
  have h' : x = b ∧ y = a := by
    unfold PairP at h
    simp at h
    omega
  obtain ⟨rfl, rfl⟩ := h'
  have := join_has (cl := idL N) (x := x) (y := y) (by rw [idL_length]; exact hx) (by rw [idL_length]; exact hy)
  rwa [e1, e2] at this
set_option maxHeartbeats 8000000 in
set_option maxRecDepth 100000 in
theorem l06One_c {rows : List (List Int)} {N : Nat} {T : Nat → Nat → Nat} {A : Option Addr} {c : Nat} {w : World} (ht : TabOk rows N T) (h0 : 0 < N) (hN : N ≤ 300) (h : SeeTab w A rows) :
    Calls Tryz.prog 38 #[.slice A N c] w fun e w' => ∃ v, e = .returned v ∧ OwnSS w' w.heap.size v (pairL N T) ∧ Below w.heap.size w w' := by
  have HCL := Lib.hid (fun (W : World) (hW : Below w.heap.size w W) A' c' b a (hb : b < N) (ha : a < N) (hp : SeeInts W A' (joinL (idL N) (b : Int) (a : Int))) (hA : NilOk A' c') => l06Closed_c A A' c c' (joinL (idL N) (b : Int) (a : Int)) true (PairP [[(b : Int), (a : Int)]]) W ht h0 hN (h.below hW) hp (one_cli ha hb) hA)
  clear h ht
  have own0 : OwnSS (w.alloc (.cells #[] 38)) w.heap.size (.slice (some ⟨w.heap.size, 0, none⟩) 0 0) [] := OwnSS.lit0 w
  have kk0 := kbelow w (.cells #[] 38)
  go_enter Tryz.func38, Tryz.ntmps38
  go_wp2
  go_loopw [4, 3] (fun av v wr => ∃ (a g n c0 : Nat), a ≤ N ∧ av = .int .i64 a ∧ v = .slice (some ⟨g, 0, none⟩) n c0 ∧ OwnSS wr w.heap.size v (sortC (prAll N T a)) ∧ Below w.heap.size w wr) (fun av _ _ => N - (intOf av).toNat)
  case atStart => exact ⟨0, _, _, _, Nat.zero_le _, rfl, rfl, own0, kk0⟩
  case round =>
    clear own0 kk0
    obtain ⟨a, g, n, c0, ha, rfl, rfl, own, hb⟩ := hrel
    have a0 : (0 : Int) ≤ a := by omega
    by_cases hal : a < N
    · have a1 : (a : Int) < N := by omega
      have HSU := Lib.hid (show prAll N T (a + 1) = prAll N T a ++ prTo N T a a from rfl)
      have hpl := prAll_len (N := N) (T := T) a (by omega)
      have hcn := prAll_can (N := N) (T := T) a
      generalize prAll N T a = ys at *
      go_wp2
      go_loopw [5, 3, 6] (fun bv v _ wr => ∃ (b g n c0 : Nat), b ≤ a ∧ bv = .int .i64 b ∧ v = .slice (some ⟨g, 0, none⟩) n c0 ∧ OwnSS wr w.heap.size v (sortC (ys ++ prTo N T a b)) ∧ Below w.heap.size w wr) (fun bv _ _ _ => a - (intOf bv).toNat)
      case atStart => exact ⟨0, _, _, _, Nat.zero_le _, rfl, rfl, by simpa [prTo] using own, hb⟩
      case round =>
        clear own hb
        obtain ⟨b, g, n, c0, hbl, rfl, rfl, own, hb⟩ := hrel
        have b0 : (0 : Int) ≤ b := by omega
        by_cases hblt : b < a
        · have b1 : (b : Int) < a := by omega
          have HSB := Lib.hid (show sortC (ys ++ prTo N T a (b + 1)) = insC (sortC (ys ++ prTo N T a b)) (onePr N T b a) by rw [prTo_succ, ← List.append_assoc, sortC_snoc])
          have hcz : ∀ y ∈ ys ++ prTo N T a b, IsCan y N := fun y hy => by
            rcases List.mem_append.1 hy with hy | hy
            · exact hcn y hy
            · exact prTo_can a b y hy
          have hzl : (ys ++ prTo N T a b).length ≤ 200000 := by rw [List.length_append, prTo_length]; have : a * 300 ≤ 300 * 300 := Nat.mul_le_mul_right _ (by omega); omega
          have hlen : ∀ y ∈ ys ++ prTo N T a b, y.length = N := fun y hy => (hcz y hy).1
          have hasc := sortC_asc hlen
          have hsn := sortC_nodup hlen
          have hsl : (sortC (ys ++ prTo N T a b)).length ≤ 200000 := Nat.le_trans (hsn.length_le_of_subset fun y hy => (mem_sortC hlen).1 hy) hzl
          have hsc : ∀ y ∈ sortC (ys ++ prTo N T a b), IsCan y N := fun y hy => hcz y ((mem_sortC hlen).1 hy)
          obtain ⟨zs, hzs⟩ : ∃ zs, zs = sortC (ys ++ prTo N T a b) := ⟨_, rfl⟩
          rw [← hzs] at own HSB hasc hsl hsc
          have HOC := Lib.hid (show IsCan (onePr N T b a) N from genL_can _)
          have HCLB := Lib.hid (show ∀ (W : World), Below w.heap.size w W → ∀ A' c', SeeInts W A' (joinL (idL N) (b : Int) (a : Int)) → NilOk A' c' → Calls Tryz.prog 65 #[.slice A N c, .slice A' N c', .bool true] W fun e w' => ∃ v, e = .returned v ∧ OwnInts w' W.heap.size v (onePr N T b a) ∧ Below W.heap.size W w' from fun W hW A' c' hp hA => HCL.out W hW A' c' b a (by omega) hal hp hA)
          generalize onePr N T b a = o1 at *
          have hap := l06Apart_c N wr (by omega)
          have HAP := Lib.hid hap
          obtain ⟨ws, h1, h2, h3, h4⟩ := own.ex
          have HASC := Lib.hid hasc
          have HSC := Lib.hid hsc
          have HSL := Lib.hid hsl
          have HOW := Lib.hid (⟨h1, h2, h3, h4⟩ : OwnSls wr w.heap.size (.slice (some ⟨g, 0, none⟩) n c0) ws ∧ ElsOk wr w.heap.size ws ∧ (ws.map Sl.v).Pairwise DisV ∧ ws.map Sl.xs = zs)
          clear hap own hcz hzl hlen hasc hsn hsl hsc hzs h1 h2 h3 h4 hcn
          go_wp2_with fail
          refine HAP.out.mono ?_
          rintro e w2 ⟨v2, rfl, own2, hb2⟩
          obtain ⟨g2, c2, rfl⟩ := own2.some_ (List.length_pos_iff.1 (by rw [idL_length]; exact h0))
          have hg2 := own2.lt g2 rfl
          have hjn := l06Join_c g2 c2 wr.heap.size (idL N) (b : Int) (a : Int) w2 own2 (by rw [idL_length]; omega)
          rw [idL_length] at hjn ⊢
          have HJN := Lib.hid hjn
          clear hjn own2
          go_wp2_with fail
          refine HJN.out.mono ?_
          rintro e w3 ⟨rfl, own3, hk3⟩
          have hb23 : Below wr.heap.size wr w3 := hb2.trans (hk3.below hb2.size (fun k hk => by omega))
          have hcl := HCLB.out w3 (btrans hb hb23) (some ⟨g2, 0, none⟩) c2 own3.see' (fun e => by cases e)
          have HCLX := Lib.hid hcl
          clear hcl own3
          go_wp2_with fail
          refine HCLX.out.mono ?_
          rintro e w4 ⟨v4, rfl, own4, hb4⟩
          obtain ⟨A4, c4, rfl, _⟩ := own4.see
          have hb34 := btrans hb23 hb4
          have ol : o1.length = N := HOC.out.1
          have h1 := HOW.out.1.below hb34
          have hnl : n = ws.length := own_slice_len (show World.ownsRow _ _ _ _ (.slice (some ⟨g, 0, none⟩) n c0) _ _ from h1)
          have hpt := l06Put_c (N := N) (base := w.heap.size) (g := g) (c := c0) (ws := ws) (s := ⟨A4, c4, o1⟩) w4 (hnl ▸ h1) (HOW.out.2.1.below hb34) HOW.out.2.2.1 ((OwnInts.mono own4 (Nat.le_trans hb.size hb23.size))) (fun t ht k hk hk' => by
            have x1 := (HOW.out.2.1 t ht).lt k hk
            have x2 := own4.lt k hk'
            have := hb23.size
            omega) (fun t ht => HSC.out _ (by rw [← HOW.out.2.2.2]; exact List.mem_map.2 ⟨t, ht, rfl⟩)) HOC.out (by rw [HOW.out.2.2.2]; exact HASC.out) (by have := HSL.out; rw [← HOW.out.2.2.2, List.length_map] at this; omega) (Nat.le_trans (btrans hb hb34).size (Nat.le_refl _)) h0 hN
          rw [HOW.out.2.2.2, ← hnl] at hpt
          have HPT := Lib.hid hpt
          rw [ol]
          clear hpt h1 ol own4 hnl
          go_wp2_with fail
          refine HPT.out.mono ?_
          rintro e w5 ⟨g5, n5, c5, rfl, own5, hb5⟩
          go_wp2
          go_roundw
          case rel => exact ⟨b + 1, g5, n5, c5, by omega, by go_num, rfl, by rw [HSB.out]; exact own5.ss, btrans (btrans hb hb34) hb5⟩
          case measure => simp [intOf]; omega
        · have eb : b = a := by omega
          subst eb
          have nlt : ¬ (b : Int) < b := by omega
          have HO := Lib.hid own
          clear own hblt
          go_wp2
          go_roundw
          case rel => exact ⟨b + 1, g, n, c0, by omega, by go_num, rfl, by rw [HSU.out]; exact HO.out, hb⟩
          case measure => simp [intOf]; omega
    · have ea : a = N := by omega
      subst ea
      have nlt : ¬ (a : Int) < a := by omega
      have HO := Lib.hid own
      clear own
      go_wp2
      go_returns
      exact ⟨_, rfl, HO.out, hb⟩
/-! 'PairCongruences', on both sides. -/
noncomputable def RPairCongruences (ms : List Mp) : List (List Int) × Int := if pcC 30 ms = 0 then (pairL (elsOf ms).length (mpl (elsOf ms)), 0) else ([], pcC 30 ms)
theorem prAll_sq {N : Nat} {T : Nat → Nat → Nat} : ∀ a, (prAll N T a).length ≤ a * a
  | 0 => Nat.le_refl _
  | a + 1 => by
    have := prAll_sq (N := N) (T := T) a
    show (prAll N T a ++ prTo N T a a).length ≤ _
    rw [List.length_append, prTo_length]
    have : (a + 1) * (a + 1) = a * a + a + a + 1 := by rw [Nat.add_mul, Nat.mul_add]; omega
    omega
theorem pairL_le {N : Nat} {T : Nat → Nat → Nat} (h : N ≤ 30) : (pairL N T).length ≤ 900 := by
  have hl : ∀ y ∈ prAll N T N, y.length = N := fun y hy => (prAll_can N y hy).1
  have h1 := (sortC_nodup hl).length_le_of_subset fun y hy => (mem_sortC hl).1 hy
  have h2 := prAll_sq (N := N) (T := T) N
  have h3 : N * N ≤ 30 * 30 := Nat.mul_le_mul h h
  unfold pairL
  omega
theorem rows_len {N : Nat} {L : List (List Int)} (h : N ≤ 30) (hl : L.length ≤ 1000) (hc : ∀ y ∈ L, y.length = N) : L.length ≤ 1000 ∧ (∀ x ∈ L, x.length ≤ 2097152) ∧ total L ≤ 4294967296 := by
  refine ⟨hl, fun x hx => by rw [hc x hx]; omega, ?_⟩
  have := total_le (B := 30) L (fun r hr => by rw [hc r hr]; omega)
  omega
theorem RPairCongruences_len (ms : List Mp) : (RPairCongruences ms).1.length ≤ 1000 ∧ (∀ x ∈ (RPairCongruences ms).1, x.length ≤ 2097152) ∧ total (RPairCongruences ms).1 ≤ 4294967296 := by
  unfold RPairCongruences
  split
  · rename_i h
    have hN := (TabR.of h).le
    refine rows_len hN ?_ fun y hy => (pairL_can y hy).1
    have := pairL_le (T := mpl (elsOf ms)) hN
    show (pairL _ _).length ≤ 1000
    omega
  · exact ⟨by simp, fun x hx => by simp at hx, by simp [total]⟩
set_option maxHeartbeats 4000000 in
theorem implPairCongruences_l {A : Option Addr} {c : Nat} {ms : List Mp} {w : World} (h : SeeMaps w A ms) (hn : ms.length ≤ 2097152) (hA : NilOk A c) :
    Calls Tryz.prog 10 #[.slice A ms.length c] w fun e w' => ∃ v, e = .returned (.tuple #[v, .int .i64 (RPairCongruences ms).2]) ∧ OwnSS w' w.heap.size v (RPairCongruences ms).1 ∧ Below w.heap.size w w' := by
  have hpc := paired_c (c := c) h hn hA
  have HPC := Lib.hid hpc
  obtain ⟨r, hr⟩ : ∃ r, r = RPairCongruences ms := ⟨_, rfl⟩
  rw [← hr]
  have HR := Lib.hid hr
  clear hpc hr h hA
  go_enter Tryz.func10, Tryz.ntmps10
  go_wp2_with fail
  refine HPC.out.mono ?_
  rintro e w1 hpost
  rcases hpost with ⟨hc, rfl, hb1⟩ | ⟨hc, v, rfl, own, hb1⟩
  · have E1 := Lib.hid (show r = ([], pcC 30 ms) by rw [HR.out]; unfold RPairCongruences; rw [if_neg hc])
    have d : (pcC 30 ms != 0) = true := bne_iff_ne.2 hc
    clear hc
    go_wp2
    go_returns
    rw [E1.out]
    exact ⟨_, rfl, OwnSS.nil _ _, hb1⟩
  · have E1 := Lib.hid (show r = (pairL (elsOf ms).length (mpl (elsOf ms)), 0) by rw [HR.out]; unfold RPairCongruences; rw [if_pos hc])
    have htr := TabR.of hc
    have hok := htr.tab
    have hpos := htr.pos
    have hle := htr.le
    obtain ⟨A1, c1, rfl, _⟩ := own.see
    have htab := own.tab
    rw [tabOf_length]
    clear hc own HR htr
    generalize tabOf (elsOf ms) = rows at *
    generalize mpl (elsOf ms) = T at *
    generalize (elsOf ms).length = N at *
    have hbp := byPairs_c (c := c1) hok hpos (by omega) htab
    have HBP := Lib.hid hbp
    clear hbp hok htab
    go_wp2_with fail
    refine HBP.out.mono ?_
    rintro e w2 ⟨v2, rfl, own2, hb2⟩
    obtain ⟨A2, c2, rfl, _⟩ := own2.see
    have HO := Lib.hid own2
    clear own2
    go_wp2
    go_returns
    rw [E1.out]
    exact ⟨_, rfl, HO.out.mono hb1.size, btrans hb1 hb2⟩
set_option maxHeartbeats 4000000 in
theorem specPairCongruences_l {A : Option Addr} {c : Nat} {ms : List Mp} {w : World} (h : SeeMaps w A ms) (hn : ms.length ≤ 2097152) (hA : NilOk A c) :
    Calls Tryz.prog 8 #[.slice A ms.length c] w fun e w' => ∃ v, e = .returned (.tuple #[v, .int .i64 (RPairCongruences ms).2]) ∧ OwnSS w' w.heap.size v (RPairCongruences ms).1 ∧ Below w.heap.size w w' := by
  have hpc := l06Given_c (c := c) (most := 30) h hn (by omega)
  have HPC := Lib.hid hpc
  obtain ⟨r, hr⟩ : ∃ r, r = RPairCongruences ms := ⟨_, rfl⟩
  rw [← hr]
  have HR := Lib.hid hr
  clear hpc hr h hA
  go_enter Tryz.func8, Tryz.ntmps8
  go_wp2_with fail
  refine HPC.out.mono ?_
  rintro e w1 hpost
  rcases hpost with ⟨hc, rfl, hb1⟩ | ⟨hc, v, rfl, own, hb1⟩
  · have E1 := Lib.hid (show r = ([], pcC 30 ms) by rw [HR.out]; unfold RPairCongruences; rw [if_neg hc])
    have d : (pcC 30 ms != 0) = true := bne_iff_ne.2 hc
    clear hc
    go_wp2
    go_returns
    rw [E1.out]
    exact ⟨_, rfl, OwnSS.nil _ _, hb1⟩
  · have E1 := Lib.hid (show r = (pairL (elsOf ms).length (mpl (elsOf ms)), 0) by rw [HR.out]; unfold RPairCongruences; rw [if_pos hc])
    have htr := TabR.of hc
    have hok := htr.tab
    have hpos := htr.pos
    have hle := htr.le
    obtain ⟨A1, c1, rfl, _⟩ := own.see
    have htab := own.tab
    rw [tabOf_length]
    clear hc own HR htr
    generalize tabOf (elsOf ms) = rows at *
    generalize mpl (elsOf ms) = T at *
    generalize (elsOf ms).length = N at *
    have hbp := l06One_c (c := c1) hok hpos (by omega) htab
    have HBP := Lib.hid hbp
    clear hbp hok htab
    go_wp2_with fail
    refine HBP.out.mono ?_
    rintro e w2 ⟨v2, rfl, own2, hb2⟩
    obtain ⟨A2, c2, rfl, _⟩ := own2.see
    have HO := Lib.hid own2
    clear own2
    go_wp2
    go_returns
    rw [E1.out]
    exact ⟨_, rfl, HO.out.mono hb1.size, btrans hb1 hb2⟩
end Go.Proofs.YtjepmbjneccagaaGreat
