/- Rows of rows of numbers that are a call's own, each in a block of its own: 'eqInt64SS', 'markInt64SS', 'heldInt64SS'. No condition. -/
import Derived.Test.YthadgdmooacccaaSls
import Derived.Test.YthadgdmooacccaaLawKit
import Derived.Test.YthadgdmooacccaaEq
namespace Go.Proofs.Ythadgdmooacccaa
set_option linter.unusedSimpArgs false
set_option linter.unusedVariables false
set_option linter.unusedSectionVars false
open Go.RowKit
def DisV (u v : Value) : Prop := ∀ k, u.ownBlock = some k → v.ownBlock ≠ some k
theorem DisV.symm {u v : Value} (h : DisV u v) : DisV v u := fun k h1 h2 => h k h2 h1
structure OwnSS (w : World) (base : Nat) (v : Value) (vals : List (List Int)) : Prop where
  ex : ∃ ws : List Sl, OwnSls w base v ws ∧ ElsOk w base ws ∧ (ws.map Sl.v).Pairwise DisV ∧ ws.map Sl.xs = vals
section
variable {w w' : World} {base base' : Nat} {v : Value} {vals : List (List Int)}
theorem OwnSS.keep {S : Nat → Prop} (h : OwnSS w base v vals) (hs : ∀ k, base ≤ k ∧ k < w.heap.size → S k) (hk : Keep S w w') : OwnSS w' base v vals := by
  obtain ⟨ws, h1, h2, h3, h4⟩ := h.ex
  exact ⟨ws, h1.keep (fun k hk' => hs k (h1.lt k hk')) hk, fun s hm => (h2 s hm).keep (fun k hk' => hs k ((h2 s hm).lt k hk')) hk, h3, h4⟩
theorem OwnSS.lt (_ : OwnSS w base v vals) : ∀ k, base ≤ k ∧ k < w.heap.size → base ≤ k ∧ k < w.heap.size := fun _ h => h
theorem OwnSS.below (h : OwnSS w base v vals) (hb : Below w.heap.size w w') : OwnSS w' base v vals := h.keep (S := fun _ => True) (fun _ _ => trivial) (kb hb)
theorem OwnSS.mono (h : OwnSS w base v vals) (hb : base' ≤ base) : OwnSS w base' v vals := by
  obtain ⟨ws, h1, h2, h3, h4⟩ := h.ex
  exact ⟨ws, h1.mono hb, fun s hm => (h2 s hm).mono hb, h3, h4⟩
theorem OwnSS.see (h : OwnSS w base v vals) : ∃ A c, v = .slice A vals.length c ∧ True := by
  obtain ⟨ws, h1, h2, h3, h4⟩ := h.ex
  obtain ⟨A, c, e, _⟩ := h1.at_
  exact ⟨A, c, by rw [e, ← h4, List.length_map], trivial⟩
theorem OwnSS.nil (w : World) (base : Nat) : OwnSS w base (.slice none 0 0) [] := ⟨[], World.ownsRow_nil _ _ _ _, ElsOk.nil _ _, List.Pairwise.nil, rfl⟩
end
set_option maxHeartbeats 1000000 in
/-- two rows of the same values are equal -/
theorem eqInt64SS_c (A A' : Option Addr) (c c' base base' : Nat) (xs : List (List Int)) (w : World) (h : OwnSS w base (.slice A xs.length c) xs) (h' : OwnSS w base' (.slice A' xs.length c') xs) (hn : xs.length ≤ 2097152) (hl : ∀ x ∈ xs, x.length ≤ 2097152) :
    Calls Try.prog 39 #[.slice A xs.length c, .slice A' xs.length c'] w fun e w' => e = .returned (.bool true) ∧ Below w.heap.size w w' := by
  obtain ⟨ws, h1, h2, h3, h4⟩ := h.ex
  obtain ⟨us, k1, k2, k3, k4⟩ := h'.ex
  have lw : ws.length = xs.length := by have := congrArg List.length h4; simpa using this
  have lu : us.length = xs.length := by have := congrArg List.length k4; simpa using this
  have H1 := Lib.hid h1
  have H2 := Lib.hid h2
  have H4 := Lib.hid h4
  have K1 := Lib.hid k1
  have K2 := Lib.hid k2
  have K4 := Lib.hid k4
  have HL := Lib.hid hl
  clear h h' h1 h2 h3 h4 k1 k2 k3 k4 hl
  go_enter Try.func39, Try.ntmps39
  go_wp2
  go_loopw [5] (fun i wr => ∃ k : Nat, k ≤ xs.length ∧ i = .int .i64 k ∧ Below w.heap.size w wr) (fun i _ => xs.length - (intOf i).toNat)
  case atStart => exact ⟨0, Nat.zero_le _, rfl, Below.refl _ _⟩
  case round =>
    obtain ⟨k, hk, rfl, hb⟩ := hrel
    by_cases hlt : k < xs.length
    · obtain ⟨s, hs⟩ := el (xs := ws) (k := k) (by omega)
      obtain ⟨u, hu⟩ := el (xs := us) (k := k) (by omega)
      have e1 := congrArg (fun l : List (List Int) => l[k]?) (H4.out.trans K4.out.symm)
      simp only [List.getElem?_map, hs, hu, Option.map_some] at e1
      have exs : s.xs = u.xs := Option.some.inj e1
      have hsl : s.xs.length ≤ 2097152 := HL.out _ (by rw [← H4.out]; exact List.mem_map.2 ⟨s, List.mem_of_getElem? hs, rfl⟩)
      obtain ⟨Aw, cw, ew, gw⟩ := H1.out.at_
      obtain ⟨Au, cu, eu, gu⟩ := K1.out.at_
      obtain ⟨bw, rfl, qw⟩ := gw k s hs
      obtain ⟨bu, rfl, qu⟩ := gu k u hu
      simp only [Value.slice.injEq] at ew eu
      obtain ⟨rfl, -, -⟩ := ew
      obtain ⟨rfl, -, -⟩ := eu
      have es := H2.out s (List.mem_of_getElem? hs)
      have eu := K2.out u (List.mem_of_getElem? hu)
      unfold Sl.v at qw qu es eu
      rw [← exs] at qu eu
      have Q := bwcell (bcell hb qw)
      have Q' := bwcell (bcell hb qu)
      have S := (es.see'.below hb).bw
      have S' := (eu.see'.below hb).bw
      have l0 : (0 : Int) ≤ k := by omega
      have l1 : (k : Int) < xs.length := by omega
      generalize s.xs = zs at *
      clear hs hu e1 exs gw gu qw qu es eu lw lu
      go_wp2
      refine wp_region_bw (by kernel_rfl) (by kernel_rfl) ?_
      repeat go_big_quiet_step ((go_at_call 20; exact Calls.bw _ (valB (eqInt64S_c _ _ _ _ zs zs _ hsl (S _) (S' _)) (decide_eq_true rfl))))
      refine wpQuiet_nil ?_
      rintro w2 ⟨⟨w2x, hb2⟩, rfl⟩
      go_wp2
      go_roundw
      case rel => exact ⟨k + 1, by omega, by go_num, btrans hb hb2⟩
      case measure => simp [intOf]; omega
    · obtain rfl : k = xs.length := by omega
      go_wp2
      go_returns
      exact ⟨rfl, hb⟩
/-! ### Marks -/
def total (xs : List (List Int)) : Nat := (xs.map List.length).sum
def markSS (k : Int) : List (List Int) → List (List Int)
  | [] => []
  | x :: xs => markL k x.length :: markSS (k + x.length) xs
theorem markSS_length : ∀ (k : Int) (xs : List (List Int)), (markSS k xs).length = xs.length
  | _, [] => rfl
  | k, x :: xs => by rw [markSS, List.length_cons, markSS_length, List.length_cons]
theorem total_cons (x : List Int) (xs : List (List Int)) : total (x :: xs) = x.length + total xs := by simp [total]
theorem total_take : ∀ (xs : List (List Int)) (k : Nat) (x : List Int), xs[k]? = some x → total (xs.take (k + 1)) = total (xs.take k) + x.length
  | [], k, x, h => by simp at h
  | y :: ys, 0, x, h => by simp at h; subst h; simp [total]
  | y :: ys, k + 1, x, h => by
    rw [List.take_succ_cons, List.take_succ_cons, total_cons, total_cons, total_take ys k x (by simpa using h)]
    omega
theorem total_take_le : ∀ (xs : List (List Int)) (k : Nat), total (xs.take k) ≤ total xs
  | [], k => by simp
  | y :: ys, 0 => by simp [total]
  | y :: ys, k + 1 => by
    rw [List.take_succ_cons, total_cons, total_cons]
    have := total_take_le ys k
    omega
theorem markSS_snoc : ∀ (k : Int) (xs : List (List Int)) (i : Nat) (x : List Int), xs[i]? = some x → markSS k (xs.take (i + 1)) = markSS k (xs.take i) ++ [markL (k + total (xs.take i)) x.length]
  | k, [], i, x, h => by simp at h
  | k, y :: ys, 0, x, h => by simp at h; subst h; simp [markSS, total]
  | k, y :: ys, i + 1, x, h => by
    rw [List.take_succ_cons, List.take_succ_cons, markSS, markSS, markSS_snoc _ ys i x (by simpa using h), total_cons, List.cons_append]
    rw [show k + (y.length : Int) + (total (ys.take i) : Int) = k + ((y.length + total (ys.take i) : Nat) : Int) by omega]
theorem markSS_get (k : Int) (xs : List (List Int)) (i : Nat) (x : List Int) (h : xs[i]? = some x) : (markSS k xs)[i]? = some (markL (k + total (xs.take i)) x.length) := by
  induction xs generalizing k i with
  | nil => simp at h
  | cons y ys ih =>
    cases i with
    | zero => simp at h; subst h; simp [markSS, total]
    | succ i =>
      rw [markSS, List.getElem?_cons_succ, ih _ i (by simpa using h), List.take_succ_cons, total_cons]
      rw [show k + (y.length : Int) + (total (ys.take i) : Int) = k + ((y.length + total (ys.take i) : Nat) : Int) by omega]
theorem disV_at {ws : List Sl} (h : (ws.map Sl.v).Pairwise DisV) {i j : Nat} {s t : Sl} (hi : ws[i]? = some s) (hj : ws[j]? = some t) (hne : i ≠ j) : DisV s.v t.v := by
  obtain ⟨li, ei⟩ := List.getElem?_eq_some_iff.1 hi
  obtain ⟨lj, ej⟩ := List.getElem?_eq_some_iff.1 hj
  have H := List.pairwise_iff_getElem.1 h
  rcases Nat.lt_or_gt_of_ne hne with hlt | hlt
  · have := H i j (by simpa using li) (by simpa using lj) hlt
    simpa [ei, ej] using this
  · have := H j i (by simpa using lj) (by simpa using li) hlt
    exact DisV.symm (by simpa [ei, ej] using this)
set_option maxHeartbeats 1000000 in
theorem markInt64SS_c (A : Option Addr) (c base : Nat) (xs : List (List Int)) (w : World) (h : OwnSS w base (.slice A xs.length c) xs) (hn : xs.length ≤ 2097152) (hl : ∀ x ∈ xs, x.length ≤ 2097152) (ht : total xs ≤ 4294967296) :
    Calls Try.prog 40 #[.slice A xs.length c, .int .i64 1] w fun e w' => e = .returned (.int .i64 (1 + total xs : Int)) ∧ OwnSS w' base (.slice A xs.length c) (markSS 1 xs) ∧ Keep (fun k => k < base) w w' := by
  have HL := Lib.hid hl
  clear hl
  go_enter Try.func40, Try.ntmps40
  go_wp2
  go_loopw [5, 1] (fun i q wr => ∃ k : Nat, k ≤ xs.length ∧ i = .int .i64 k ∧ q = .int .i64 (1 + total (xs.take k) : Int) ∧ OwnSS wr base (.slice A xs.length c) (markSS 1 (xs.take k) ++ xs.drop k) ∧ Keep (fun k => k < base) w wr) (fun i _ _ => xs.length - (intOf i).toNat)
  case atStart => exact ⟨0, Nat.zero_le _, rfl, by simp [total], by simpa [markSS] using h, Keep.refl _ _⟩
  case round =>
    clear h
    obtain ⟨k, hk, rfl, rfl, ho, hK⟩ := hrel
    have htk := total_take_le xs k
    obtain ⟨ws, h1, h2, h3, h4⟩ := ho.ex
    have lw : ws.length = xs.length := by
      have := congrArg List.length h4
      rw [List.length_map, List.length_append, markSS_length, List.length_take, List.length_drop] at this
      omega
    by_cases hlt : k < xs.length
    · obtain ⟨x, hx⟩ := el hlt
      obtain ⟨s, hs⟩ := el (xs := ws) (k := k) (by omega)
      have lm : (markSS 1 (xs.take k)).length = k := by rw [markSS_length, List.length_take]; omega
      have exs : s.xs = x := by
        have e1 := congrArg (fun l : List (List Int) => l[k]?) h4
        simp only [List.getElem?_map, hs, Option.map_some] at e1
        rw [List.getElem?_append_right (by omega), lm, Nat.sub_self, List.getElem?_drop, Nat.add_zero, hx] at e1
        exact Option.some.inj e1
      have hsl : s.xs.length ≤ 2097152 := by rw [exs]; exact HL.out _ (List.mem_of_getElem? hx)
      obtain ⟨Aw, cw, ew, gw⟩ := h1.at_
      obtain ⟨bw, rfl, qw⟩ := gw k s hs
      simp only [Value.slice.injEq] at ew
      obtain ⟨rfl, -, rfl⟩ := ew
      have es := h2 s (List.mem_of_getElem? hs)
      unfold Sl.v at qw es
      have l0 : (0 : Int) ≤ k := by omega
      have l1 : (k : Int) < xs.length := by omega
      have t1 := total_take xs k x hx
      have t2 := total_take_le xs (k + 1)
      have hm := markInt64S_c s.A s.c s.xs (1 + total (xs.take k) : Int) base wr es (by omega) (by omega) (by omega)
      have HNX : Hid (∀ w2, OwnInts w2 base (.slice s.A s.xs.length s.c) (markL (1 + total (xs.take k) : Int) s.xs.length) → Keep (NotOf s.A) wr w2 → OwnSS w2 base (.slice (some ⟨bw, 0, none⟩) xs.length c) (markSS 1 (xs.take (k + 1)) ++ xs.drop (k + 1)) ∧ Keep (fun k => k < base) w w2) := Lib.hid fun w2 hown2 hk2 => by
        have hv2 : (⟨s.A, s.c, markL (1 + total (xs.take k) : Int) s.xs.length⟩ : Sl).v = s.v := by simp [Sl.v, markL_length]
        have hmv : (ws.set k ⟨s.A, s.c, markL (1 + total (xs.take k) : Int) s.xs.length⟩).map Sl.v = ws.map Sl.v := by
          rw [List.map_set, hv2]
          refine List.ext_getElem? fun j => ?_
          by_cases e : k = j
          · subst e
            rw [List.getElem?_set_self (by simpa using (List.getElem?_eq_some_iff.1 hs).1), List.getElem?_map, hs]
            rfl
          · rw [List.getElem?_set_ne e]
        refine ⟨⟨ws.set k ⟨s.A, s.c, markL (1 + total (xs.take k) : Int) s.xs.length⟩, ?_, fun t ht => ?_, by rw [hmv]; exact h3, ?_⟩, hK.trans (hk2.mono fun i hi hlt a ha e => ?_)⟩
        · unfold OwnSls
          rw [hmv, List.length_set]
          refine OwnSls.keep h1 (S := NotOf s.A) (fun i hi a ha e => ?_) hk2
          exact own_ne es h1 (by decide) a.block (by rw [ha]; rfl) (by rw [hi, e])
        · obtain ⟨j, hj⟩ := List.getElem?_of_mem ht
          by_cases e : k = j
          · subst e
            rw [List.getElem?_set_self (List.getElem?_eq_some_iff.1 hs).1] at hj
            obtain rfl := Option.some.inj hj
            rw [hv2]
            exact hown2
          · rw [List.getElem?_set_ne e] at hj
            refine (h2 t (List.mem_of_getElem? hj)).keep (S := NotOf s.A) (fun i hi a ha e2 => ?_) hk2
            exact disV_at h3 hs hj e i (by unfold Sl.v; rw [ha, e2]; rfl) hi
        · rw [markSS_snoc 1 xs k x hx, List.map_set, h4, List.set_append_right _ _ (by omega), lm, Nat.sub_self, List.append_assoc]
          congr 1
          rw [List.drop_eq_getElem_cons hlt, List.set_cons_zero, exs]
          rfl
        · have := (OwnInts.lt es i (by rw [ha, e]; rfl)).1
          omega
      have HTT := Lib.hid t1
      rw [exs] at hm hsl
      have EXS := Lib.hid exs
      have HM := Lib.hid hm
      have HKK := Lib.hid hK
      rw [exs] at qw es
      have HES := Lib.hid es
      clear hs h1 h2 h3 h4 gw ho t1 exs lm hm hx hK lw es
      rw [show xs.length = xs.length from rfl]
      go_wp2_with fail
      refine HM.out.mono ?_
      rintro e w2 ⟨rfl, hown2, hk2⟩
      obtain ⟨n1, n2⟩ := HNX.out w2 (by rw [EXS.out]; exact hown2) hk2
      go_wp2
      go_roundw
      case rel =>
        exact ⟨k + 1, by omega, by go_num, by rw [HTT.out]; go_num, n1, n2⟩
      case measure => simp [intOf]; omega
    · obtain rfl : k = xs.length := by omega
      have htl : total (xs.take xs.length) = total xs := by rw [List.take_length]
      rw [List.take_length, List.drop_length, List.append_nil] at ho
      rw [htl]
      clear h1 h2 h3 h4 lw htl htk
      go_wp2
      go_returns
      exact ⟨rfl, ho, hK⟩
set_option maxHeartbeats 1000000 in
theorem heldInt64SS_c (A : Option Addr) (c base : Nat) (xs : List (List Int)) (w : World) (h : OwnSS w base (.slice A xs.length c) (markSS 1 xs)) (hn : xs.length ≤ 2097152) (hl : ∀ x ∈ xs, x.length ≤ 2097152) (ht : total xs ≤ 4294967296) :
    Calls Try.prog 41 #[.slice A xs.length c, .int .i64 1] w fun e w' => e = .returned (.int .i64 (1 + total xs : Int)) ∧ Below w.heap.size w w' := by
  have HL := Lib.hid hl
  have HO := Lib.hid h
  clear hl h
  go_enter Try.func41, Try.ntmps41
  go_wp2
  go_loopw [5, 1] (fun i q wr => ∃ k : Nat, k ≤ xs.length ∧ i = .int .i64 k ∧ q = .int .i64 (1 + total (xs.take k) : Int) ∧ Below w.heap.size w wr) (fun i _ _ => xs.length - (intOf i).toNat)
  case atStart => exact ⟨0, Nat.zero_le _, rfl, by simp [total], Below.refl _ _⟩
  case round =>
    obtain ⟨k, hk, rfl, rfl, hb⟩ := hrel
    have htk := total_take_le xs k
    by_cases hlt : k < xs.length
    · obtain ⟨ws, h1, h2, h3, h4⟩ := HO.out.ex
      have lw : ws.length = xs.length := by
        have := congrArg List.length h4
        rw [List.length_map, markSS_length] at this
        exact this
      obtain ⟨x, hx⟩ := el hlt
      obtain ⟨s, hs⟩ := el (xs := ws) (k := k) (by omega)
      have exs : s.xs = markL (1 + total (xs.take k) : Int) x.length := by
        have e1 := congrArg (fun l : List (List Int) => l[k]?) h4
        simp only [List.getElem?_map, hs, Option.map_some] at e1
        rw [markSS_get 1 xs k x hx] at e1
        exact Option.some.inj e1
      have hxl := HL.out _ (List.mem_of_getElem? hx)
      obtain ⟨Aw, cw, ew, gw⟩ := h1.at_
      obtain ⟨bw, rfl, qw⟩ := gw k s hs
      simp only [Value.slice.injEq] at ew
      obtain ⟨rfl, -, rfl⟩ := ew
      have es := h2 s (List.mem_of_getElem? hs)
      unfold Sl.v at qw es
      rw [exs, markL_length] at qw es
      have q2 := bcell hb qw
      have l0 : (0 : Int) ≤ k := by omega
      have l1 : (k : Int) < xs.length := by omega
      have t1 := total_take xs k x hx
      have t2 := total_take_le xs (k + 1)
      have hm := heldInt64S_c s.A s.c x.length (1 + total (xs.take k) : Int) wr (es.below hb).see' (by omega) (by omega) (by omega)
      have HTT := Lib.hid t1
      have HM := Lib.hid hm
      have hneg : ¬ ((1 + total (xs.take k) : Int) + x.length < 0) := by omega
      clear hs h1 h2 h3 h4 gw t1 exs hm hx lw es qw
      go_wp2_with fail
      refine HM.out.mono ?_
      rintro e w2 ⟨rfl, hb2⟩
      go_wp2
      go_roundw
      case rel => exact ⟨k + 1, by omega, by go_num, by rw [HTT.out]; go_num, btrans hb hb2⟩
      case measure => simp [intOf]; omega
    · obtain rfl : k = xs.length := by omega
      have htl : total (xs.take xs.length) = total xs := by rw [List.take_length]
      rw [htl]
      clear htl htk
      go_wp2
      go_returns
      exact ⟨rfl, hb⟩
theorem total_le {B : Nat} : ∀ (rows : List (List Int)), (∀ r ∈ rows, r.length ≤ B) → total rows ≤ rows.length * B
  | [], _ => by simp [total]
  | r :: t, h => by
    have := total_le t (fun x hx => h x (by simp [hx]))
    have h1 := h r (by simp)
    rw [total_cons, List.length_cons, Nat.add_mul]
    omega
end Go.Proofs.Ythadgdmooacccaa
