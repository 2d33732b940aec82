/- Rows of rows as they come in: their sizes, their copies, their marks. No condition. -/
import Derived.Test.YtjepmbjneccagaaTab
import Derived.Test.YtjepmbjneccagaaLawKit
namespace Go.Proofs.Ytjepmbjneccagaa
set_option linter.unusedSimpArgs false
set_option linter.unusedVariables false
set_option linter.unusedSectionVars false
open Go.RowKit
/-! ### Sizes -/
def szRows : List (List Int) → Int → Int
  | [], l => l
  | x :: xs, l => if l - x.length < 0 then -1 else szRows xs (l - x.length)
def szSS (rows : List (List Int)) (left : Int) : Int := if left - rows.length < 0 then -1 else szRows rows (left - rows.length)
theorem szRows_ok : ∀ {rows : List (List Int)} {l : Int}, 0 ≤ l → ¬ szRows rows l < 0 → (∀ r ∈ rows, (r.length : Int) ≤ l) ∧ (total rows : Int) ≤ l
  | [], l, h0, _ => ⟨fun r hr => (by cases hr), by simpa [total] using h0⟩
  | x :: xs, l, h0, h => by
    unfold szRows at h
    split at h
    · exact absurd (by decide : (-1 : Int) < 0) h
    · rename_i hx
      obtain ⟨a1, a2⟩ := szRows_ok (l := l - x.length) (by omega) h
      refine ⟨fun r hr => ?_, by rw [total_cons]; omega⟩
      rcases List.mem_cons.1 hr with rfl | hr
      · omega
      · have := a1 r hr; omega
theorem szSS_ok {rows : List (List Int)} {left : Int} (h : ¬ szSS rows left < 0) (h1 : left ≤ 1048576) : rows.length ≤ 1048576 ∧ (∀ r ∈ rows, r.length ≤ 1048576) ∧ total rows ≤ 1048576 := by
  unfold szSS at h
  split at h
  · exact absurd (by decide : (-1 : Int) < 0) h
  · rename_i hx
    obtain ⟨a1, a2⟩ := szRows_ok (by omega) h
    exact ⟨by omega, fun r hr => by have := a1 r hr; omega, by omega⟩
theorem szRows_neg {x : List Int} {xs : List (List Int)} {l : Int} (h : l - x.length < 0) : szRows (x :: xs) l = -1 := by unfold szRows; rw [if_pos h]
theorem szRows_pos {x : List Int} {xs : List (List Int)} {l : Int} (h : ¬ l - x.length < 0) : szRows (x :: xs) l = szRows xs (l - x.length) := by
  rw [szRows, if_neg h]
set_option maxHeartbeats 1000000 in
theorem szInt64S_c (A : Option Addr) (n c : Nat) (left : Int) (w : World) (hn : n ≤ 9223372036854775807) (hl : left ≤ 1048576) (hl0 : -1 ≤ left) :
    Calls Try.prog 48 #[.slice A n c, .int .i64 left] w fun e w' => e = .returned (.int .i64 (szL n left)) ∧ Below w.heap.size w w' := by
  by_cases h : left - n < 0
  all_goals
    go_enter Try.func48, Try.ntmps48
    go_wp2
    go_returns
    exact ⟨ret_int (by unfold szL; split <;> omega), Below.refl _ _⟩
set_option maxHeartbeats 2000000 in
theorem szInt64SS_c (A : Option Addr) (c : Nat) (rows : List (List Int)) (left : Int) (w : World) (h : SeeTab w A rows) (hn : rows.length ≤ 9223372036854775807) (hr : ∀ r ∈ rows, r.length ≤ 9223372036854775807) (hl : left ≤ 1048576) (hl0 : 0 ≤ left) :
    Calls Try.prog 24 #[.slice A rows.length c, .int .i64 left] w fun e w' => e = .returned (.int .i64 (szSS rows left)) ∧ Below w.heap.size w w' := by
  have H := Lib.hid h
  have HR := Lib.hid hr
  clear h hr
  obtain ⟨res, hres⟩ : ∃ res, res = szSS rows left := ⟨_, rfl⟩
  rw [← hres]
  have HRES := Lib.hid hres
  clear hres
  by_cases hb0 : left - rows.length < 0
  · have E := Lib.hid (show res = -1 by rw [HRES.out]; unfold szSS; rw [if_pos hb0])
    go_enter Try.func24, Try.ntmps24
    go_wp2
    go_returns
    exact ⟨ret_int E.out.symm, Below.refl _ _⟩
  · have E := Lib.hid (show res = szRows rows (left - rows.length) by rw [HRES.out]; unfold szSS; rw [if_neg hb0])
    clear HRES
    go_enter Try.func24, Try.ntmps24
    go_wp2
    go_loopw [5, 1] (fun iv lv wr => ∃ (k : Nat) (l : Int), k ≤ rows.length ∧ iv = .int .i64 k ∧ lv = .int .i64 l ∧ 0 ≤ l ∧ l ≤ 1048576 ∧ Hid (res = szRows (rows.drop k) l) ∧ Below w.heap.size w wr) (fun iv _ _ => rows.length - (intOf iv).toNat)
    case atStart => exact ⟨0, _, Nat.zero_le _, rfl, by go_num, by omega, by omega, Lib.hid (by rw [E.out]; rfl), Below.refl _ _⟩
    case round =>
      obtain ⟨k, l, hk, rfl, rfl, l0, l1, hE, hb⟩ := hrel
      have k0 : (0 : Int) ≤ k := by omega
      by_cases hlt : k < rows.length
      · have k1 : (k : Int) < rows.length := by omega
        obtain ⟨x, hx⟩ := el hlt
        obtain ⟨b, o, rfl, g⟩ := H.out (ne_of_lt hlt)
        obtain ⟨A', c', q, _, _⟩ := g k x hx
        have q1 := bcell hb q
        have hd : rows.drop k = x :: rows.drop (k + 1) := by
          rw [List.drop_eq_getElem_cons hlt]
          congr 1
          rw [List.getElem?_eq_getElem hlt] at hx
          exact Option.some.inj hx
        have hxl := HR.out x (List.mem_of_getElem? hx)
        have hcall := szInt64S_c A' x.length c' l wr hxl l1 (by omega)
        have HD := Lib.hid hd
        clear hd hx g q
        by_cases hneg : l - x.length < 0
        · have hs : szL x.length l = -1 := by unfold szL; rw [if_pos hneg]
          rw [hs] at hcall
          have E2 := Lib.hid (show res = -1 by rw [hE.out, HD.out, szRows_neg hneg])
          have HC := Lib.hid hcall
          clear hcall hs
          go_wp2_with fail
          refine HC.out.mono ?_
          rintro e w2 ⟨rfl, hb2⟩
          go_wp2
          go_returns
          exact ⟨ret_int E2.out.symm, btrans hb hb2⟩
        · have hs : szL x.length l = l - x.length := by unfold szL; rw [if_neg hneg]
          rw [hs] at hcall
          have E2 := Lib.hid (show res = szRows (rows.drop (k + 1)) (l - x.length) by rw [hE.out, HD.out, szRows_pos hneg])
          have HC := Lib.hid hcall
          clear hcall hs
          go_wp2_with fail
          refine HC.out.mono ?_
          rintro e w2 ⟨rfl, hb2⟩
          go_wp2
          go_roundw
          case rel => exact ⟨k + 1, l - x.length, by omega, by go_num, rfl, by omega, by omega, E2, btrans hb hb2⟩
          case measure => simp [intOf]; omega
      · have E2 := Lib.hid (show res = l by rw [hE.out, List.drop_of_length_le (by omega)]; rfl)
        go_wp2
        go_returns
        exact ⟨ret_int E2.out.symm, hb⟩
/-! ### Copies -/
theorem OwnSls.put {w : World} {base g n c : Nat} {qs : List Sl} (h : OwnSls w base (.slice (some ⟨g, 0, none⟩) n c) qs) (k : Nat) (s : Sl) : OwnSls (w.setCell ⟨g, k, none⟩ (.slice s.A s.xs.length s.c)) base (.slice (some ⟨g, 0, none⟩) n c) (qs.set k s) := by
  unfold OwnSls at h ⊢
  obtain rfl := own_slice_len h
  rw [List.length_set, List.map_set]
  exact (h.stored k _).1
def nilS : Sl := ⟨none, 0, []⟩
theorem OwnSls.made {w : World} {base : Nat} {v : Value} {n : Nat} (h : w.ownsRow base 23 1 v n (madeCells #[.slice none 0 0] (n * 1)).toList) : OwnSls w base v (List.replicate n nilS) := by
  unfold OwnSls
  rw [List.length_replicate, List.map_replicate]
  rw [Nat.mul_one, toList_madeCells_one] at h
  exact h
theorem fill_put' {α : Type} (xs : List α) (m : Nat) (x z : α) : (xs ++ List.replicate (m + 1) z).set xs.length x = (xs ++ [x]) ++ List.replicate m z := by
  rw [List.set_append_right _ _ (Nat.le_refl _), Nat.sub_self, List.replicate_succ, List.set_cons_zero, List.append_assoc]
  rfl
set_option maxHeartbeats 2000000 in
theorem toInt64SS_c (A : Option Addr) (c : Nat) (rows : List (List Int)) (w : World) (h : SeeTab w A rows) (hn : rows.length ≤ 2097152) (hr : ∀ r ∈ rows, r.length ≤ 2097152) :
    Calls Try.prog 26 #[.slice A rows.length c] w fun e w' => ∃ v, e = .returned v ∧ OwnSS w' w.heap.size v rows ∧ Below w.heap.size w w' := by
  obtain ⟨ii, hii, hz0, hz1, hz2⟩ := info_parts info_sl
  have H := Lib.hid h
  have HR := Lib.hid hr
  clear h hr
  go_enter Try.func26, Try.ntmps26
  go_wp2_with (at_make; refine wpList_make_full _ rfl _ _ 38 rfl w.heap.size 23 ii _ 1 Try.underlying38 hii hz0 hz1 _ _ _ _ rows.length rfl rfl rfl rfl (by rw [hz2]; omega) (by unfold maxLen; omega) (Nat.le_refl _) ?_)
  intro w1 hown hg
  have hb0 : Below w.heap.size w w1 := (Below.refl _ _).grown hg (Nat.le_refl _) (fun k h => by cases h)
  have own0 : OwnSls w1 w.heap.size (.slice (some ⟨w.heap.size, 0, none⟩) rows.length rows.length) ([] ++ List.replicate (rows.length - 0) nilS) := by simpa using OwnSls.made (n := rows.length) (by simpa using hown)
  clear hown hg
  obtain ⟨G, hG⟩ : ∃ G, G = w.heap.size := ⟨_, rfl⟩
  have hG0 : w.heap.size ≤ G := by omega
  rw [← hG] at own0
  go_wp2
  rw [← hG]
  have HG := Lib.hid hG
  clear hG
  go_loopw [4] (fun iv wr => ∃ (k : Nat) (us : List Sl), k ≤ rows.length ∧ iv = .int .i64 k ∧ us.length = k ∧ OwnSls wr G (.slice (some ⟨G, 0, none⟩) rows.length rows.length) (us ++ List.replicate (rows.length - k) nilS) ∧ ElsOk wr G us ∧ Hid ((us.map Sl.v).Pairwise DisV) ∧ Hid (us.map Sl.xs = rows.take k) ∧ Below w.heap.size w wr) (fun iv _ => rows.length - (intOf iv).toNat)
  case atStart => exact ⟨0, [], Nat.zero_le _, rfl, rfl, own0, ElsOk.nil _ _, Lib.hid List.Pairwise.nil, Lib.hid rfl, hb0⟩
  case round =>
    clear own0 hb0
    obtain ⟨k, us, hk, rfl, hul, own, hel, hdis, hux, hb⟩ := hrel
    have k0 : (0 : Int) ≤ k := by omega
    by_cases hlt : k < rows.length
    · have k1 : (k : Int) < rows.length := by omega
      obtain ⟨x, hx⟩ := el hlt
      obtain ⟨b, o, rfl, g⟩ := H.out (ne_of_lt hlt)
      obtain ⟨A', c', q, sx, _⟩ := g k x hx
      have q1 := bcell hb q
      have hcall := toInt64S_c A' c' x wr (sx.below hb) (HR.out x (List.mem_of_getElem? hx))
      have HC := Lib.hid hcall
      have hzk : (us ++ List.replicate (rows.length - k) nilS)[k]? = some nilS := by
        rw [List.getElem?_append_right (by omega), hul, Nat.sub_self, List.getElem?_replicate, if_pos (by omega)]
      have qz := own.cell hzk
      have HUX := Lib.hid (show us.map Sl.xs ++ [x] = rows.take (k + 1) by rw [hux.out, List.take_add_one, hx]; rfl)
      have HOW := Lib.hid own
      have HEL := Lib.hid hel
      clear hcall hx g q sx hzk own hel
      go_wp2_with fail
      refine HC.out.mono ?_
      rintro e w2 ⟨v, rfl, own2, hb2⟩
      obtain ⟨A2, c2, rfl, _⟩ := own2.see
      have qz2 := bcell hb2 qz
      have ow2 := HOW.out.below hb2
      have fr : ∀ j, w2.frozen? ⟨G, j, none⟩ = false := fun j => own_free ow2 j
      have hput := ow2.put k ⟨A2, c2, x⟩
      obtain ⟨m, hm⟩ : ∃ m, rows.length - k = m + 1 := ⟨rows.length - k - 1, by omega⟩
      rw [hm] at hput
      have e2 := fill_put' us m ⟨A2, c2, x⟩ nilS
      rw [hul] at e2
      rw [e2, show m = rows.length - (k + 1) by omega] at hput
      have hGl := (ow2.lt G rfl).2
      have hGw := ((HOW.out).lt G rfl).2
      have hel2 : ElsOk (w2.setCell ⟨G, k, none⟩ (.slice A2 x.length c2)) G (us ++ [⟨A2, c2, x⟩]) := fun s hs => by
        rcases List.mem_append.1 hs with hs | hs
        · have h1 := HEL.out.below hb2 s hs
          exact h1.keep (S := fun j => j ≠ G) (fun j hj e => own_ne h1 ow2 (by decide) j hj (by rw [e]; rfl)) ((Keep.refl _ w2).setCell (by simp) _)
        · rw [List.mem_singleton.1 hs]
          have h1 : OwnInts w2 wr.heap.size (.slice A2 x.length c2) x := own2
          exact (h1.mono (by omega)).keep (S := fun j => j ≠ G) (fun j hj e => by have := (h1.lt j hj).1; omega) ((Keep.refl _ w2).setCell (by simp) _)
      have hdis2 : ((us ++ [(⟨A2, c2, x⟩ : Sl)]).map Sl.v).Pairwise DisV := by
        rw [List.map_append]
        refine List.pairwise_append.2 ⟨hdis.out, by simp, fun a ha b hb' j hj e => ?_⟩
        obtain ⟨t, ht, rfl⟩ := List.mem_map.1 ha
        obtain rfl := List.mem_singleton.1 hb'
        have h1 := ((HEL.out t ht).lt j hj).2
        have h2 : OwnInts w2 wr.heap.size (.slice A2 x.length c2) x := own2
        have := (h2.lt j e).1
        omega
      have HPUT := Lib.hid hput
      have HE2 := Lib.hid hel2
      have HD2 := Lib.hid hdis2
      clear hput e2 hm hel2 hdis2 ow2 own2 qz
      go_wp2
      go_roundw
      case rel => exact ⟨k + 1, us ++ [⟨A2, c2, x⟩], by omega, by go_num, by rw [List.length_append, hul]; rfl, HPUT.out, HE2.out, HD2, Lib.hid (by rw [List.map_append]; exact HUX.out), Below.setCell (btrans hb hb2) hG0 _⟩
      case measure => simp [intOf]; omega
    · have ek : k = rows.length := by omega
      have hfin : OwnSS wr w.heap.size (.slice (some ⟨G, 0, none⟩) rows.length rows.length) rows := by
        rw [ek, Nat.sub_self, List.replicate_zero, List.append_nil] at own
        have := hux.out
        rw [ek, List.take_length] at this
        exact OwnSS.mono ⟨us, own, hel, hdis.out, this⟩ hG0
      have HF := Lib.hid hfin
      have nlt : ¬ (k : Int) < rows.length := by omega
      clear ek hlt hk hfin own
      go_wp2
      go_returns
      exact ⟨_, rfl, HF.out, hb⟩
/-! ### Marks, by the blocks that they may turn -/
structure OwnSH (w : World) (base hi : Nat) (v : Value) (vals : List (List Int)) : Prop where
  ex : ∃ ws : List Sl, OwnSls w base v ws ∧ ElsOk w base ws ∧ (ws.map Sl.v).Pairwise DisV ∧ ws.map Sl.xs = vals ∧ ∀ s ∈ ws, ∀ k, s.v.ownBlock = some k → k < hi
theorem OwnSH.of {w0 w : World} {base : Nat} {v : Value} {vals : List (List Int)} (h : OwnSS w0 base v vals) (hk : Keep (fun k => base ≤ k ∧ k < w0.heap.size) w0 w) : OwnSH w base w0.heap.size v vals := by
  obtain ⟨ws, h1, h2, h3, h4⟩ := h.ex
  exact ⟨ws, h1.keep (fun k hk' => h1.lt k hk') hk, fun s hm => (h2 s hm).keep (fun k hk' => (h2 s hm).lt k hk') hk, h3, h4, fun s hs k hk' => ((h2 s hs).lt k hk').2⟩
set_option maxHeartbeats 2000000 in
theorem markInt64SS_r (A : Option Addr) (c base hi : Nat) (xs : List (List Int)) (q : Int) (w : World) (h : OwnSH w base hi (.slice A xs.length c) xs) (hn : xs.length ≤ 1048576) (hl : ∀ x ∈ xs, x.length ≤ 1048576) (ht : total xs ≤ 1048576) (h0 : 0 ≤ q) (h1 : q ≤ 549755813888) :
    Calls Try.prog 29 #[.slice A xs.length c, .int .i64 q] w fun e w' => ∃ r : Int, e = .returned (.int .i64 r) ∧ q ≤ r ∧ r ≤ q + 20971520 ∧ Keep (fun k => ¬ (base ≤ k ∧ k < hi)) w w' := by
  have HL := Lib.hid hl
  clear hl
  go_enter Try.func29, Try.ntmps29
  go_wp2
  go_loopw [5, 1] (fun i qv wr => ∃ (k : Nat) (vals : List (List Int)), k ≤ xs.length ∧ i = .int .i64 k ∧ qv = .int .i64 (q + total (xs.take k) : Int) ∧ OwnSH wr base hi (.slice A xs.length c) vals ∧ Hid (vals.map List.length = xs.map List.length) ∧ Keep (fun k => ¬ (base ≤ k ∧ k < hi)) w wr) (fun i _ _ => xs.length - (intOf i).toNat)
  case atStart => exact ⟨0, xs, Nat.zero_le _, rfl, by simp [total], h, Lib.hid rfl, Keep.refl _ _⟩
  case round =>
    clear h
    obtain ⟨k, vals, hk, rfl, rfl, ho, hvl, hK⟩ := hrel
    have htk := total_take_le xs k
    obtain ⟨ws, h1', h2, h3, h4, h5⟩ := ho.ex
    have lv : vals.length = xs.length := by have := congrArg List.length hvl.out; simpa using this
    have lw : ws.length = xs.length := by
      have := congrArg List.length h4
      rw [List.length_map] at this
      omega
    by_cases hlt : k < xs.length
    · obtain ⟨x, hx⟩ := el hlt
      obtain ⟨s, hs⟩ := el (xs := ws) (k := k) (by omega)
      have exl : s.xs.length = x.length := by
        have e1 := congrArg (fun l : List Nat => l[k]?) hvl.out
        simp only [List.getElem?_map, hx, Option.map_some] at e1
        rw [← h4, List.getElem?_map, hs] at e1
        exact Option.some.inj e1
      have hsl : x.length ≤ 1048576 := HL.out _ (List.mem_of_getElem? hx)
      obtain ⟨Aw, cw, ew, gw⟩ := h1'.at_
      obtain ⟨bw, rfl, qw⟩ := gw k s hs
      simp only [Value.slice.injEq] at ew
      obtain ⟨rfl, -, rfl⟩ := ew
      have es := h2 s (List.mem_of_getElem? hs)
      unfold Sl.v at qw es
      have l0 : (0 : Int) ≤ k := by omega
      have l1 : (k : Int) < xs.length := by omega
      have t1 := total_take xs k x hx
      have t2 := total_take_le xs (k + 1)
      have hm := markInt64S_c s.A s.c s.xs (q + total (xs.take k) : Int) base wr es (by omega) (by omega) (by omega)
      have HNX : Hid (∀ w2, OwnInts w2 base (.slice s.A s.xs.length s.c) (markL (q + total (xs.take k) : Int) s.xs.length) → Keep (NotOf s.A) wr w2 → OwnSH w2 base hi (.slice (some ⟨bw, 0, none⟩) xs.length c) (vals.set k (markL (q + total (xs.take k) : Int) s.xs.length)) ∧ Keep (fun k => ¬ (base ≤ k ∧ k < hi)) w w2) := Lib.hid fun w2 hown2 hk2 => by
        have hv2 : (⟨s.A, s.c, markL (q + total (xs.take k) : Int) s.xs.length⟩ : Sl).v = s.v := by simp [Sl.v, markL_length]
        have hmv : (ws.set k ⟨s.A, s.c, markL (q + total (xs.take k) : Int) s.xs.length⟩).map Sl.v = ws.map Sl.v := by
          rw [List.map_set, hv2]
          refine List.ext_getElem? fun j => ?_
          by_cases e : k = j
          · subst e
            rw [List.getElem?_set_self (by simpa using (List.getElem?_eq_some_iff.1 hs).1), List.getElem?_map, hs]
            rfl
          · rw [List.getElem?_set_ne e]
        refine ⟨⟨ws.set k ⟨s.A, s.c, markL (q + total (xs.take k) : Int) s.xs.length⟩, ?_, fun t ht => ?_, by rw [hmv]; exact h3, by rw [List.map_set, h4], fun t ht j hj => ?_⟩, hK.trans (hk2.mono fun i hi hlt a ha e => ?_)⟩
        · unfold OwnSls
          rw [hmv, List.length_set]
          refine OwnSls.keep h1' (S := NotOf s.A) (fun i hi a ha e => ?_) hk2
          exact own_ne es h1' (by decide) a.block (by rw [ha]; rfl) (by rw [hi, e])
        · obtain ⟨j, hj⟩ := List.getElem?_of_mem ht
          by_cases e : k = j
          · subst e
            rw [List.getElem?_set_self (List.getElem?_eq_some_iff.1 hs).1] at hj
            obtain rfl := Option.some.inj hj
            rw [hv2]
            exact hown2
          · rw [List.getElem?_set_ne e] at hj
            refine (h2 t (List.mem_of_getElem? hj)).keep (S := NotOf s.A) (fun i hi a ha e2 => ?_) hk2
            exact disV_at h3 hs hj e i (by unfold Sl.v; rw [ha, e2]; rfl) hi
        · obtain ⟨j', hj'⟩ := List.getElem?_of_mem ht
          by_cases e : k = j'
          · subst e
            rw [List.getElem?_set_self (List.getElem?_eq_some_iff.1 hs).1] at hj'
            obtain rfl := Option.some.inj hj'
            rw [hv2] at hj
            exact h5 s (List.mem_of_getElem? hs) j hj
          · rw [List.getElem?_set_ne e] at hj'
            exact h5 t (List.mem_of_getElem? hj') j hj
        · have h6 := (OwnInts.lt es i (by rw [ha, e]; rfl)).1
          have h7 := h5 s (List.mem_of_getElem? hs) i (by unfold Sl.v; rw [ha, e]; rfl)
          exact hlt ⟨h6, h7⟩
      have HTT := Lib.hid t1
      have HVL := Lib.hid (show (vals.set k (markL (q + total (xs.take k) : Int) s.xs.length)).map List.length = xs.map List.length by
        rw [List.map_set, hvl.out, markL_length, exl]
        refine List.ext_getElem? fun j => ?_
        by_cases e : k = j
        · subst e
          rw [List.getElem?_set_self (by simpa using hlt), List.getElem?_map, hx]
          rfl
        · rw [List.getElem?_set_ne e])
      have HM := Lib.hid hm
      rw [exl] at qw
      have HEXL := Lib.hid exl
      rw [exl] at HM
      clear hs h1' h2 h3 h4 h5 gw ho t1 hm hx hK lw es lv hvl
      go_wp2_with fail
      refine HM.out.mono ?_
      rintro e w2 ⟨rfl, hown2, hk2⟩
      obtain ⟨n1, n2⟩ := HNX.out w2 (by rw [HEXL.out]; exact hown2) hk2
      go_wp2
      go_roundw
      case rel => exact ⟨k + 1, _, by omega, by go_num, by rw [HTT.out]; go_num, n1, HVL, n2⟩
      case measure => simp [intOf]; omega
    · have ek : k = xs.length := by omega
      have htl : total (xs.take k) = total xs := by rw [ek, List.take_length]
      have HR := Lib.hid (show q ≤ q + (total (xs.take k) : Int) ∧ q + (total (xs.take k) : Int) ≤ q + 20971520 by omega)
      have nlt : ¬ (k : Int) < xs.length := by omega
      clear ek hlt hk h1' h2 h3 h4 h5 lw htl
      go_wp2
      go_returns
      exact ⟨_, rfl, HR.out.1, HR.out.2, hK.mono (fun k _ h h2 => absurd (h h2.1) (by have := h2.2; omega))⟩
end Go.Proofs.Ytjepmbjneccagaa
