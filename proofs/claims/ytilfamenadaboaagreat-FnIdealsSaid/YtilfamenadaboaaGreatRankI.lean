/- 'RankOf' of the implementation. No condition. -/
import Derived.Test.YtilfamenadaboaaGreatSortRow
import Derived.Test.YtilfamenadaboaaGreatBits
import Derived.Test.YtilfamenadaboaaGreatIdlLaw
import Derived.Test.YtilfamenadaboaaGreatIsMap
namespace Go.Proofs.YtilfamenadaboaaGreat
open Go.RowKit
theorem MpAt.grow {w w' : World} {b o : Nat} {m : Mp} {row : Option Nat} (h : MpAt w b o m) (hg : w.grownBy w' row) (hr : row ≠ some b) : MpAt w' b o m :=
  ⟨hg.cell h.h0 (Ne.symm hr), hg.cell h.h1 (Ne.symm hr), hg.cell h.h2 (Ne.symm hr), hg.cell h.h3 (Ne.symm hr), hg.cell h.h4 (Ne.symm hr), hg.cell h.h5 (Ne.symm hr)⟩
theorem take_map {α β : Type} (g : α → β) {xs : List α} {k : Nat} {x : α} (h : xs[k]? = some x) : (xs.take (k + 1)).map g = (xs.take k).map g ++ [g x] := by
  rw [List.take_add_one, h]; simp
def Asc (xs : List Int) : Prop := xs.Pairwise (· < ·)
theorem asc_ext : ∀ {xs ys : List Int}, Asc xs → Asc ys → (∀ x, x ∈ xs ↔ x ∈ ys) → xs = ys
  | [], [], _, _, _ => rfl
  | [], y :: ys, _, _, h => absurd ((h y).2 (by simp)) (by simp)
  | x :: xs, [], _, _, h => absurd ((h x).1 (by simp)) (by simp)
  | x :: xs, y :: ys, hx, hy, h => by
    obtain ⟨h1, h2⟩ := List.pairwise_cons.1 hx
    obtain ⟨h3, h4⟩ := List.pairwise_cons.1 hy
    have e : x = y := by
      have a1 := (h x).1 (by simp)
      have a2 := (h y).2 (by simp)
      rcases List.mem_cons.1 a1 with e | a1
      · exact e
      · rcases List.mem_cons.1 a2 with e | a2
        · exact e.symm
        · have b1 := h3 x a1
          have b2 := h1 y a2
          omega
    subst e
    rw [asc_ext h2 h4 fun z => ?_]
    constructor
    · intro hz
      rcases List.mem_cons.1 ((h z).1 (by simp [hz])) with e | hz'
      · have := h1 z hz; omega
      · exact hz'
    · intro hz
      rcases List.mem_cons.1 ((h z).2 (by simp [hz])) with e | hz'
      · have := h3 z hz; omega
      · exact hz'
theorem cu_spec (d : Array Int) (hs : ∀ i j, i ≤ j → j < d.size → d[i]! ≤ d[j]!) : ∀ m, m ≤ d.size → (∀ x, x ∈ Lib.compactUpTo d m ↔ ∃ i, i < m ∧ d[i]! = x) ∧ Asc (Lib.compactUpTo d m)
  | 0, _ => ⟨fun x => by simp [Lib.compactUpTo], by simp [Lib.compactUpTo, Asc]⟩
  | m + 1, hm => by
    obtain ⟨h1, h2⟩ := cu_spec d hs m (by omega)
    rw [Lib.compactUpTo_succ]
    by_cases hk : m = 0 ∨ d[m]! ≠ d[m - 1]!
    · rw [if_pos (by unfold Lib.keeps; exact decide_eq_true hk)]
      refine ⟨fun x => ?_, List.pairwise_append.2 ⟨h2, by simp, fun a ha b hb => ?_⟩⟩
      · rw [List.mem_append, h1, List.mem_singleton]
        constructor
        · rintro (⟨i, hi, e⟩ | rfl)
          · exact ⟨i, by omega, e⟩
          · exact ⟨m, by omega, rfl⟩
        · rintro ⟨i, hi, rfl⟩
          rcases Nat.lt_succ_iff_lt_or_eq.1 hi with h | rfl
          · exact .inl ⟨i, h, rfl⟩
          · exact .inr rfl
      · rw [List.mem_singleton.1 hb]
        obtain ⟨i, hi, rfl⟩ := (h1 a).1 ha
        have a1 := hs i (m - 1) (by omega) (by omega)
        have a2 := hs (m - 1) m (by omega) (by omega)
        rcases hk with hk | hk
        · omega
        · omega
    · rw [if_neg (by unfold Lib.keeps; simpa using hk), List.append_nil]
      refine ⟨fun x => ?_, h2⟩
      rw [h1]
      have hm0 : m ≠ 0 := fun e => hk (.inl e)
      have he : d[m]! = d[m - 1]! := Classical.byContradiction fun e => hk (.inr e)
      constructor
      · rintro ⟨i, hi, e⟩; exact ⟨i, by omega, e⟩
      · rintro ⟨i, hi, rfl⟩
        rcases Nat.lt_succ_iff_lt_or_eq.1 hi with h | rfl
        · exact ⟨i, h, rfl⟩
        · exact ⟨i - 1, by omega, he.symm⟩
theorem sort_mem {xs : List Int} {x : Int} : x ∈ sortI xs ↔ x ∈ xs := List.mem_mergeSort
theorem comp_sort (xs : List Int) : (∀ x, x ∈ Lib.compact (sortI xs) ↔ x ∈ xs) ∧ Asc (Lib.compact (sortI xs)) := by
  have hp : (sortI xs).Pairwise (fun x y => decide (x ≤ y)) := List.pairwise_mergeSort (fun a b c => by simp only [decide_eq_true_eq]; omega) (fun a b => by simp only [Bool.or_eq_true, decide_eq_true_eq]; omega) xs
  have hs : ∀ i j, i ≤ j → j < (sortI xs).toArray.size → (sortI xs).toArray[i]! ≤ (sortI xs).toArray[j]! := fun i j hij hj => by
    have hj' : j < (sortI xs).length := by simpa using hj
    rw [getElem!_pos _ i (by simp; omega), getElem!_pos _ j hj]
    rcases Nat.lt_or_eq_of_le hij with h | rfl
    · have := List.pairwise_iff_getElem.1 hp i j (by omega) hj' h
      simpa using this
    · exact Int.le_refl _
  obtain ⟨h1, h2⟩ := cu_spec (sortI xs).toArray hs (sortI xs).length (by simp)
  refine ⟨fun x => ?_, h2⟩
  show x ∈ Lib.compactUpTo (sortI xs).toArray (sortI xs).length ↔ _
  rw [h1, ← sort_mem (xs := xs)]
  constructor
  · rintro ⟨i, hi, rfl⟩
    rw [getElem!_pos _ i (by simpa using hi)]
    exact List.getElem_mem hi
  · intro hx
    obtain ⟨i, hi, rfl⟩ := List.mem_iff_getElem.1 hx
    exact ⟨i, hi, by rw [getElem!_pos _ i (by simpa using hi)]; rfl⟩
/-- what a map makes of a set -/
def imgL (f : Mp) (xs : List Int) : List Int := Lib.compact (sortI (xs.map f.at))
theorem imgL_mem {f : Mp} {xs : List Int} {x : Int} : x ∈ imgL f xs ↔ x ∈ xs.map f.at := (comp_sort _).1 x
theorem imgL_asc (f : Mp) (xs : List Int) : Asc (imgL f xs) := (comp_sort _).2
theorem imgL_len (f : Mp) (xs : List Int) : (imgL f xs).length ≤ xs.length := by
  have := comp_len (sortI (xs.map f.at))
  rw [sortI_length, List.length_map] at this
  exact this
set_option maxHeartbeats 1000000 in
theorem image_c (f : Mp) (n : Int) (A : Option Addr) (c : Nat) (ps : List Int) (w : World) (hf : MpN f n) (h : SeeInts w A ps) (hp : ∀ p ∈ ps, 0 ≤ p ∧ p < n) (hln : ps.length ≤ 2097152) :
    Calls Tryz.prog 104 #[.agg #[.int .i64 f.p, .int .i64 f.a, .int .i64 f.b, .int .i64 f.c, .int .i64 f.d, .int .i64 f.e], .slice A ps.length c] w fun e w' => ∃ v, e = .returned v ∧ OwnInts w' w.heap.size v (imgL f ps) ∧ Below w.heap.size w w' := by
  have n5 : n ≤ 5 := by have := hf.1.2.1; have := hf.2; omega
  have HP := Lib.hid hp
  clear hp
  go_enter Tryz.func104, Tryz.ntmps104
  go_wp2
  go_loopw [10, 5] (fun i out wr => ∃ k : Nat, k ≤ ps.length ∧ i = .int .i64 k ∧ OwnInts wr (w.heap.size + 1) out ((ps.take k).map f.at) ∧ MpAt wr w.heap.size 0 f ∧ Below w.heap.size w wr) (fun i _ _ => ps.length - (intOf i).toNat)
  case atStart => exact ⟨0, Nat.zero_le _, rfl, OwnInts.nil _ _, MpAt.boxed w f _, by go_grown⟩
  case round =>
    obtain ⟨k, hk, rfl, hown, hm, hb⟩ := hrel
    have hsz1 : w.heap.size < wr.heap.size := World.block_lt_of_cell? wr ⟨w.heap.size, 0, none⟩ hm.h0
    by_cases hlt : k < ps.length
    · obtain ⟨b, o, p, rfl, hx, q⟩ := (h.below hb).at_ hlt
      obtain ⟨p0, p1⟩ := HP.out p (List.mem_of_getElem? hx)
      have g := hm.to' (i := p.toNat) (by omega)
      have e : f.to p.toNat = f.at p := rfl
      rw [e] at g
      have p5 : p < 5 := by omega
      have hl : (0 : Int) ≤ k := by omega
      have hl' : (k : Int) < ps.length := by omega
      have HX := Lib.hid hx
      have hne := hown.lt w.heap.size
      have HNE := Lib.hid hne
      clear hx e h hne
      go_wp2_with (at_builtin; refine wpList_push_int _ rfl (.tmp 14) (.tmp 19) rfl (w.heap.size + 1) _ _ rfl (hown.below (by go_grown)) ⟨wr.heap.size, 0, none⟩ (f.at p) rfl (by simp [go_sem]) (by simp; omega) (by simp; omega) ?_; intro v' w3 hown' hgrow hv')
      go_roundw
      case rel => exact ⟨k + 1, by omega, by go_num, by rw [take_map f.at HX.out]; exact hown', (hm.below (kbelow wr _)).grow hgrow (fun e => by have := HNE.out e; omega), Below.grown (w := wr.alloc (.cells #[.int .i64 (f.at p)] 2)) (by go_grown) hgrow (by simp; omega) (fun j hj => by have := (hown.lt j hj).1; omega)⟩
      case measure => simp [intOf]; omega
    · obtain rfl : k = ps.length := by omega
      rw [List.take_length] at hown
      obtain ⟨ys, hys⟩ : ∃ ys, ys = ps.map f.at := ⟨_, rfl⟩
      have hyl : ys.length ≤ 2097152 := by rw [hys, List.length_map]; exact hln
      rw [← hys] at hown
      have HY := Lib.hid (show imgL f ps = Lib.compact (sortI ys) by unfold imgL; rw [hys])
      clear hys
      rcases Nat.eq_zero_or_pos ys.length with h0 | h0
      · obtain rfl := List.eq_nil_of_length_eq_zero h0
        obtain ⟨A', c', rfl, _⟩ := hown.see
        clear h0 hyl
        go_wp2_with fail
        refine (Sort_none_c _ A' c').mono ?_
        rintro e w2 ⟨rfl, hb2⟩
        go_wp2_with fail
        refine (Compact_none_c _ A' c').mono ?_
        rintro e w3 ⟨rfl, hb3⟩
        go_wp2
        go_returns
        rw [HY.out, show Lib.compact (sortI []) = [] from List.eq_nil_of_length_eq_zero (Nat.le_zero.1 (by have := comp_len (sortI []); rwa [sortI_length] at this))]
        exact ⟨_, rfl, ((hown.below hb2).below hb3).mono (base' := w.heap.size) (by omega), btrans (btrans hb hb2) hb3⟩
      · obtain ⟨A', c', rfl, hs⟩ := hown.see
        obtain ⟨y, o, x, rfl, _, _⟩ := hs.at_ h0
        have ho : o = 0 := by
          rcases hown.2 with ⟨h2, _⟩ | ⟨g', cap, cur, h2, _⟩
          · cases h2
          · simp only [Value.slice.injEq, Option.some.injEq, Addr.mk.injEq, and_true] at h2; exact h2.1.2
        subst ho
        have hlt := hown.lt y rfl
        clear hs h
        go_wp2_with fail
        refine (Sort_c _ (w.heap.size + 1) y c' ys hown hyl).mono ?_
        rintro e w2 ⟨rfl, hown2, hk2⟩
        have hl2 := sortI_length ys
        rw [← hl2] at hown2
        go_wp2_with fail
        rw [← hl2]
        refine (Compact_c _ (w.heap.size + 1) y c' (sortI ys) hown2 (by omega)).mono ?_
        rintro e w3 ⟨rfl, hown3, hk3⟩
        go_wp2
        go_returns
        rw [HY.out]
        exact ⟨_, rfl, hown3.mono (by omega), hb.trans ((hk2.trans hk3).below (B := w.heap.size) hb.size (fun i hi => by show i ≠ y; omega))⟩
theorem imageEnters : Enters Tryz.prog 104 := enters_of Tryz.func104 (by kernel_rfl) rfl
theorem movedTo_test (f : Mp) (S j : Nat) : ∀ k, (movedTo f S k).testBit j = true ↔ ∃ i, i < k ∧ S.testBit i = true ∧ (f.to i).toNat = j
  | 0 => by simp [movedTo]
  | k + 1 => by
    have ih := movedTo_test f S j k
    unfold movedTo
    split
    · rename_i ht
      rw [Nat.testBit_or, Bool.or_eq_true, ih, Nat.one_shiftLeft, Nat.testBit_two_pow, decide_eq_true_eq]
      constructor
      · rintro (⟨i, h1, h2, h3⟩ | h)
        · exact ⟨i, by omega, h2, h3⟩
        · exact ⟨k, by omega, ht, h⟩
      · rintro ⟨i, h1, h2, h3⟩
        rcases Nat.lt_succ_iff_lt_or_eq.1 h1 with h | rfl
        · exact .inl ⟨i, h, h2, h3⟩
        · exact .inr h3
    · rename_i ht
      rw [ih]
      constructor
      · rintro ⟨i, h1, h2, h3⟩; exact ⟨i, by omega, h2, h3⟩
      · rintro ⟨i, h1, h2, h3⟩
        rcases Nat.lt_succ_iff_lt_or_eq.1 h1 with h | rfl
        · exact ⟨i, h, h2, h3⟩
        · exact absurd h2 ht
def InZ (n : Int) (xs : List Int) : Prop := ∀ x ∈ xs, 0 ≤ x ∧ x < n
theorem InZ.map {n : Int} {f : Mp} (hf : MpN f n) {xs : List Int} (h : InZ n xs) : InZ n (xs.map f.at) := fun y hy => by
  obtain ⟨x, hx, rfl⟩ := List.mem_map.1 hy
  exact hf.at (h x hx).1 (h x hx).2
theorem movedB_bits {n : Int} {f : Mp} (hf : MpN f n) {xs : List Int} (h : InZ n xs) : movedB f (bitsN xs) = bitsN (xs.map f.at) := by
  refine Nat.eq_of_testBit_eq fun j => ?_
  rw [Bool.eq_iff_iff]
  unfold movedB
  rw [movedTo_test, bitsN_test (fun x hx => (InZ.map hf h x hx).1), decide_eq_true_eq, List.mem_map, hf.2]
  constructor
  · rintro ⟨i, h1, h2, h3⟩
    rw [bitsN_test (fun x hx => (h x hx).1), decide_eq_true_eq] at h2
    refine ⟨i, h2, ?_⟩
    have := (hf.at (h _ h2).1 (h _ h2).2).1
    have e : f.at (i : Int) = f.to i := rfl
    rw [e] at this ⊢
    omega
  · rintro ⟨x, hx, hxj⟩
    have := h x hx
    refine ⟨x.toNat, by omega, ?_, ?_⟩
    · rw [bitsN_test (fun x hx => (h x hx).1), decide_eq_true_eq, Int.toNat_of_nonneg this.1]; exact hx
    · have e : f.at x = f.to x.toNat := rfl
      rw [← e, hxj]; omega
def ptsN (n : Nat) : List Int := (List.range n).map fun (i : Nat) => (i : Int)
theorem ptsN_succ (k : Nat) : ptsN (k + 1) = ptsN k ++ [(k : Int)] := by unfold ptsN; rw [List.range_succ, List.map_append]; rfl
theorem ptsN_length (k : Nat) : (ptsN k).length = k := by simp [ptsN]
set_option maxHeartbeats 1000000 in
theorem points_c (n : Int) (w : World) (h0 : 0 ≤ n) (h5 : n ≤ 5) :
    Calls Tryz.prog 105 #[.int .i64 n] w fun e w' => ∃ v, e = .returned v ∧ OwnInts w' w.heap.size v (ptsN n.toNat) ∧ Below w.heap.size w w' := by
  go_enter Tryz.func105, Tryz.ntmps105
  go_wp2
  go_loopw [6, 3] (fun i out wr => ∃ k : Nat, (k : Int) ≤ n ∧ i = .int .i64 k ∧ OwnInts wr w.heap.size out (ptsN k) ∧ Below w.heap.size w wr) (fun i _ _ => 5 - (intOf i).toNat)
  case atStart => exact ⟨0, h0, rfl, OwnInts.nil _ _, Below.refl _ _⟩
  case round =>
    obtain ⟨k, hk, rfl, hown, hb⟩ := hrel
    have hz := hb.size
    by_cases hlt : (k : Int) < n
    · have hl := ptsN_length k
      have HS := Lib.hid (ptsN_succ k)
      generalize ptsN k = xs at *
      go_wp2_with (at_builtin; refine wpList_push_int _ rfl (.tmp 9) (.tmp 11) rfl w.heap.size _ _ rfl (hown.below (by go_grown)) ⟨wr.heap.size, 0, none⟩ (k : Int) rfl (by simp [go_sem]) (by omega) (by go_size) ?_; intro v' w3 hown' hgrow hv')
      go_roundw
      case rel => exact ⟨k + 1, by omega, by go_num, by rw [HS.out]; exact hown', Below.grown (w := wr.alloc (.cells #[.int .i64 (k : Int)] 2)) (by go_grown) hgrow (by simp; omega) (fun j hj => (hown.lt j hj).1)⟩
      case measure => simp [intOf]; omega
    · have e : k = n.toNat := by omega
      subst e
      go_wp2
      go_returns
      exact ⟨_, rfl, hown, hb⟩
/-! ### sets as lists, sets as numbers -/
def AL (n : Int) (xs : List Int) : Prop := Asc xs ∧ InZ n xs
def ptsOf (S : Nat) : List Int := ((List.range 5).filter S.testBit).map fun (i : Nat) => (i : Int)
theorem ptsOf_asc (S : Nat) : Asc (ptsOf S) := by
  unfold ptsOf Asc
  rw [List.pairwise_map]
  refine (List.Pairwise.filter _ List.pairwise_lt_range).imp fun h => ?_
  omega
theorem ptsOf_mem {S : Nat} {x : Int} : x ∈ ptsOf S ↔ ∃ i : Nat, i < 5 ∧ S.testBit i = true ∧ (i : Int) = x := by
  unfold ptsOf
  simp only [List.mem_map, List.mem_filter, List.mem_range]
  constructor
  · rintro ⟨i, ⟨h1, h2⟩, h3⟩; exact ⟨i, h1, h2, h3⟩
  · rintro ⟨i, h1, h2, h3⟩; exact ⟨i, ⟨h1, h2⟩, h3⟩
theorem AL.bits_lt {n : Int} (hn : n ≤ 5) {xs : List Int} (h : AL n xs) : bitsN xs < 2 ^ n.toNat := bitsN_lt fun x hx => by have := h.2 x hx; omega
theorem AL.pts {n : Int} (hn : n ≤ 5) {xs : List Int} (h : AL n xs) : ptsOf (bitsN xs) = xs := asc_ext (ptsOf_asc _) h.1 fun x => by
  rw [ptsOf_mem]
  constructor
  · rintro ⟨i, h1, h2, rfl⟩
    rw [bitsN_test (fun x hx => (h.2 x hx).1), decide_eq_true_eq] at h2
    exact h2
  · intro hx
    have := h.2 x hx
    refine ⟨x.toNat, by omega, ?_, by omega⟩
    rw [bitsN_test (fun x hx => (h.2 x hx).1), decide_eq_true_eq, Int.toNat_of_nonneg this.1]
    exact hx
theorem ones_len : ∀ S, S < 32 → onesB S = (ptsOf S).length := by decide
theorem AL.ones {n : Int} (hn : n ≤ 5) {xs : List Int} (h : AL n xs) : onesB (bitsN xs) = xs.length := by
  have h1 := h.bits_lt hn
  have : 2 ^ n.toNat ≤ 2 ^ 5 := Nat.pow_le_pow_right (by decide) (by omega)
  rw [ones_len _ (by omega), h.pts hn]
theorem imgL_in {n : Int} {f : Mp} (hf : MpN f n) {xs : List Int} (h : InZ n xs) : AL n (imgL f xs) := ⟨imgL_asc f xs, fun x hx => InZ.map hf h x (imgL_mem.1 hx)⟩
theorem movedB_img {n : Int} {f : Mp} (hf : MpN f n) {xs : List Int} (h : InZ n xs) : movedB f (bitsN xs) = bitsN (imgL f xs) := by
  rw [movedB_bits hf h]
  refine Nat.eq_of_testBit_eq fun j => ?_
  rw [bitsN_test (fun x hx => (InZ.map hf h x hx).1), bitsN_test (fun x hx => ((imgL_in hf h).2 x hx).1), Bool.eq_iff_iff, decide_eq_true_eq, decide_eq_true_eq, imgL_mem]
theorem ptsN_AL {n : Int} (h0 : 0 ≤ n) : AL n (ptsN n.toNat) := ⟨by
  unfold ptsN Asc
  rw [List.pairwise_map]
  exact List.pairwise_lt_range.imp fun h => by omega, fun x hx => by
  unfold ptsN at hx
  obtain ⟨i, hi, rfl⟩ := List.mem_map.1 hx
  have := List.mem_range.1 hi
  omega⟩
theorem ptsN_bits {n : Int} (h0 : 1 ≤ n) (h5 : n ≤ 5) : bitsN (ptsN n.toNat) = 2 ^ n.toNat - 1 := by
  rcases (by omega : n = 1 ∨ n = 2 ∨ n = 3 ∨ n = 4 ∨ n = 5) with rfl | rfl | rfl | rfl | rfl <;> rfl
/-! ### toRank -/
def isLe (r : Int) (ys : List Int) : Bool := decide ((ys.length : Int) ≤ r)
set_option maxHeartbeats 1000000 in
theorem rank_c (f : Mp) (n : Int) (w : World) (hf : MpN f n) : Calls Tryz.prog 79 #[.agg #[.int .i64 f.p, .int .i64 f.a, .int .i64 f.b, .int .i64 f.c, .int .i64 f.d, .int .i64 f.e]] w fun e w' => e = .returned (.int .i64 (onesB (movedB f (2 ^ n.toNat - 1)) : Int)) ∧ Below w.heap.size w w' := by
  have n5 : n ≤ 5 := by have := hf.1.2.1; have := hf.2; omega
  have n1 : 1 ≤ n := by have := hf.1.1; have := hf.2; omega
  have hal := ptsN_AL (n := n) (by omega)
  have hr : (imgL f (ptsN n.toNat)).length = onesB (movedB f (2 ^ n.toNat - 1)) := by
    rw [← ptsN_bits n1 n5, movedB_img hf hal.2, (imgL_in hf hal.2).ones n5]
  have k0 : Below w.heap.size w (w.alloc (Obj.cells #[.int .i64 f.p, .int .i64 f.a, .int .i64 f.b, .int .i64 f.c, .int .i64 f.d, .int .i64 f.e] 27)) := by go_grown
  obtain ⟨q0, q1, q2, q3, q4, q5⟩ := (MpAt.boxed w f 27).cells0
  have hpt : ∀ W, Calls Tryz.prog 105 #[.int .i64 f.p] W fun e w' => ∃ v, e = .returned v ∧ OwnInts w' W.heap.size v (ptsN n.toNat) ∧ Below W.heap.size W w' := fun W => by rw [hf.2]; exact points_c n W (by omega) n5
  have HPT := Lib.hid hpt
  have him : ∀ W A c, SeeInts W A (ptsN n.toNat) → Calls Tryz.prog 104 #[.agg #[.int .i64 f.p, .int .i64 f.a, .int .i64 f.b, .int .i64 f.c, .int .i64 f.d, .int .i64 f.e], .slice A (ptsN n.toNat).length c] W fun e w' => ∃ v, e = .returned v ∧ OwnInts w' W.heap.size v (imgL f (ptsN n.toNat)) ∧ Below W.heap.size W w' := fun W A c hs => image_c f n A c (ptsN n.toNat) W hf hs hal.2 (by rw [ptsN_length]; omega)
  rw [← hr]
  generalize imgL f (ptsN n.toNat) = res at him ⊢
  have HIM := Lib.hid him
  clear hr hpt him
  go_enter Tryz.func79, Tryz.ntmps79
  go_wp2
  refine wp_region_headS 4 (fun w' => w'.cell? ⟨w.heap.size, 0, none⟩ = some (.int .i64 f.p) ∧ w'.cell? ⟨w.heap.size, 1, none⟩ = some (.int .i64 f.a) ∧ w'.cell? ⟨w.heap.size, 2, none⟩ = some (.int .i64 f.b) ∧ w'.cell? ⟨w.heap.size, 3, none⟩ = some (.int .i64 f.c) ∧ w'.cell? ⟨w.heap.size, 4, none⟩ = some (.int .i64 f.d) ∧ w'.cell? ⟨w.heap.size, 5, none⟩ = some (.int .i64 f.e)) (by kernel_rfl) (by kernel_rfl) ⟨q0, q1, q2, q3, q4, q5⟩ (fun hHeld => ?_)
  simp only [List.drop]
  refine headH_takeS (i := 0) (v := ?_) 3 rfl (by kernel_rfl) (by kernel_rfl) (fun _ _ _ h => h) (Or.inl ⟨by rfl, ?_⟩) hHeld ?_
  rotate_left
  · intro w hSw
    (try dsimp only at hSw)
    go_simp
    try with_reducible rfl
  try simp only [Act.put, List.setIfInBounds_toArray, List.set_cons_zero, List.set_cons_succ]
  refine headH_takeS (i := 1) (v := ?_) 4 rfl (by kernel_rfl) (by kernel_rfl) (fun _ _ _ h => h) (Or.inl ⟨by rfl, ?_⟩) hHeld ?_
  rotate_left
  · intro w hSw
    (try dsimp only at hSw)
    go_simp
    try with_reducible rfl
  try simp only [Act.put, List.setIfInBounds_toArray, List.set_cons_zero, List.set_cons_succ]
  refine headH_takeS (i := 2) (v := ?_) 5 rfl (by kernel_rfl) (by kernel_rfl) (fun _ _ _ h => h) (Or.inl ⟨by rfl, ?_⟩) hHeld ?_
  rotate_left
  · intro w hSw
    (try dsimp only at hSw)
    go_simp
    try with_reducible rfl
  try simp only [Act.put, List.setIfInBounds_toArray, List.set_cons_zero, List.set_cons_succ]
  refine headH_all (rs := [3]) (by kernel_rfl) (by kernel_rfl) (headH_cons rfl (fun K hK => ?_) headH_nil)
  go_simp
  refine (HPT.out _).mono ?_
  rintro e w1 ⟨v1, rfl, hown1, hb1⟩
  obtain ⟨A1, c1, rfl, hs1⟩ := hown1.see
  refine hK.out _ _ ⟨bcell hb1 hHeld.1, bcell hb1 hHeld.2.1, bcell hb1 hHeld.2.2.1, bcell hb1 hHeld.2.2.2.1, bcell hb1 hHeld.2.2.2.2.1, bcell hb1 hHeld.2.2.2.2.2⟩ (fun hHeldn => ?_)
  clear hK K hHeld
  have hHeld := hHeldn
  clear hHeldn
  try simp only [Act.put, List.setIfInBounds_toArray, List.set_cons_zero, List.set_cons_succ]
  refine headH_tail (by kernel_rfl) ?_
  clear hHeld
  replace hb1 := btrans (Below.drew k0) hb1
  go_wp2_with fail
  refine (HIM.out _ A1 c1 hs1).mono ?_
  rintro e w2 ⟨v2, rfl, hown2, hb2⟩
  obtain ⟨A2, c2, rfl, _⟩ := hown2.see
  go_wp2
  go_returns
  exact ⟨rfl, btrans hb1 hb2⟩
set_option maxHeartbeats 1000000 in
/-- the rank of a map of n points -/
theorem RankOf_c (f : Mp) (n : Int) (w : World) (hf : MpN f n) : Calls Tryz.prog 38 #[.agg #[.int .i64 f.p, .int .i64 f.a, .int .i64 f.b, .int .i64 f.c, .int .i64 f.d, .int .i64 f.e]] w fun e w' => e = .returned (.tuple #[.int .i64 (rankN n f), .int .i64 0]) ∧ Below w.heap.size w w' := by
  have k0 := kbelow w (.cells #[.int .i64 f.p, .int .i64 f.a, .int .i64 f.b, .int .i64 f.c, .int .i64 f.d, .int .i64 f.e] 27)
  have b0 : MpBox (w.alloc (.cells #[.int .i64 f.p, .int .i64 f.a, .int .i64 f.b, .int .i64 f.c, .int .i64 f.d, .int .i64 f.e] 27)) w.heap.size f := MpBox.new f 27 rfl
  obtain ⟨W, hW⟩ : ∃ W, W = w.alloc (.cells #[.int .i64 f.p, .int .i64 f.a, .int .i64 f.b, .int .i64 f.c, .int .i64 f.d, .int .i64 f.e] 27) := ⟨_, rfl⟩
  rw [← hW] at k0 b0
  have HIM := Lib.hid (valB (IsMap_c f W) (isMpB_true hf.1))
  have HRK := Lib.hid (fun W => rank_c f n W hf)
  have HRR := Lib.hid (show rankN n f = (onesB (movedB f (2 ^ n.toNat - 1)) : Int) from rfl)
  obtain ⟨rk, hrk⟩ : ∃ rk : Int, rk = (onesB (movedB f (2 ^ n.toNat - 1)) : Int) := ⟨_, rfl⟩
  rw [← hrk] at HRK HRR
  clear hrk hf
  go_enter Tryz.func38, Tryz.ntmps38
  go_wp2_with fail
  rw [← hW]
  clear hW
  refine HIM.out.mono ?_
  rintro e w2 ⟨rfl, hb2⟩
  obtain ⟨q0, q1, q2, q3, q4, q5⟩ := (b0.below hb2).at.cells0
  have HR2 := Lib.hid (HRK.out w2)
  go_wp2_with fail
  refine HR2.out.mono ?_
  rintro e w3 ⟨rfl, hb3⟩
  go_wp2
  go_returns
  exact ⟨by rw [HRR.out]; rfl, btrans k0 (btrans hb2 hb3)⟩
end Go.Proofs.YtilfamenadaboaaGreat
