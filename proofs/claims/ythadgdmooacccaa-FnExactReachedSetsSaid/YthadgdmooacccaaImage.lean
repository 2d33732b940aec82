/- 'Map.image': the points to which a map leads some, ascending. No condition. -/
import Derived.Test.YthadgdmooacccaaSortRow
import Derived.Test.YthadgdmooacccaaFirst
namespace Go.Proofs.Ythadgdmooacccaa
set_option linter.unusedSimpArgs false
set_option linter.unusedVariables false
set_option linter.unusedSectionVars false
open Go.RowKit
def Asc (xs : List Int) : Prop := xs.Pairwise (· < ·)
theorem asc_ext : ∀ {xs ys : List Int}, Asc xs → Asc ys → (∀ x, x ∈ xs ↔ x ∈ ys) → xs = ys
  | [], [], _, _, _ => rfl
  | [], y :: ys, _, _, h => absurd ((h y).2 (by simp)) (by simp)
  | x :: xs, [], _, _, h => absurd ((h x).1 (by simp)) (by simp)
  | x :: xs, y :: ys, hx, hy, h => by
    obtain ⟨h1, h2⟩ := List.pairwise_cons.1 hx
    obtain ⟨h3, h4⟩ := List.pairwise_cons.1 hy
    have e : x = y := by
      have a1 := (h x).1 (by simp)
      have a2 := (h y).2 (by simp)
      rcases List.mem_cons.1 a1 with e | a1
      · exact e
      · rcases List.mem_cons.1 a2 with e | a2
        · exact e.symm
        · have b1 := h3 x a1
          have b2 := h1 y a2
          omega
    subst e
    rw [asc_ext h2 h4 fun z => ?_]
    constructor
    · intro hz
      rcases List.mem_cons.1 ((h z).1 (by simp [hz])) with e | hz'
      · have := h1 z hz; omega
      · exact hz'
    · intro hz
      rcases List.mem_cons.1 ((h z).2 (by simp [hz])) with e | hz'
      · have := h3 z hz; omega
      · exact hz'
theorem cu_spec (d : Array Int) (hs : ∀ i j, i ≤ j → j < d.size → d[i]! ≤ d[j]!) : ∀ m, m ≤ d.size → (∀ x, x ∈ Lib.compactUpTo d m ↔ ∃ i, i < m ∧ d[i]! = x) ∧ Asc (Lib.compactUpTo d m)
  | 0, _ => ⟨fun x => by simp [Lib.compactUpTo], by simp [Lib.compactUpTo, Asc]⟩
  | m + 1, hm => by
    obtain ⟨h1, h2⟩ := cu_spec d hs m (by omega)
    rw [Lib.compactUpTo_succ]
    by_cases hk : m = 0 ∨ d[m]! ≠ d[m - 1]!
    · rw [if_pos (by unfold Lib.keeps; exact decide_eq_true hk)]
      refine ⟨fun x => ?_, List.pairwise_append.2 ⟨h2, by simp, fun a ha b hb => ?_⟩⟩
      · rw [List.mem_append, h1, List.mem_singleton]
        constructor
        · rintro (⟨i, hi, e⟩ | rfl)
          · exact ⟨i, by omega, e⟩
          · exact ⟨m, by omega, rfl⟩
        · rintro ⟨i, hi, rfl⟩
          rcases Nat.lt_succ_iff_lt_or_eq.1 hi with h | rfl
          · exact .inl ⟨i, h, rfl⟩
          · exact .inr rfl
      · rw [List.mem_singleton.1 hb]
        obtain ⟨i, hi, rfl⟩ := (h1 a).1 ha
        have a1 := hs i (m - 1) (by omega) (by omega)
        have a2 := hs (m - 1) m (by omega) (by omega)
        rcases hk with hk | hk
        · omega
        · omega
    · rw [if_neg (by unfold Lib.keeps; simpa using hk), List.append_nil]
      refine ⟨fun x => ?_, h2⟩
      rw [h1]
      have hm0 : m ≠ 0 := fun e => hk (.inl e)
      have he : d[m]! = d[m - 1]! := Classical.byContradiction fun e => hk (.inr e)
      constructor
      · rintro ⟨i, hi, e⟩; exact ⟨i, by omega, e⟩
      · rintro ⟨i, hi, rfl⟩
        rcases Nat.lt_succ_iff_lt_or_eq.1 hi with h | rfl
        · exact ⟨i, h, rfl⟩
        · exact ⟨i - 1, by omega, he.symm⟩
theorem sort_mem {xs : List Int} {x : Int} : x ∈ sortI xs ↔ x ∈ xs := List.mem_mergeSort
theorem comp_sort (xs : List Int) : (∀ x, x ∈ Lib.compact (sortI xs) ↔ x ∈ xs) ∧ Asc (Lib.compact (sortI xs)) := by
  have hp : (sortI xs).Pairwise (fun x y => decide (x ≤ y)) := List.pairwise_mergeSort (fun a b c => by simp only [decide_eq_true_eq]; omega) (fun a b => by simp only [Bool.or_eq_true, decide_eq_true_eq]; omega) xs
  have hs : ∀ i j, i ≤ j → j < (sortI xs).toArray.size → (sortI xs).toArray[i]! ≤ (sortI xs).toArray[j]! := fun i j hij hj => by
    have hj' : j < (sortI xs).length := by simpa using hj
    rw [getElem!_pos _ i (by simp; omega), getElem!_pos _ j hj]
    rcases Nat.lt_or_eq_of_le hij with h | rfl
    · have := List.pairwise_iff_getElem.1 hp i j (by omega) hj' h
      simpa using this
    · exact Int.le_refl _
  obtain ⟨h1, h2⟩ := cu_spec (sortI xs).toArray hs (sortI xs).length (by simp)
  refine ⟨fun x => ?_, h2⟩
  show x ∈ Lib.compactUpTo (sortI xs).toArray (sortI xs).length ↔ _
  rw [h1, ← sort_mem (xs := xs)]
  constructor
  · rintro ⟨i, hi, rfl⟩
    rw [getElem!_pos _ i (by simpa using hi)]
    exact List.getElem_mem hi
  · intro hx
    obtain ⟨i, hi, rfl⟩ := List.mem_iff_getElem.1 hx
    exact ⟨i, hi, by rw [getElem!_pos _ i (by simpa using hi)]; rfl⟩
/-- what a map makes of a set -/
def imgL (f : Mp) (xs : List Int) : List Int := Lib.compact (sortI (xs.map f.at))
theorem imgL_mem {f : Mp} {xs : List Int} {x : Int} : x ∈ imgL f xs ↔ x ∈ xs.map f.at := (comp_sort _).1 x
theorem imgL_asc (f : Mp) (xs : List Int) : Asc (imgL f xs) := (comp_sort _).2
theorem imgL_len (f : Mp) (xs : List Int) : (imgL f xs).length ≤ xs.length := by
  have := comp_len (sortI (xs.map f.at))
  rw [sortI_length, List.length_map] at this
  exact this
set_option maxHeartbeats 1000000 in
theorem image_c (f : Mp) (n : Int) (A : Option Addr) (c : Nat) (ps : List Int) (w : World) (hf : MpN f n) (h : SeeInts w A ps) (hp : ∀ p ∈ ps, 0 ≤ p ∧ p < n) (hln : ps.length ≤ 2097152) :
    Calls Try.prog 71 #[.agg #[.int .i64 f.p, .int .i64 f.a, .int .i64 f.b, .int .i64 f.c, .int .i64 f.d, .int .i64 f.e], .slice A ps.length c] w fun e w' => ∃ v, e = .returned v ∧ OwnInts w' w.heap.size v (imgL f ps) ∧ Below w.heap.size w w' := by
  have n5 : n ≤ 5 := by have := hf.1.2.1; have := hf.2; omega
  have HP := Lib.hid hp
  clear hp
  go_enter Try.func71, Try.ntmps71
  go_wp2
  go_loopw [10, 5] (fun i out wr => ∃ k : Nat, k ≤ ps.length ∧ i = .int .i64 k ∧ OwnInts wr (w.heap.size + 1) out ((ps.take k).map f.at) ∧ MpAt wr w.heap.size 0 f ∧ Below w.heap.size w wr) (fun i _ _ => ps.length - (intOf i).toNat)
  case atStart => exact ⟨0, Nat.zero_le _, rfl, OwnInts.nil _ _, MpAt.boxed w f _, by go_grown⟩
  case round =>
    obtain ⟨k, hk, rfl, hown, hm, hb⟩ := hrel
    have hsz1 : w.heap.size < wr.heap.size := World.block_lt_of_cell? wr ⟨w.heap.size, 0, none⟩ hm.h0
    by_cases hlt : k < ps.length
    · obtain ⟨b, o, p, rfl, hx, q⟩ := (h.below hb).at_ hlt
      obtain ⟨p0, p1⟩ := HP.out p (List.mem_of_getElem? hx)
      have g := hm.to' (i := p.toNat) (by omega)
      have e : f.to p.toNat = f.at p := rfl
      rw [e] at g
      have p5 : p < 5 := by omega
      have hl : (0 : Int) ≤ k := by omega
      have hl' : (k : Int) < ps.length := by omega
      have HX := Lib.hid hx
      have hne := hown.lt w.heap.size
      have HNE := Lib.hid hne
      clear hx e h hne
      go_wp2_with (at_builtin; refine wpList_push_int _ rfl (.tmp 14) (.tmp 19) rfl (w.heap.size + 1) _ _ rfl (hown.below (by go_grown)) ⟨wr.heap.size, 0, none⟩ (f.at p) rfl (by simp [go_sem]) (by simp; omega) (by simp; omega) ?_; intro v' w3 hown' hgrow hv')
      go_roundw
      case rel => exact ⟨k + 1, by omega, by go_num, by rw [take_map f.at HX.out]; exact hown', (hm.below (kbelow wr _)).grow hgrow (fun e => by have := HNE.out e; omega), Below.grown (w := wr.alloc (.cells #[.int .i64 (f.at p)] 2)) (by go_grown) hgrow (by simp; omega) (fun j hj => by have := (hown.lt j hj).1; omega)⟩
      case measure => simp [intOf]; omega
    · obtain rfl : k = ps.length := by omega
      rw [List.take_length] at hown
      obtain ⟨ys, hys⟩ : ∃ ys, ys = ps.map f.at := ⟨_, rfl⟩
      have hyl : ys.length ≤ 2097152 := by rw [hys, List.length_map]; exact hln
      rw [← hys] at hown
      have HY := Lib.hid (show imgL f ps = Lib.compact (sortI ys) by unfold imgL; rw [hys])
      clear hys
      rcases Nat.eq_zero_or_pos ys.length with h0 | h0
      · obtain rfl := List.eq_nil_of_length_eq_zero h0
        obtain ⟨A', c', rfl, _⟩ := hown.see
        clear h0 hyl
        go_wp2_with fail
        refine (Sort_none_c _ A' c').mono ?_
        rintro e w2 ⟨rfl, hb2⟩
        go_wp2_with fail
        refine (Compact_none_c _ A' c').mono ?_
        rintro e w3 ⟨rfl, hb3⟩
        go_wp2
        go_returns
        rw [HY.out, show Lib.compact (sortI []) = [] from List.eq_nil_of_length_eq_zero (Nat.le_zero.1 (by have := comp_len (sortI []); rwa [sortI_length] at this))]
        exact ⟨_, rfl, ((hown.below hb2).below hb3).mono (base' := w.heap.size) (by omega), btrans (btrans hb hb2) hb3⟩
      · obtain ⟨A', c', rfl, hs⟩ := hown.see
        obtain ⟨y, o, x, rfl, _, _⟩ := hs.at_ h0
        have ho : o = 0 := by
          rcases hown.2 with ⟨h2, _⟩ | ⟨g', cap, cur, h2, _⟩
          · cases h2
          · simp only [Value.slice.injEq, Option.some.injEq, Addr.mk.injEq, and_true] at h2; exact h2.1.2
        subst ho
        have hlt := hown.lt y rfl
        clear hs h
        go_wp2_with fail
        refine (Sort_c _ (w.heap.size + 1) y c' ys hown hyl).mono ?_
        rintro e w2 ⟨rfl, hown2, hk2⟩
        have hl2 := sortI_length ys
        rw [← hl2] at hown2
        go_wp2_with fail
        rw [← hl2]
        refine (Compact_c _ (w.heap.size + 1) y c' (sortI ys) hown2 (by omega)).mono ?_
        rintro e w3 ⟨rfl, hown3, hk3⟩
        go_wp2
        go_returns
        rw [HY.out]
        exact ⟨_, rfl, hown3.mono (by omega), hb.trans ((hk2.trans hk3).below (B := w.heap.size) hb.size (fun i hi => by show i ≠ y; omega))⟩
theorem imageEnters : Enters Try.prog 71 := enters_of Try.func71 (by kernel_rfl) rfl
end Go.Proofs.Ythadgdmooacccaa
