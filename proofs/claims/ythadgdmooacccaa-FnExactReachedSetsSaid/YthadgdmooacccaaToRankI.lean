/- 'points', 'toRank': the program's first word to a rank. No condition. -/
import Derived.Test.YthadgdmooacccaaImage
import Derived.Test.YthadgdmooacccaaMeet
namespace Go.Proofs.Ythadgdmooacccaa
set_option linter.unusedSimpArgs false
set_option linter.unusedVariables false
set_option linter.unusedSectionVars false
open Go.RowKit
def ptsN (n : Nat) : List Int := (List.range n).map fun (i : Nat) => (i : Int)
theorem ptsN_succ (k : Nat) : ptsN (k + 1) = ptsN k ++ [(k : Int)] := by unfold ptsN; rw [List.range_succ, List.map_append]; rfl
theorem ptsN_length (k : Nat) : (ptsN k).length = k := by simp [ptsN]
set_option maxHeartbeats 1000000 in
theorem points_c (n : Int) (w : World) (h0 : 0 ≤ n) (h5 : n ≤ 5) :
    Calls Try.prog 82 #[.int .i64 n] w fun e w' => ∃ v, e = .returned v ∧ OwnInts w' w.heap.size v (ptsN n.toNat) ∧ Below w.heap.size w w' := by
  go_enter Try.func82, Try.ntmps82
  go_wp2
  go_loopw [6, 3] (fun i out wr => ∃ k : Nat, (k : Int) ≤ n ∧ i = .int .i64 k ∧ OwnInts wr w.heap.size out (ptsN k) ∧ Below w.heap.size w wr) (fun i _ _ => 5 - (intOf i).toNat)
  case atStart => exact ⟨0, h0, rfl, OwnInts.nil _ _, Below.refl _ _⟩
  case round =>
    obtain ⟨k, hk, rfl, hown, hb⟩ := hrel
    have hz := hb.size
    by_cases hlt : (k : Int) < n
    · have hl := ptsN_length k
      have HS := Lib.hid (ptsN_succ k)
      generalize ptsN k = xs at *
      go_wp2_with (at_builtin; refine wpList_push_int _ rfl (.tmp 9) (.tmp 11) rfl w.heap.size _ _ rfl (hown.below (by go_grown)) ⟨wr.heap.size, 0, none⟩ (k : Int) rfl (by simp [go_sem]) (by omega) (by go_size) ?_; intro v' w3 hown' hgrow hv')
      go_roundw
      case rel => exact ⟨k + 1, by omega, by go_num, by rw [HS.out]; exact hown', Below.grown (w := wr.alloc (.cells #[.int .i64 (k : Int)] 2)) (by go_grown) hgrow (by simp; omega) (fun j hj => (hown.lt j hj).1)⟩
      case measure => simp [intOf]; omega
    · have e : k = n.toNat := by omega
      subst e
      go_wp2
      go_returns
      exact ⟨_, rfl, hown, hb⟩
/-! ### sets as lists, sets as numbers -/
def AL (n : Int) (xs : List Int) : Prop := Asc xs ∧ InN n xs
def ptsOf (S : Nat) : List Int := ((List.range 5).filter S.testBit).map fun (i : Nat) => (i : Int)
theorem ptsOf_asc (S : Nat) : Asc (ptsOf S) := by
  unfold ptsOf Asc
  rw [List.pairwise_map]
  refine (List.Pairwise.filter _ List.pairwise_lt_range).imp fun h => ?_
  omega
theorem ptsOf_mem {S : Nat} {x : Int} : x ∈ ptsOf S ↔ ∃ i : Nat, i < 5 ∧ S.testBit i = true ∧ (i : Int) = x := by
  unfold ptsOf
  simp only [List.mem_map, List.mem_filter, List.mem_range]
  constructor
  · rintro ⟨i, ⟨h1, h2⟩, h3⟩; exact ⟨i, h1, h2, h3⟩
  · rintro ⟨i, h1, h2, h3⟩; exact ⟨i, ⟨h1, h2⟩, h3⟩
theorem AL.bits_lt {n : Int} (hn : n ≤ 5) {xs : List Int} (h : AL n xs) : bitsN xs < 2 ^ n.toNat := bitsN_lt fun x hx => by have := h.2 x hx; omega
theorem AL.pts {n : Int} (hn : n ≤ 5) {xs : List Int} (h : AL n xs) : ptsOf (bitsN xs) = xs := asc_ext (ptsOf_asc _) h.1 fun x => by
  rw [ptsOf_mem]
  constructor
  · rintro ⟨i, h1, h2, rfl⟩
    rw [bitsN_test (fun x hx => (h.2 x hx).1), decide_eq_true_eq] at h2
    exact h2
  · intro hx
    have := h.2 x hx
    refine ⟨x.toNat, by omega, ?_, by omega⟩
    rw [bitsN_test (fun x hx => (h.2 x hx).1), decide_eq_true_eq, Int.toNat_of_nonneg this.1]
    exact hx
theorem ones_len : ∀ S, S < 32 → onesB S = (ptsOf S).length := by decide
theorem AL.ones {n : Int} (hn : n ≤ 5) {xs : List Int} (h : AL n xs) : onesB (bitsN xs) = xs.length := by
  have h1 := h.bits_lt hn
  have : 2 ^ n.toNat ≤ 2 ^ 5 := Nat.pow_le_pow_right (by decide) (by omega)
  rw [ones_len _ (by omega), h.pts hn]
def subs (n : Int) : List (List Int) := (List.range (2 ^ n.toNat)).map ptsOf
theorem subs_mem {n : Int} (h0 : 0 ≤ n) (hn : n ≤ 5) {xs : List Int} : xs ∈ subs n ↔ AL n xs := by
  unfold subs
  rw [List.mem_map]
  constructor
  · rintro ⟨S, hS, rfl⟩
    refine ⟨ptsOf_asc S, fun x hx => ?_⟩
    obtain ⟨i, h1, h2, rfl⟩ := ptsOf_mem.1 hx
    refine ⟨by omega, ?_⟩
    rcases Nat.lt_or_ge i n.toNat with h | h
    · omega
    · have := Nat.testBit_lt_two_pow (Nat.lt_of_lt_of_le (List.mem_range.1 hS) (Nat.pow_le_pow_right (by decide) h))
      rw [this] at h2; cases h2
  · intro h
    exact ⟨bitsN xs, List.mem_range.2 (h.bits_lt hn), h.pts hn⟩
theorem imgL_in {n : Int} {f : Mp} (hf : MpN f n) {xs : List Int} (h : InN n xs) : AL n (imgL f xs) := ⟨imgL_asc f xs, fun x hx => InN.map hf h x (imgL_mem.1 hx)⟩
theorem univI {ms : List Mp} {n : Int} (hr : RightL ms n) {xs : List Int} (h : AL n xs) : Univ (stp imgL ms) ms.length xs (subs n) :=
  have hb := hr.bounds
  ⟨(subs_mem (by omega) hb.2).2 h, fun j hj s hs => (subs_mem (by omega) hb.2).2 (by
    have hf : MpN (ms.getD j Mp.z) n := by
      rw [List.getD_eq_getElem?_getD, List.getElem?_eq_getElem hj]
      exact hr.all _ (List.getElem_mem hj)
    exact imgL_in hf ((subs_mem (by omega) hb.2).1 hs).2), by
    unfold subs
    rw [List.length_map, List.length_range]
    have : 2 ^ n.toNat ≤ 2 ^ 5 := Nat.pow_le_pow_right (by decide) (by omega)
    omega⟩
theorem movedB_img {n : Int} {f : Mp} (hf : MpN f n) {xs : List Int} (h : InN n xs) : movedB f (bitsN xs) = bitsN (imgL f xs) := by
  rw [movedB_bits hf h]
  refine Nat.eq_of_testBit_eq fun j => ?_
  rw [bitsN_test (fun x hx => (InN.map hf h x hx).1), bitsN_test (fun x hx => ((imgL_in hf h).2 x hx).1), Bool.eq_iff_iff, decide_eq_true_eq, decide_eq_true_eq, imgL_mem]
theorem run_img {ms : List Mp} {n : Int} (h : RightL ms n) : ∀ (u xs : List Int), AL n xs → InL ms.length u → run (stB ms) (bitsN xs) u = bitsN (run (stp imgL ms) xs u) ∧ AL n (run (stp imgL ms) xs u)
  | [], xs, hx, _ => ⟨rfl, hx⟩
  | k :: u, xs, hx, hu => by
    have hk := hu k (by simp)
    have hf := MpN.getD h hk.1 hk.2
    have ih := run_img h u (imgL (ms.getD k.toNat Mp.z) xs) (imgL_in hf hx.2) (fun j hj => hu j (by simp [hj]))
    rw [← movedB_img hf hx.2] at ih
    exact ih
theorem fw_img {ms : List Mp} {n : Int} (hr : RightL ms n) {xs : List Int} (h : AL n xs) {is : List Int → Bool} {P : Nat → Bool} (hp : ∀ ys, AL n ys → is ys = P (bitsN ys)) : fw (stp imgL ms) ms.length xs is = fw (stB ms) ms.length (bitsN xs) P :=
  fw_eq (univI hr h) (univB hr (h.bits_lt hr.bounds.2)) hr.six fun u hu => by
    obtain ⟨e, h1⟩ := run_img hr u xs h hu
    rw [e]
    exact hp _ h1
theorem ptsN_AL {n : Int} (h0 : 0 ≤ n) : AL n (ptsN n.toNat) := ⟨by
  unfold ptsN Asc
  rw [List.pairwise_map]
  exact List.pairwise_lt_range.imp fun h => by omega, fun x hx => by
  unfold ptsN at hx
  obtain ⟨i, hi, rfl⟩ := List.mem_map.1 hx
  have := List.mem_range.1 hi
  omega⟩
theorem ptsN_bits {n : Int} (h0 : 1 ≤ n) (h5 : n ≤ 5) : bitsN (ptsN n.toNat) = 2 ^ n.toNat - 1 := by
  rcases (by omega : n = 1 ∨ n = 2 ∨ n = 3 ∨ n = 4 ∨ n = 5) with rfl | rfl | rfl | rfl | rfl <;> rfl
/-! ### toRank -/
def isLe (r : Int) (ys : List Int) : Bool := decide ((ys.length : Int) ≤ r)
theorem isLe_ones {n r : Int} (hn : n ≤ 5) {ys : List Int} (h : AL n ys) : isLe r ys = onesP r (bitsN ys) := by unfold isLe onesP; rw [h.ones hn]
theorem toRank1_ok (n r : Int) (b : Nat) (w : World) (h0 : 0 ≤ n) (hn : n ≤ 5) (hv : VBox w b (.int .i64 r)) : IsOk 107 #[.pointer (some ⟨b, 0, none⟩)] (isLe r) (subs n) w := fun W D d p hp hs hb => by
  have c0 := (hv.below hb).cell
  unfold isLe
  show Calls Try.prog 107 #[.slice D p.length d, .pointer (some ⟨b, 0, none⟩)] W _
  clear hs hp hv hb
  by_cases hle : (p.length : Int) ≤ r
  · rw [decide_eq_true hle]
    go_enter Try.func107, Try.ntmps107
    go_wp2
    go_returns
    exact ⟨by simp [hle], Below.refl _ _⟩
  · rw [decide_eq_false hle]
    go_enter Try.func107, Try.ntmps107
    go_wp2
    go_returns
    exact ⟨by simp [hle], Below.refl _ _⟩
theorem image_by (n : Int) (ms : List Mp) (h0 : 0 ≤ n) (hn : n ≤ 5) (hm : ∀ m ∈ ms, MpN m n) : ByOk 71 #[] imgL ms (subs n) := fun W f A c p hf hp h => by
  have hal := (subs_mem h0 hn).1 hp
  have hl : p.length ≤ 2097152 := by
    have := hal.ones hn
    have h2 : onesB (bitsN p) ≤ 6 := onesTo_le _ 6
    omega
  exact image_c f n A c p W (hm f hf) h hal.2 hl
def ftoRank (ms : List Mp) (n r : Int) : List Int × Int := fw (stB ms) ms.length (2 ^ n.toNat - 1) (onesP r)
theorem AL.short {n : Int} (hn : n ≤ 5) {p : List Int} (h : AL n p) : p.length ≤ 6 := by
  have := h.ones hn
  have h2 : onesB (bitsN p) ≤ 6 := onesTo_le _ 6
  omega
set_option maxHeartbeats 1000000 in
theorem toRank_c (A : Option Addr) (c : Nat) (ms : List Mp) (n r : Int) (w : World) (h : SeeMaps w A ms) (hr : RightL ms n) :
    Calls Try.prog 76 #[.slice A ms.length c, .int .i64 r] w (WPost (ftoRank ms n r) w) := by
  have hb := hr.bounds
  have h0 : 0 ≤ n := by omega
  have hal := ptsN_AL h0
  have hr2 := fw_img hr hal (is := isLe r) (P := onesP r) (fun ys hy => isLe_ones hb.2 hy)
  rw [ptsN_bits hb.1 hb.2] at hr2
  obtain ⟨res, hre⟩ : ∃ res, res = ftoRank ms n r := ⟨_, rfl⟩
  change _ = ftoRank ms n r at hr2
  rw [← hre] at hr2 ⊢
  have hF : ∀ (W : World) (F : Option Addr) (fc b : Nat), Below w.heap.size w W → VBox W b (.int .i64 r) → SeeInts W F (ptsN n.toNat) → InS (fun k => k < W.heap.size) F →
      Calls Try.prog 87 #[.slice A ms.length c, .slice F (ptsN n.toNat).length fc, .func (.func 71) #[] #[], .func (.func 107) #[] #[.pointer (some ⟨b, 0, none⟩)]] W (FWpost res W) := fun W F fc b hbw hv hs hi => by
    rw [← hr2]
    exact firstWord_c (A := A) (F := F) (c := c) (fc := fc) (ms := ms) (start := ptsN n.toNat) (gB := 71) (gI := 107) (lbB := #[]) (lbI := #[.pointer (some ⟨b, 0, none⟩)]) (U := subs n) (by_ := imgL) (is := isLe r) W (h.below hbw) ((h.below hbw).inS hr.pos) hr.six hs hi (univI hr hal) (fun p hp => by have := ((subs_mem h0 hb.2).1 hp).short hb.2; omega) imageEnters (enters_of Try.func107 (by kernel_rfl) rfl) (image_by n ms h0 hb.2 hr.all) (toRank1_ok n r b W h0 hb.2 hv)
  obtain ⟨b0, o0, m0, rfl, hm0, g0⟩ := h.at_ hr.pos
  have hmp : m0.p = n := (hr.all m0 (List.mem_of_getElem? hm0)).2
  have p0 := g0.h0
  rw [hmp, Nat.zero_mul, Nat.add_zero] at p0
  have lpos := hr.pos
  have HF := Lib.hid hF
  clear hF hr hre hr2 h hal hm0 g0 hmp
  have k0 : Below w.heap.size w (w.alloc (.cells #[.int .i64 r] 3)) := by go_grown
  replace p0 := bcell k0 p0
  go_enter Try.func76, Try.ntmps76
  go_wp2_with fail
  have hv := VBox.new (w := w) (.int .i64 r) 3 rfl
  refine (points_c n _ h0 hb.2).mono ?_
  rintro e w1 ⟨v1, rfl, hown1, hb1⟩
  obtain ⟨A1, c1, rfl, hs1⟩ := hown1.see
  have hk1 := btrans k0 hb1
  have hin : InS (fun k => k < w1.heap.size) A1 := fun a ha => (own_block hown1 a ha).2
  go_wp2_with fail
  refine (HF.out w1 A1 c1 w.heap.size hk1 (hv.below hb1) hs1 hin).mono ?_
  rintro e w2 ⟨v, rfl, hown, hb2⟩
  obtain ⟨A2, c2, rfl, _⟩ := hown.see
  go_wp2
  go_returns
  exact ⟨_, rfl, hown.mono hk1.size, btrans hk1 hb2⟩
end Go.Proofs.Ythadgdmooacccaa
