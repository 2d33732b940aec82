/- 'FirstMeeting', on both sides. No condition. -/
import Derived.Test.YthadgdmooacccaaToRank
import Derived.Test.YthadgdmooacccaaLeadPoint
namespace Go.Proofs.Ythadgdmooacccaa
set_option linter.unusedSimpArgs false
set_option linter.unusedVariables false
set_option linter.unusedSectionVars false
open Go.RowKit
def leadB : Mp → List Int → List Int := fun f p => p.map f.at
theorem movedTo_test (f : Mp) (S j : Nat) : ∀ k, (movedTo f S k).testBit j = true ↔ ∃ i, i < k ∧ S.testBit i = true ∧ (f.to i).toNat = j
  | 0 => by simp [movedTo]
  | k + 1 => by
    have ih := movedTo_test f S j k
    unfold movedTo
    split
    · rename_i ht
      rw [Nat.testBit_or, Bool.or_eq_true, ih, Nat.one_shiftLeft, Nat.testBit_two_pow, decide_eq_true_eq]
      constructor
      · rintro (⟨i, h1, h2, h3⟩ | h)
        · exact ⟨i, by omega, h2, h3⟩
        · exact ⟨k, by omega, ht, h⟩
      · rintro ⟨i, h1, h2, h3⟩
        rcases Nat.lt_succ_iff_lt_or_eq.1 h1 with h | rfl
        · exact .inl ⟨i, h, h2, h3⟩
        · exact .inr h3
    · rename_i ht
      rw [ih]
      constructor
      · rintro ⟨i, h1, h2, h3⟩; exact ⟨i, by omega, h2, h3⟩
      · rintro ⟨i, h1, h2, h3⟩
        rcases Nat.lt_succ_iff_lt_or_eq.1 h1 with h | rfl
        · exact ⟨i, h, h2, h3⟩
        · exact absurd h2 ht
def InN (n : Int) (xs : List Int) : Prop := ∀ x ∈ xs, 0 ≤ x ∧ x < n
theorem InN.map {n : Int} {f : Mp} (hf : MpN f n) {xs : List Int} (h : InN n xs) : InN n (xs.map f.at) := fun y hy => by
  obtain ⟨x, hx, rfl⟩ := List.mem_map.1 hy
  exact hf.at (h x hx).1 (h x hx).2
theorem movedB_bits {n : Int} {f : Mp} (hf : MpN f n) {xs : List Int} (h : InN n xs) : movedB f (bitsN xs) = bitsN (xs.map f.at) := by
  refine Nat.eq_of_testBit_eq fun j => ?_
  rw [Bool.eq_iff_iff]
  unfold movedB
  rw [movedTo_test, bitsN_test (fun x hx => (InN.map hf h x hx).1), decide_eq_true_eq, List.mem_map, hf.2]
  constructor
  · rintro ⟨i, h1, h2, h3⟩
    rw [bitsN_test (fun x hx => (h x hx).1), decide_eq_true_eq] at h2
    refine ⟨i, h2, ?_⟩
    have := (hf.at (h _ h2).1 (h _ h2).2).1
    have e : f.at (i : Int) = f.to i := rfl
    rw [e] at this ⊢
    omega
  · rintro ⟨x, hx, hxj⟩
    have := h x hx
    refine ⟨x.toNat, by omega, ?_, ?_⟩
    · rw [bitsN_test (fun x hx => (h x hx).1), decide_eq_true_eq, Int.toNat_of_nonneg this.1]; exact hx
    · have e : f.at x = f.to x.toNat := rfl
      rw [← e, hxj]; omega
theorem MpN.getD {ms : List Mp} {n : Int} (h : RightL ms n) {k : Int} (h0 : 0 ≤ k) (h1 : k ≤ (ms.length : Int) - 1) : MpN (ms.getD k.toNat Mp.z) n := by
  have hk : k.toNat < ms.length := by omega
  rw [List.getD_eq_getElem?_getD, List.getElem?_eq_getElem hk]
  exact h.all _ (List.getElem_mem hk)
theorem run_bits {ms : List Mp} {n : Int} (h : RightL ms n) : ∀ (u xs : List Int), InN n xs → InL ms.length u → run (stB ms) (bitsN xs) u = bitsN (run (stp leadB ms) xs u) ∧ InN n (run (stp leadB ms) xs u) ∧ (run (stp leadB ms) xs u).length = xs.length
  | [], xs, hx, _ => ⟨rfl, hx, rfl⟩
  | k :: u, xs, hx, hu => by
    have hk := hu k (by simp)
    have hf := MpN.getD h hk.1 hk.2
    have ih := run_bits h u (xs.map (ms.getD k.toNat Mp.z).at) (InN.map hf hx) (fun j hj => hu j (by simp [hj]))
    rw [← movedB_bits hf hx, List.length_map] at ih
    exact ih
theorem onesB_two {x y : Int} (hx : 0 ≤ x ∧ x < 5) (hy : 0 ≤ y ∧ y < 5) : onesP 1 (bitsN [x, y]) = decide (x = y) := by
  rcases (by omega : x = 0 ∨ x = 1 ∨ x = 2 ∨ x = 3 ∨ x = 4) with rfl | rfl | rfl | rfl | rfl <;> rcases (by omega : y = 0 ∨ y = 1 ∨ y = 2 ∨ y = 3 ∨ y = 4) with rfl | rfl | rfl | rfl | rfl <;> rfl
def isEqP (p : List Int) : Bool := decide (p.headD 0 = p.getD 1 0)
theorem ptsAll_l {n : Int} (h : 0 ≤ n) {l : Nat} : ∀ p ∈ ptsAll n.toNat l, PtsL l n p := fun p hp => by have := ptsAll_mem.1 hp; rwa [Int.toNat_of_nonneg h] at this
theorem pt2 {n p q : Int} (h0 : 0 ≤ p ∧ p < n) (g0 : 0 ≤ q ∧ q < n) : PtsL 2 n [p, q] := ⟨rfl, fun x hx => by
  rcases List.mem_cons.1 hx with rfl | hx
  · exact h0
  · rw [List.mem_singleton.1 hx]; exact g0⟩
def fmeet (ms : List Mp) (p q : Int) : List Int × Int := fw (stB ms) ms.length (bitsN [p, q]) (onesP 1)
theorem bits2_lt {n p q : Int} (hn : 1 ≤ n ∧ n ≤ 5) (h0 : 0 ≤ p ∧ p < n) (g0 : 0 ≤ q ∧ q < n) : bitsN [p, q] < 2 ^ n.toNat := bitsN_lt fun x hx => by
  have := (pt2 h0 g0).2 x hx
  omega
theorem fmeet_eq {ms : List Mp} {n p q : Int} (hr : RightL ms n) (h0 : 0 ≤ p ∧ p < n) (g0 : 0 ≤ q ∧ q < n) : fw (stp leadB ms) ms.length [p, q] isEqP = fmeet ms p q :=
  fw_eq (lead_univ hr (by omega) (pt2 h0 g0)) (univB hr (bits2_lt hr.bounds h0 g0)) hr.six fun u hu => by
    have hb := hr.bounds
    obtain ⟨e, h1, h2⟩ := run_bits hr u [p, q] (pt2 h0 g0).2 hu
    rw [e]
    show isEqP (run (stp leadB ms) [p, q] u) = _
    generalize run (stp leadB ms) [p, q] u = r at *
    match r, h2 with
    | [x, y], _ =>
      have hx := h1 x (by simp)
      have hy := h1 y (by simp)
      rw [onesB_two ⟨hx.1, by omega⟩ ⟨hy.1, by omega⟩]
      rfl
theorem fw_cases {σ : Type} [DecidableEq σ] (st : Nat → σ → σ) (L : Nat) (start : σ) (P : σ → Bool) : (∃ u, fw st L start P = (u, 0)) ∨ fw st L start P = ([], 4) := by
  cases h : (gF st L start).find? (fun m => P m.1) with
  | some m => exact .inl ⟨m.2, fw_some h⟩
  | none => exact .inr (fw_none h)
theorem fw_length {σ : Type} [DecidableEq σ] (st : Nat → σ → σ) (L : Nat) (start : σ) (P : σ → Bool) : (fw st L start P).1.length ≤ 1000 := by
  cases h : (gF st L start).find? (fun m => P m.1) with
  | some m =>
    rw [fw_some h]
    have := List.mem_of_find?_eq_some h
    unfold gF at this
    exact gb_words 1000 m this
  | none => rw [fw_none h]; simp
theorem OwnInts.two (w : World) (base : Nat) (hb : base ≤ w.heap.size) (x y : Int) : OwnInts (w.alloc (.cells #[.int .i64 x, .int .i64 y] 2)) base (.slice (some ⟨w.heap.size, 0, none⟩) 2 2) [x, y] :=
  ⟨rfl, .inr ⟨w.heap.size, 2, #[.int .i64 x, .int .i64 y], rfl, hb, heap_alloc_new w _, Nat.le_refl _, by decide, rfl, rfl⟩⟩
theorem SeeMaps.inS {w : World} {A : Option Addr} {ms : List Mp} (h : SeeMaps w A ms) (hn : 0 < ms.length) : InS (fun k => k < w.heap.size) A := fun a ha => by
  obtain ⟨b, o, m, e, _, g⟩ := h.at_ hn
  rw [e] at ha
  obtain rfl := Option.some.inj ha
  exact World.block_lt_of_cell? w _ g.h0
/-- the first words that are handed back -/
def WPost (r : List Int × Int) (w : World) (e : Ending) (w' : World) : Prop := ∃ v, e = .returned (.tuple #[v, .int .i64 r.2]) ∧ OwnInts w' w.heap.size v r.1 ∧ Below w.heap.size w w'
theorem WPost.nil {w w' : World} {k : Int} (hb : Below w.heap.size w w') : WPost ([], k) w (.returned (.tuple #[.slice none 0 0, .int .i64 k])) w' := ⟨_, rfl, OwnInts.nil _ _, hb⟩
theorem meeting1_ok (n : Int) (w : World) (hn : 0 ≤ n) : IsOk 112 #[] isEqP (ptsAll n.toNat 2) w := fun W D d p hp hs hb => by
  have hpl := (ptsAll_l hn p hp).1
  obtain ⟨b1, o1, x, rfl, hx, q⟩ := hs.at_ (k := 0) (by omega)
  obtain ⟨b1', o1', y, e2, hy, q'⟩ := hs.at_ (k := 1) (by omega)
  simp only [Option.some.injEq, Addr.mk.injEq, and_true] at e2
  obtain ⟨rfl, rfl⟩ := e2
  have e : p.headD 0 = x := by cases p with | nil => simp at hx | cons y t => simp at hx; simp [hx]
  have e' : p.getD 1 0 = y := by rw [List.getD_eq_getElem?_getD, hy]; rfl
  rw [Nat.add_zero] at q
  unfold isEqP
  rw [e, e', hpl]
  have Q := bwcell q
  have Q' := bwcell q'
  clear e e' hx hy hs hp hpl q q' hb
  show Calls Try.prog 112 #[.slice (some ⟨b1, o1, none⟩) 2 d] W _
  go_enter Try.func112, Try.ntmps112
  go_wp2
  refine wp_region_bw (by kernel_rfl) (by kernel_rfl) ?_
  repeat go_big_quiet_step (fail)
  refine wpQuiet_nil ?_
  rintro w4 ⟨⟨w4x, hb4⟩, rfl⟩
  go_wp2
  go_returns
  exact ⟨ret_bool rfl, hb4⟩
set_option maxHeartbeats 1000000 in
theorem meeting_c (A : Option Addr) (c : Nat) (ms : List Mp) (n p q : Int) (w : World) (h : SeeMaps w A ms) (hr : RightL ms n) (h0 : 0 ≤ p ∧ p < n) (g0 : 0 ≤ q ∧ q < n) :
    Calls Try.prog 83 #[.slice A ms.length c, .int .i64 p, .int .i64 q] w (WPost (fmeet ms p q) w) := by
  have nn : 0 ≤ n := by omega
  have hr2 := fmeet_eq hr h0 g0
  have hU := lead_univ hr (by omega) (pt2 h0 g0)
  obtain ⟨r, hre⟩ : ∃ r, r = fmeet ms p q := ⟨_, rfl⟩
  rw [← hre] at hr2 ⊢
  have hF : ∀ (W : World) (F : Option Addr) (fc : Nat), Below w.heap.size w W → SeeInts W F [p, q] → InS (fun k => k < W.heap.size) F →
      Calls Try.prog 87 #[.slice A ms.length c, .slice F 2 fc, .func (.func 111) #[] #[], .func (.func 112) #[] #[]] W (FWpost r W) := fun W F fc hb hs hi => by
    rw [← hr2]
    exact firstWord_c (A := A) (F := F) (c := c) (fc := fc) (ms := ms) (start := [p, q]) (gB := 111) (gI := 112) (lbB := #[]) (lbI := #[]) (U := ptsAll n.toNat 2) (by_ := leadB) (is := isEqP) W (h.below hb) ((h.below hb).inS hr.pos) hr.six hs hi hU (fun p hp => by have := (ptsAll_l nn p hp).1; omega) leadEnters (enters_of Try.func112 (by kernel_rfl) rfl) (lead_by 2 n ms _ hr.all (ptsAll_l nn) (by omega)) (meeting1_ok n W nn)
  have HF := Lib.hid hF
  clear hF hU hr hre hr2 h
  go_enter Try.func83, Try.ntmps83
  go_wp2_with fail
  have k0 : Below w.heap.size w (w.alloc (Obj.cells #[Value.int .i64 p, .int .i64 q] 2)) := by go_grown
  have hs := (OwnInts.two w 0 (Nat.zero_le _) p q).see'
  refine (HF.out _ _ _ k0 hs (fun a ha => by obtain rfl := Option.some.inj ha; simp)).mono ?_
  rintro e w2 ⟨v, rfl, hown, hb2⟩
  obtain ⟨A1, c1, rfl, _⟩ := hown.see
  go_wp2
  go_returns
  exact ⟨_, rfl, hown.mono k0.size, btrans k0 hb2⟩
end Go.Proofs.Ythadgdmooacccaa
