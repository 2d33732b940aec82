/- 'lead' leads each point of a list by a map. No condition. -/
import Derived.Test.YthadgdmooacccaaSearch
import Derived.Test.YthadgdmooacccaaPure
import Derived.Test.YthadgdmooacccaaMul
import Derived.Test.YthadgdmooacccaaBase
namespace Go.Proofs.Ythadgdmooacccaa
set_option linter.unusedSimpArgs false
set_option linter.unusedVariables false
set_option linter.unusedSectionVars false
open Go.RowKit
theorem MpAt.grow {w w' : World} {b o : Nat} {m : Mp} {row : Option Nat} (h : MpAt w b o m) (hg : w.grownBy w' row) (hr : row ≠ some b) : MpAt w' b o m :=
  ⟨hg.cell h.h0 (Ne.symm hr), hg.cell h.h1 (Ne.symm hr), hg.cell h.h2 (Ne.symm hr), hg.cell h.h3 (Ne.symm hr), hg.cell h.h4 (Ne.symm hr), hg.cell h.h5 (Ne.symm hr)⟩
theorem take_map {α β : Type} (g : α → β) {xs : List α} {k : Nat} {x : α} (h : xs[k]? = some x) : (xs.take (k + 1)).map g = (xs.take k).map g ++ [g x] := by
  rw [List.take_add_one, h]; simp
set_option maxHeartbeats 1000000 in
theorem lead_c (f : Mp) (n : Int) (A : Option Addr) (c : Nat) (ps : List Int) (w : World) (hf : MpN f n) (h : SeeInts w A ps) (hp : ∀ p ∈ ps, 0 ≤ p ∧ p < n) (hln : ps.length ≤ 2097152) :
    Calls Try.prog 111 #[.agg #[.int .i64 f.p, .int .i64 f.a, .int .i64 f.b, .int .i64 f.c, .int .i64 f.d, .int .i64 f.e], .slice A ps.length c] w fun e w' => ∃ v, e = .returned v ∧ OwnInts w' w.heap.size v (ps.map f.at) ∧ Below w.heap.size w w' := by
  have n5 : n ≤ 5 := by have := hf.1.2.1; have := hf.2; omega
  have HP := Lib.hid hp
  clear hp
  go_enter Try.func111, Try.ntmps111
  go_wp2
  go_loopw [10, 5] (fun i out wr => ∃ k : Nat, k ≤ ps.length ∧ i = .int .i64 k ∧ OwnInts wr (w.heap.size + 1) out ((ps.take k).map f.at) ∧ MpAt wr w.heap.size 0 f ∧ Below w.heap.size w wr) (fun i _ _ => ps.length - (intOf i).toNat)
  case atStart => exact ⟨0, Nat.zero_le _, rfl, OwnInts.nil _ _, MpAt.boxed w f _, by go_grown⟩
  case round =>
    obtain ⟨k, hk, rfl, hown, hm, hb⟩ := hrel
    have hsz1 : w.heap.size < wr.heap.size := World.block_lt_of_cell? wr ⟨w.heap.size, 0, none⟩ hm.h0
    by_cases hlt : k < ps.length
    · obtain ⟨b, o, p, rfl, hx, q⟩ := (h.below hb).at_ hlt
      obtain ⟨p0, p1⟩ := HP.out p (List.mem_of_getElem? hx)
      have g := hm.to' (i := p.toNat) (by omega)
      have e : f.to p.toNat = f.at p := rfl
      rw [e] at g
      have p5 : p < 5 := by omega
      have hl : (0 : Int) ≤ k := by omega
      have hl' : (k : Int) < ps.length := by omega
      have HX := Lib.hid hx
      have hne := hown.lt w.heap.size
      have HNE := Lib.hid hne
      clear hx e h hne
      go_wp2_with (at_builtin; refine wpList_push_int _ rfl (.tmp 14) (.tmp 19) rfl (w.heap.size + 1) _ _ rfl (hown.below (by go_grown)) ⟨wr.heap.size, 0, none⟩ (f.at p) rfl (by simp [go_sem]) (by simp; omega) (by simp; omega) ?_; intro v' w3 hown' hgrow hv')
      go_roundw
      case rel => exact ⟨k + 1, by omega, by go_num, by rw [take_map f.at HX.out]; exact hown', (hm.below (kbelow wr _)).grow hgrow (fun e => by have := HNE.out e; omega), Below.grown (w := wr.alloc (.cells #[.int .i64 (f.at p)] 2)) (by go_grown) hgrow (by simp; omega) (fun j hj => by have := (hown.lt j hj).1; omega)⟩
      case measure => simp [intOf]; omega
    · obtain rfl : k = ps.length := by omega
      go_wp2
      go_returns
      refine ⟨_, rfl, ?_, hb⟩
      rw [List.take_length] at hown
      exact hown.mono (by omega)
/-- lists of points of n -/
def PtsL (l : Nat) (n : Int) (p : List Int) : Prop := p.length = l ∧ ∀ x ∈ p, 0 ≤ x ∧ x < n
theorem lead_by (l : Nat) (n : Int) (ms : List Mp) (U : List (List Int)) (hm : ∀ m ∈ ms, MpN m n) (hU : ∀ p ∈ U, PtsL l n p) (hl : l ≤ 1000) : ByOk 111 #[] (fun f p => p.map f.at) ms U := fun W f A c p hf hp h =>
  lead_c f n A c p W (hm f hf) h (hU p hp).2 (by have := (hU p hp).1; omega)
theorem leadEnters : Enters Try.prog 111 := enters_of Try.func111 (by kernel_rfl) rfl
/-- all lists of l points of n -/
def ptsAll (n : Nat) : Nat → List (List Int)
  | 0 => [[]]
  | l + 1 => (List.range n).flatMap fun (i : Nat) => (ptsAll n l).map fun p => (i : Int) :: p
theorem ptsAll_mem {n : Nat} : ∀ {l : Nat} {p : List Int}, p ∈ ptsAll n l ↔ PtsL l n p
  | 0, p => by
    constructor
    · intro h; rw [List.mem_singleton.1 h]; exact ⟨rfl, by simp⟩
    · rintro ⟨h, _⟩; rw [List.eq_nil_of_length_eq_zero h]; exact List.mem_singleton.2 rfl
  | l + 1, p => by
    show p ∈ (List.range n).flatMap _ ↔ _
    rw [List.mem_flatMap]
    constructor
    · rintro ⟨i, hi, h⟩
      obtain ⟨q, hq, rfl⟩ := List.mem_map.1 h
      obtain ⟨h1, h2⟩ := ptsAll_mem.1 hq
      refine ⟨by simp [h1], fun x hx => ?_⟩
      rcases List.mem_cons.1 hx with rfl | hx
      · have := List.mem_range.1 hi; omega
      · exact h2 x hx
    · rintro ⟨h1, h2⟩
      cases p with
      | nil => simp at h1
      | cons x q =>
        have hx := h2 x (by simp)
        refine ⟨x.toNat, List.mem_range.2 (by omega), List.mem_map.2 ⟨q, ptsAll_mem.2 ⟨by simpa using h1, fun y hy => h2 y (by simp [hy])⟩, ?_⟩⟩
        rw [Int.toNat_of_nonneg hx.1]
theorem ptsAll_len (n : Nat) : ∀ l, (ptsAll n l).length = n ^ l
  | 0 => rfl
  | l + 1 => by
    show ((List.range n).flatMap fun (i : Nat) => (ptsAll n l).map fun p => (i : Int) :: p).length = _
    rw [List.length_flatMap]
    simp only [List.length_map, ptsAll_len n l]
    rw [List.map_const', List.sum_replicate_nat, List.length_range, Nat.pow_succ, Nat.mul_comm]
/-- a search over lists of l points, l at most 2 -/
theorem lead_univ {ms : List Mp} {n : Int} (h : RightL ms n) {l : Nat} (hl : l ≤ 2) {start : List Int} (hs : PtsL l n start) : Univ (stp (fun f p => p.map f.at) ms) ms.length start (ptsAll n.toNat l) := by
  have hb := h.bounds
  have hn : (n.toNat : Int) = n := by omega
  refine ⟨ptsAll_mem.2 (by rw [hn]; exact hs), fun j hj p hp => ptsAll_mem.2 ?_, ?_⟩
  · obtain ⟨h1, h2⟩ := ptsAll_mem.1 hp
    rw [hn] at h2
    have hm : MpN (ms.getD j Mp.z) n := by
      rw [List.getD_eq_getElem?_getD, List.getElem?_eq_getElem hj]
      exact h.all _ (List.getElem_mem hj)
    refine ⟨by show (List.map _ _).length = l; rw [List.length_map]; exact h1, fun x hx => ?_⟩
    obtain ⟨y, hy, rfl⟩ := List.mem_map.1 hx
    have := h2 y hy
    have := hm.at this.1 this.2
    omega
  · rw [ptsAll_len]
    have h5 : n.toNat ≤ 5 := by omega
    calc n.toNat ^ l ≤ 5 ^ l := Nat.pow_le_pow_left h5 l
      _ ≤ 5 ^ 2 := Nat.pow_le_pow_right (by omega) hl
      _ ≤ 1000 := by decide
/-! 'firstWord' finds the first word to a list of points that is such. -/
/-! ### How a search ends -/
section
variable {σ : Type} [DecidableEq σ] {st : Nat → σ → σ} {L : Nat} {start : σ} {U : List σ}
theorem gF_diag (hU : Univ st L start U) {i : Nat} {m : σ × List Int} (h : (gF st L start)[i]? = some m) : (gb st L start i)[i]? = some m := by
  cases hn : (gb st L start i)[i]? with
  | none => rw [gF_of_end hU hn, hn] at h; cases h
  | some m' => rw [gF_get hU hn] at h; exact h
theorem gF_ended (hU : Univ st L start U) {N : Nat} {P : σ × List Int → Prop} (h : (gb st L start N)[N]? = none) (hc : ∀ i m, i < N → (gb st L start i)[i]? = some m → P m) : ∀ m ∈ gF st L start, P m := fun m hm => by
  obtain ⟨i, hi, rfl⟩ := List.mem_iff_getElem.1 hm
  have hg : (gF st L start)[i]? = some (gF st L start)[i] := List.getElem?_eq_getElem hi
  refine hc i _ ?_ (gF_diag hU hg)
  rw [gF_of_end hU h] at hi
  exact Nat.lt_of_lt_of_le hi (List.getElem?_eq_none_iff.1 h)
theorem gF_find (hU : Univ st L start U) {N : Nat} {m : σ × List Int} {P : σ × List Int → Bool} (h : (gb st L start N)[N]? = some m) (hp : P m = true) (hc : ∀ i m, i < N → (gb st L start i)[i]? = some m → P m = false) : (gF st L start).find? P = some m := by
  have hg := gF_get hU h
  obtain ⟨hl, he⟩ := List.getElem?_eq_some_iff.1 hg
  refine List.find?_eq_some_iff_getElem.2 ⟨hp, N, hl, he, fun j hj => ?_⟩
  have hjl : j < (gF st L start).length := by omega
  have := hc j _ hj (gF_diag hU (List.getElem?_eq_getElem hjl))
  simp [this]
end
/-- a function value that tells of lists of points, in later worlds -/
def IsOk (gI : Nat) (lbI : Array Value) (is : List Int → Bool) (U : List (List Int)) (w : World) : Prop :=
  ∀ (W : World) (A : Option Addr) (c : Nat) (p : List Int), p ∈ U → SeeInts W A p → Below w.heap.size w W →
    Calls Try.prog gI (#[.slice A p.length c] ++ lbI) W fun e w' => e = .returned (.bool (is p)) ∧ Below W.heap.size W w'
/-- what 'firstWord's own closure leaves -/
def FW1 (is : Bool) (b10 b11 : Nat) (vw : Value) (W : World) (e : Ending) (w' : World) : Prop :=
  e = .returned (.bool !is) ∧ Keep (fun k => k ≠ b10 ∧ k ≠ b11) W w' ∧ (is = true → VBox w' b10 vw ∧ VBox w' b11 (.bool true)) ∧ (is = false → Below W.heap.size W w')
set_option maxHeartbeats 1000000 in
theorem firstWord1_c (gI : Nat) (lbI : Array Value) (is : Bool) (eI : Enters Try.prog gI) (m : Mt) (W : World) (b7 b10 b11 : Nat) (v10 : Value) (h7 : VBox W b7 (.func (.func gI) #[] lbI)) (h10 : VBox W b10 v10) (h11 : VBox W b11 (.bool false)) (hne : b10 ≠ b11)
    (hc : ∀ W', Below W.heap.size W W' → Calls Try.prog gI (#[.slice m.A m.pts.length m.c] ++ lbI) W' fun e w' => e = .returned (.bool is) ∧ Below W'.heap.size W' w') :
    Calls Try.prog 115 (#[.agg #[.slice m.A m.pts.length m.c, .slice m.B m.word.length m.d]] ++ #[.pointer (some ⟨b7, 0, none⟩), .pointer (some ⟨b10, 0, none⟩), .pointer (some ⟨b11, 0, none⟩)]) W (FW1 is b10 b11 m.w W) := by
  unfold Enters at eI
  have k0 : Below W.heap.size W (W.alloc (.cells #[.slice m.A m.pts.length m.c, .slice m.B m.word.length m.d] 124)) := by go_grown
  have hcall := hc _ k0
  have q7 := (h7.below k0).cell
  have l10 := h10.lt
  have l11 := h11.lt
  show Calls Try.prog 115 #[.agg #[.slice m.A m.pts.length m.c, .slice m.B m.word.length m.d], .pointer (some ⟨b7, 0, none⟩), .pointer (some ⟨b10, 0, none⟩), .pointer (some ⟨b11, 0, none⟩)] W _
  replace h10 := h10.below k0
  replace h11 := h11.below k0
  clear h7 hc
  cases is
  · go_enter Try.func115, Try.ntmps115
    go_wp2_with (go_at_fn gI; refine hcall.mono ?_; rintro e w1 ⟨rfl, hb1⟩; have q11 := (h11.below hb1).cell)
    go_returns
    exact ⟨rfl, kb (btrans k0 hb1), fun h => absurd h (by decide), fun _ => btrans k0 hb1⟩
  · go_enter Try.func115, Try.ntmps115
    go_wp2_with (go_at_fn gI; refine hcall.mono ?_; rintro e w1 ⟨rfl, hb1⟩; have q10 := (h10.below hb1); have q11 := (h11.below hb1); have c10 := q10.cell; have c11a := q11.cell; have f10 := q10.free; have f11 := q11.free; have qm := bcell (p := ⟨W.heap.size, 1, none⟩) hb1 (show (W.alloc (.cells #[.slice m.A m.pts.length m.c, .slice m.B m.word.length m.d] 124)).cell? ⟨W.heap.size, 1, none⟩ = some (.slice m.B m.word.length m.d) by simp [go_sem]); have c11 := (q11.far (a := ⟨b10, 0, none⟩) (Ne.symm hne) (.slice m.B m.word.length m.d)).cell)
    go_returns
    exact ⟨rfl, ((kb (btrans k0 hb1)).set (fun h => h.1 rfl) _).set (fun h => h.2 rfl) _, fun _ => ⟨(q10.set _).far hne _, (q11.far (Ne.symm hne) _).set _⟩, fun h => absurd h (by decide)⟩
/-- what 'firstWord' hands back -/
def FWpost (r : List Int × Int) (w : World) (e : Ending) (w' : World) : Prop := ∃ v, e = .returned (.tuple #[v, .int .i64 r.2]) ∧ OwnInts w' w.heap.size v r.1 ∧ Below w.heap.size w w'
theorem search_none {by_ : Mp → List Int → List Int} {ms : List Mp} {start : List Int} {U : List (List Int)} (hU : Univ (stp by_ ms) ms.length start U) {is : List Int → Bool} {N : Nat} (h : (bfs by_ ms start N)[N]? = none)
    (hc : ∀ i m, i < N → (bfs by_ ms start i)[i]? = some m → (!is m.1) = true) : fw (stp by_ ms) ms.length start is = ([], 4) := by
  refine fw_none (List.find?_eq_none.2 fun m hm => ?_)
  have := gF_ended (P := fun m => (!is m.1) = true) hU (by rw [← bfs_g]; exact h) (fun i m hi hm => hc i m hi (by rw [bfs_g]; exact hm)) m hm
  simpa using this
theorem search_some {by_ : Mp → List Int → List Int} {ms : List Mp} {start : List Int} {U : List (List Int)} (hU : Univ (stp by_ ms) ms.length start U) {is : List Int → Bool} {N : Nat} {m : Pw} (h : (bfs by_ ms start N)[N]? = some m) (hm : (!is m.1) = false)
    (hc : ∀ i m, i < N → (bfs by_ ms start i)[i]? = some m → (!is m.1) = true) : fw (stp by_ ms) ms.length start is = (m.2, 0) :=
  fw_some (gF_find hU (by rw [← bfs_g]; exact h) (by simpa using hm) (fun i m hi hm => by have := hc i m hi (by rw [bfs_g]; exact hm); simpa using this))
theorem univ_by {by_ : Mp → List Int → List Int} {ms : List Mp} {start : List Int} {U : List (List Int)} (hU : Univ (stp by_ ms) ms.length start U) : ∀ f ∈ ms, ∀ p ∈ U, by_ f p ∈ U := fun f hf p hp => by
  obtain ⟨j, hj, rfl⟩ := List.mem_iff_getElem.1 hf
  have := hU.step j hj p hp
  unfold stp at this
  rw [List.getD_eq_getElem?_getD, List.getElem?_eq_getElem hj] at this
  exact this
theorem bfs_in {by_ : Mp → List Int → List Int} {ms : List Mp} {start : List Int} {U : List (List Int)} (hU : Univ (stp by_ ms) ms.length start U) {i : Nat} {m : Pw} (h : m ∈ bfs by_ ms start i) : m.1 ∈ U := by
  rw [bfs_g] at h
  exact (gb_fine hU i).mem m h
/-- how 'firstWord's search ends -/
def FSEnd (r : List Int × Int) (w : World) (b10 b11 : Nat) (e : Ending) (w' : World) : Prop :=
  e = .returned (.tuple #[]) ∧ Below w.heap.size w w' ∧ ((r = ([], 4) ∧ VBox w' b11 (.bool false)) ∨ ∃ m : Mt, r = (m.word, 0) ∧ VBox w' b10 m.w ∧ VBox w' b11 (.bool true) ∧ OwnInts w' w.heap.size m.w m.word)
theorem firstSearch_c {A F : Option Addr} {c fc : Nat} {ms : List Mp} {start : List Int} {gB gI : Nat} {lbB lbI : Array Value} {U : List (List Int)} {by_ : Mp → List Int → List Int} {is : List Int → Bool} (w W : World) (b7 b10 b11 : Nat)
    (hb : Below w.heap.size w W) (h7 : VBox W b7 (.func (.func gI) #[] lbI)) (h10 : VBox W b10 (.slice none 0 0)) (h11 : VBox W b11 (.bool false)) (n1 : b10 ≠ b11) (n2 : b7 ≠ b10) (n3 : b7 ≠ b11) (l10 : w.heap.size ≤ b10) (l11 : w.heap.size ≤ b11)
    (hA : SeeMaps w A ms) (hAl : InS (fun k => k < w.heap.size) A) (hms : ms.length ≤ 6) (hF : SeeInts W F start) (hFl : InS (fun k => k < W.heap.size ∧ k ≠ b10 ∧ k ≠ b11) F) (hU : Univ (stp by_ ms) ms.length start U) (hUp : ∀ p ∈ U, p.length ≤ 1000)
    (eB : Enters Try.prog gB) (eI : Enters Try.prog gI) (hBy : ByOk gB lbB by_ ms U) (hIs : IsOk gI lbI is U w) :
    Calls Try.prog 109 #[.slice A ms.length c, .slice F start.length fc, .func (.func gB) #[] lbB, .func (.func 115) #[] #[.pointer (some ⟨b7, 0, none⟩), .pointer (some ⟨b10, 0, none⟩), .pointer (some ⟨b11, 0, none⟩)]] W (FSEnd (fw (stp by_ ms) ms.length start is) w b10 b11) := by
  have hz := hb.size
  have hlt10 := h10.lt
  have hlt11 := h11.lt
  have hlt7 := h7.lt
  refine (search_c (A := A) (F := F) (c := c) (fc := fc) (ms := ms) (start := start) (gB := gB) (gE := 115) (lbB := lbB) (lbE := #[.pointer (some ⟨b7, 0, none⟩), .pointer (some ⟨b10, 0, none⟩), .pointer (some ⟨b11, 0, none⟩)]) (U := U) (by_ := by_) (cont := fun m => !is m.1)
    (I := fun _ S W' => S = (fun k => k = b10 ∨ k = b11) ∧ VBox W' b7 (.func (.func gI) #[] lbI) ∧ VBox W' b10 (.slice none 0 0) ∧ VBox W' b11 (.bool false))
    (Fin := fun i W' => ∃ m : Mt, (bfs by_ ms start i)[i]? = some m.pw ∧ VBox W' b10 m.w ∧ VBox W' b11 (.bool true) ∧ OwnInts W' w.heap.size m.w m.word)
    (S0 := fun k => k = b10 ∨ k = b11) W (hA.below hb) (hAl.mono fun k hk => ⟨by omega, by omega⟩) hms hF (hFl.mono fun k hk => ⟨hk.1, fun h => h.elim hk.2.1 hk.2.2⟩) hU.start (univ_by hU) hU.len hUp eB (enters_of Try.func115 (by kernel_rfl) rfl) hBy ⟨rfl, h7, h10, h11⟩ (fun k hk => by rcases hk with rfl | rfl <;> assumption)
    (fun i S W1 W2 hI hK => ?_) (fun i S W1 m hm hI hS hK hsee hown hSA hSB => ?_)).mono ?_
  · obtain ⟨rfl, a7, a10, a11⟩ := hI
    exact ⟨rfl, a7.keepS hK (.inr hlt7), a10.keepS hK (.inr hlt10), a11.keepS hK (.inr hlt11)⟩
  · obtain ⟨rfl, a7, a10, a11⟩ := hI
    have hBW : Below w.heap.size w W1 := hb.trans (hK.below hz fun k hk => ⟨by omega, by omega⟩)
    have hin := bfs_in hU (List.mem_of_getElem? hm)
    refine (firstWord1_c gI lbI (is m.pts) eI m W1 b7 b10 b11 _ a7 a10 a11 n1 (fun W' hW' => hIs W' m.A m.c m.pts hin (hsee.below hW') (btrans hBW hW'))).mono ?_
    rintro e w2 ⟨rfl, k2, f1, f2⟩
    refine ⟨rfl, k2.mono fun k _ hk => ⟨fun e => hk (.inl e), fun e => hk (.inr e)⟩, fun hc => ?_, fun hc => ?_⟩
    · have hb2 := f2 (show is m.pw.1 = false by simpa using hc)
      exact ⟨fun k => k = b10 ∨ k = b11, ⟨rfl, a7.below hb2, a10.below hb2, a11.below hb2⟩, fun k hk => ⟨by have := hb2.size; have := a10.lt; have := a11.lt; omega, .inl hk⟩⟩
    · obtain ⟨g1, g2⟩ := f1 (show is m.pw.1 = true by simpa using hc)
      refine ⟨m, hm, g1, g2, (hown.mono hz).keep (S := fun k => k ≠ b10 ∧ k ≠ b11) (fun k hk => ?_) k2⟩
      unfold Mt.w at hk
      cases hB : m.B with
      | none => rw [hB] at hk; simp [Value.ownBlock] at hk
      | some a =>
        rw [hB] at hk
        have hk' : a.block = k := by simpa [Value.ownBlock] using hk
        have := hSB a hB
        exact ⟨fun e => this (.inl (hk'.trans e)), fun e => this (.inr (hk'.trans e))⟩
  · rintro e w2 ⟨rfl, hend, hK⟩
    refine ⟨rfl, hb.trans (hK.below hz fun k hk => ⟨by omega, by omega⟩), ?_⟩
    rcases hend with ⟨N, S, h1, h2, ⟨rfl, a7, a10, a11⟩, _⟩ | ⟨N, m, h1, h2, h3, m', hm', a10, a11, ao⟩
    · exact .inl ⟨search_none hU h1 h2, a11⟩
    · rw [h1] at hm'
      obtain rfl := Option.some.inj hm'
      exact .inr ⟨m', search_some hU h1 h3 h2, a10, a11, ao⟩
set_option maxHeartbeats 4000000 in
theorem firstWord_c {A F : Option Addr} {c fc : Nat} {ms : List Mp} {start : List Int} {gB gI : Nat} {lbB lbI : Array Value} {U : List (List Int)} {by_ : Mp → List Int → List Int} {is : List Int → Bool} (w : World)
    (hA : SeeMaps w A ms) (hAl : InS (fun k => k < w.heap.size) A) (hms : ms.length ≤ 6) (hF : SeeInts w F start) (hFl : InS (fun k => k < w.heap.size) F) (hU : Univ (stp by_ ms) ms.length start U) (hUp : ∀ p ∈ U, p.length ≤ 1000)
    (eB : Enters Try.prog gB) (eI : Enters Try.prog gI) (hBy : ByOk gB lbB by_ ms U) (hIs : IsOk gI lbI is U w) :
    Calls Try.prog 87 #[.slice A ms.length c, .slice F start.length fc, .func (.func gB) #[] lbB, .func (.func gI) #[] lbI] w (FWpost (fw (stp by_ ms) ms.length start is) w) := by
  have hS := fun W b7 b10 b11 hb h7 h10 h11 n1 n2 n3 l10 l11 hF hFl => firstSearch_c (c := c) (fc := fc) (F := F) w W b7 b10 b11 hb h7 h10 h11 n1 n2 n3 l10 l11 hA hAl hms hF hFl hU hUp eB eI hBy hIs
  generalize hr : fw (stp by_ ms) ms.length start is = r at hS ⊢
  have HS := Lib.hid hS
  clear hS hr hU hUp hBy hIs eB eI
  go_enter Try.func87, Try.ntmps87
  go_wp2_with fail
  have k0 : Below w.heap.size w (((w.alloc (Obj.cells #[Value.func (Fn.func gI) #[] lbI] 98)).alloc (Obj.cells #[Value.slice none 0 0] 23)).alloc (Obj.cells #[Value.bool false] 4)) := by go_grown
  refine (HS.out _ w.heap.size (w.heap.size + 1) (w.heap.size + 2) k0 (((VBox.new _ _ rfl).keep _).keep _) ((VBox.new _ _ (by go_size)).keep _) (VBox.new _ _ (by go_size)) (by omega) (by omega) (by omega) (by omega) (by omega) (hF.below k0) (hFl.mono fun k hk => ⟨by simp; omega, by omega, by omega⟩)).mono ?_
  rintro e w2 ⟨rfl, hb2, ⟨rfl, q11⟩ | ⟨m, rfl, q10, q11, hown⟩⟩
  · have c11 := q11.cell
    go_wp2
    go_returns
    exact ⟨_, rfl, OwnInts.nil _ _, hb2⟩
  · have c11 := q11.cell
    have c10 := q10.cell
    unfold Mt.w at c10 hown
    go_wp2
    go_returns
    exact ⟨_, rfl, hown, hb2⟩
end Go.Proofs.Ythadgdmooacccaa
