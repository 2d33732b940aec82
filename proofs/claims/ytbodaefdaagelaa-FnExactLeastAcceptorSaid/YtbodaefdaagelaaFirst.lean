/- 'firstWord' finds the first word to a list of points that is such. No condition. -/
import Derived.Test.YtbodaefdaagelaaLeadC
import Derived.Test.YtbodaefdaagelaaBase
namespace Go.Proofs.Ytbodaefdaagelaa
set_option linter.unusedSimpArgs false
set_option linter.unusedVariables false
set_option linter.unusedSectionVars false
open Go.RowKit
/-! ### How a search ends -/
section
variable {σ : Type} [DecidableEq σ] {st : Nat → σ → σ} {L : Nat} {start : σ} {U : List σ}
theorem gF_diag (hU : Univ st L start U) {i : Nat} {m : σ × List Int} (h : (gF st L start)[i]? = some m) : (gb st L start i)[i]? = some m := by
  cases hn : (gb st L start i)[i]? with
  | none => rw [gF_of_end hU hn, hn] at h; cases h
  | some m' => rw [gF_get hU hn] at h; exact h
theorem gF_ended (hU : Univ st L start U) {N : Nat} {P : σ × List Int → Prop} (h : (gb st L start N)[N]? = none) (hc : ∀ i m, i < N → (gb st L start i)[i]? = some m → P m) : ∀ m ∈ gF st L start, P m := fun m hm => by
  obtain ⟨i, hi, rfl⟩ := List.mem_iff_getElem.1 hm
  have hg : (gF st L start)[i]? = some (gF st L start)[i] := List.getElem?_eq_getElem hi
  refine hc i _ ?_ (gF_diag hU hg)
  rw [gF_of_end hU h] at hi
  exact Nat.lt_of_lt_of_le hi (List.getElem?_eq_none_iff.1 h)
theorem gF_find (hU : Univ st L start U) {N : Nat} {m : σ × List Int} {P : σ × List Int → Bool} (h : (gb st L start N)[N]? = some m) (hp : P m = true) (hc : ∀ i m, i < N → (gb st L start i)[i]? = some m → P m = false) : (gF st L start).find? P = some m := by
  have hg := gF_get hU h
  obtain ⟨hl, he⟩ := List.getElem?_eq_some_iff.1 hg
  refine List.find?_eq_some_iff_getElem.2 ⟨hp, N, hl, he, fun j hj => ?_⟩
  have hjl : j < (gF st L start).length := by omega
  have := hc j _ hj (gF_diag hU (List.getElem?_eq_getElem hjl))
  simp [this]
end
/-- a function value that tells of lists of points, in later worlds -/
def IsOk (gI : Nat) (lbI : Array Value) (is : List Int → Bool) (U : List (List Int)) (w : World) : Prop :=
  ∀ (W : World) (A : Option Addr) (c : Nat) (p : List Int), p ∈ U → SeeInts W A p → Below w.heap.size w W →
    Calls Try.prog gI (#[.slice A p.length c] ++ lbI) W fun e w' => e = .returned (.bool (is p)) ∧ Below W.heap.size W w'
/-- what 'firstWord's own closure leaves -/
def FW1 (is : Bool) (b10 b11 : Nat) (vw : Value) (W : World) (e : Ending) (w' : World) : Prop :=
  e = .returned (.bool !is) ∧ Keep (fun k => k ≠ b10 ∧ k ≠ b11) W w' ∧ (is = true → VBox w' b10 vw ∧ VBox w' b11 (.bool true)) ∧ (is = false → Below W.heap.size W w')
set_option maxHeartbeats 1000000 in
theorem firstWord1_c (gI : Nat) (lbI : Array Value) (is : Bool) (eI : Enters Try.prog gI) (m : Mt) (W : World) (b7 b10 b11 : Nat) (v10 : Value) (h7 : VBox W b7 (.func (.func gI) #[] lbI)) (h10 : VBox W b10 v10) (h11 : VBox W b11 (.bool false)) (hne : b10 ≠ b11)
    (hc : ∀ W', Below W.heap.size W W' → Calls Try.prog gI (#[.slice m.A m.pts.length m.c] ++ lbI) W' fun e w' => e = .returned (.bool is) ∧ Below W'.heap.size W' w') :
    Calls Try.prog 116 (#[.agg #[.slice m.A m.pts.length m.c, .slice m.B m.word.length m.d]] ++ #[.pointer (some ⟨b7, 0, none⟩), .pointer (some ⟨b10, 0, none⟩), .pointer (some ⟨b11, 0, none⟩)]) W (FW1 is b10 b11 m.w W) := by
  unfold Enters at eI
  have k0 : Below W.heap.size W (W.alloc (.cells #[.slice m.A m.pts.length m.c, .slice m.B m.word.length m.d] 119)) := by go_grown
  have hcall := hc _ k0
  have q7 := (h7.below k0).cell
  have l10 := h10.lt
  have l11 := h11.lt
  show Calls Try.prog 116 #[.agg #[.slice m.A m.pts.length m.c, .slice m.B m.word.length m.d], .pointer (some ⟨b7, 0, none⟩), .pointer (some ⟨b10, 0, none⟩), .pointer (some ⟨b11, 0, none⟩)] W _
  replace h10 := h10.below k0
  replace h11 := h11.below k0
  clear h7 hc
  cases is
  · go_enter Try.func116, Try.ntmps116
    go_wp2_with (go_at_fn gI; refine hcall.mono ?_; rintro e w1 ⟨rfl, hb1⟩; have q11 := (h11.below hb1).cell)
    go_returns
    exact ⟨rfl, kb (btrans k0 hb1), fun h => absurd h (by decide), fun _ => btrans k0 hb1⟩
  · go_enter Try.func116, Try.ntmps116
    go_wp2_with (go_at_fn gI; refine hcall.mono ?_; rintro e w1 ⟨rfl, hb1⟩; have q10 := (h10.below hb1); have q11 := (h11.below hb1); have c10 := q10.cell; have c11a := q11.cell; have f10 := q10.free; have f11 := q11.free; have qm := bcell (p := ⟨W.heap.size, 1, none⟩) hb1 (show (W.alloc (.cells #[.slice m.A m.pts.length m.c, .slice m.B m.word.length m.d] 119)).cell? ⟨W.heap.size, 1, none⟩ = some (.slice m.B m.word.length m.d) by simp [go_sem]); have c11 := (q11.far (a := ⟨b10, 0, none⟩) (Ne.symm hne) (.slice m.B m.word.length m.d)).cell)
    go_returns
    exact ⟨rfl, ((kb (btrans k0 hb1)).set (fun h => h.1 rfl) _).set (fun h => h.2 rfl) _, fun _ => ⟨(q10.set _).far hne _, (q11.far (Ne.symm hne) _).set _⟩, fun h => absurd h (by decide)⟩
/-- what 'firstWord' hands back -/
def FWpost (r : List Int × Int) (w : World) (e : Ending) (w' : World) : Prop := ∃ v, e = .returned (.tuple #[v, .int .i64 r.2]) ∧ OwnInts w' w.heap.size v r.1 ∧ Below w.heap.size w w'
theorem search_none {by_ : Mp → List Int → List Int} {ms : List Mp} {start : List Int} {U : List (List Int)} (hU : Univ (stp by_ ms) ms.length start U) {is : List Int → Bool} {N : Nat} (h : (bfs by_ ms start N)[N]? = none)
    (hc : ∀ i m, i < N → (bfs by_ ms start i)[i]? = some m → (!is m.1) = true) : fw (stp by_ ms) ms.length start is = ([], 4) := by
  refine fw_none (List.find?_eq_none.2 fun m hm => ?_)
  have := gF_ended (P := fun m => (!is m.1) = true) hU (by rw [← bfs_g]; exact h) (fun i m hi hm => hc i m hi (by rw [bfs_g]; exact hm)) m hm
  simpa using this
theorem search_some {by_ : Mp → List Int → List Int} {ms : List Mp} {start : List Int} {U : List (List Int)} (hU : Univ (stp by_ ms) ms.length start U) {is : List Int → Bool} {N : Nat} {m : Pw} (h : (bfs by_ ms start N)[N]? = some m) (hm : (!is m.1) = false)
    (hc : ∀ i m, i < N → (bfs by_ ms start i)[i]? = some m → (!is m.1) = true) : fw (stp by_ ms) ms.length start is = (m.2, 0) :=
  fw_some (gF_find hU (by rw [← bfs_g]; exact h) (by simpa using hm) (fun i m hi hm => by have := hc i m hi (by rw [bfs_g]; exact hm); simpa using this))
theorem univ_by {by_ : Mp → List Int → List Int} {ms : List Mp} {start : List Int} {U : List (List Int)} (hU : Univ (stp by_ ms) ms.length start U) : ∀ f ∈ ms, ∀ p ∈ U, by_ f p ∈ U := fun f hf p hp => by
  obtain ⟨j, hj, rfl⟩ := List.mem_iff_getElem.1 hf
  have := hU.step j hj p hp
  unfold stp at this
  rw [List.getD_eq_getElem?_getD, List.getElem?_eq_getElem hj] at this
  exact this
theorem bfs_in {by_ : Mp → List Int → List Int} {ms : List Mp} {start : List Int} {U : List (List Int)} (hU : Univ (stp by_ ms) ms.length start U) {i : Nat} {m : Pw} (h : m ∈ bfs by_ ms start i) : m.1 ∈ U := by
  rw [bfs_g] at h
  exact (gb_fine hU i).mem m h
/-- how 'firstWord's search ends -/
def FSEnd (r : List Int × Int) (w : World) (b10 b11 : Nat) (e : Ending) (w' : World) : Prop :=
  e = .returned (.tuple #[]) ∧ Below w.heap.size w w' ∧ ((r = ([], 4) ∧ VBox w' b11 (.bool false)) ∨ ∃ m : Mt, r = (m.word, 0) ∧ VBox w' b10 m.w ∧ VBox w' b11 (.bool true) ∧ OwnInts w' w.heap.size m.w m.word)
theorem firstSearch_c {A F : Option Addr} {c fc : Nat} {ms : List Mp} {start : List Int} {gB gI : Nat} {lbB lbI : Array Value} {U : List (List Int)} {by_ : Mp → List Int → List Int} {is : List Int → Bool} (w W : World) (b7 b10 b11 : Nat)
    (hb : Below w.heap.size w W) (h7 : VBox W b7 (.func (.func gI) #[] lbI)) (h10 : VBox W b10 (.slice none 0 0)) (h11 : VBox W b11 (.bool false)) (n1 : b10 ≠ b11) (n2 : b7 ≠ b10) (n3 : b7 ≠ b11) (l10 : w.heap.size ≤ b10) (l11 : w.heap.size ≤ b11)
    (hA : SeeMaps w A ms) (hAl : InS (fun k => k < w.heap.size) A) (hms : ms.length ≤ 6) (hF : SeeInts W F start) (hFl : InS (fun k => k < W.heap.size ∧ k ≠ b10 ∧ k ≠ b11) F) (hU : Univ (stp by_ ms) ms.length start U) (hUp : ∀ p ∈ U, p.length ≤ 1000)
    (eB : Enters Try.prog gB) (eI : Enters Try.prog gI) (hBy : ByOk gB lbB by_ ms U) (hIs : IsOk gI lbI is U w) :
    Calls Try.prog 114 #[.slice A ms.length c, .slice F start.length fc, .func (.func gB) #[] lbB, .func (.func 116) #[] #[.pointer (some ⟨b7, 0, none⟩), .pointer (some ⟨b10, 0, none⟩), .pointer (some ⟨b11, 0, none⟩)]] W (FSEnd (fw (stp by_ ms) ms.length start is) w b10 b11) := by
  have hz := hb.size
  have hlt10 := h10.lt
  have hlt11 := h11.lt
  have hlt7 := h7.lt
  refine (search_c (A := A) (F := F) (c := c) (fc := fc) (ms := ms) (start := start) (gB := gB) (gE := 116) (lbB := lbB) (lbE := #[.pointer (some ⟨b7, 0, none⟩), .pointer (some ⟨b10, 0, none⟩), .pointer (some ⟨b11, 0, none⟩)]) (U := U) (by_ := by_) (cont := fun m => !is m.1)
    (I := fun _ S W' => S = (fun k => k = b10 ∨ k = b11) ∧ VBox W' b7 (.func (.func gI) #[] lbI) ∧ VBox W' b10 (.slice none 0 0) ∧ VBox W' b11 (.bool false))
    (Fin := fun i W' => ∃ m : Mt, (bfs by_ ms start i)[i]? = some m.pw ∧ VBox W' b10 m.w ∧ VBox W' b11 (.bool true) ∧ OwnInts W' w.heap.size m.w m.word)
    (S0 := fun k => k = b10 ∨ k = b11) W (hA.below hb) (hAl.mono fun k hk => ⟨by omega, by omega⟩) hms hF (hFl.mono fun k hk => ⟨hk.1, fun h => h.elim hk.2.1 hk.2.2⟩) hU.start (univ_by hU) hU.len hUp eB (enters_of Try.func116 (by kernel_rfl) rfl) hBy ⟨rfl, h7, h10, h11⟩ (fun k hk => by rcases hk with rfl | rfl <;> assumption)
    (fun i S W1 W2 hI hK => ?_) (fun i S W1 m hm hI hS hK hsee hown hSA hSB => ?_)).mono ?_
  · obtain ⟨rfl, a7, a10, a11⟩ := hI
    exact ⟨rfl, a7.keepS hK (.inr hlt7), a10.keepS hK (.inr hlt10), a11.keepS hK (.inr hlt11)⟩
  · obtain ⟨rfl, a7, a10, a11⟩ := hI
    have hBW : Below w.heap.size w W1 := hb.trans (hK.below hz fun k hk => ⟨by omega, by omega⟩)
    have hin := bfs_in hU (List.mem_of_getElem? hm)
    refine (firstWord1_c gI lbI (is m.pts) eI m W1 b7 b10 b11 _ a7 a10 a11 n1 (fun W' hW' => hIs W' m.A m.c m.pts hin (hsee.below hW') (btrans hBW hW'))).mono ?_
    rintro e w2 ⟨rfl, k2, f1, f2⟩
    refine ⟨rfl, k2.mono fun k _ hk => ⟨fun e => hk (.inl e), fun e => hk (.inr e)⟩, fun hc => ?_, fun hc => ?_⟩
    · have hb2 := f2 (show is m.pw.1 = false by simpa using hc)
      exact ⟨fun k => k = b10 ∨ k = b11, ⟨rfl, a7.below hb2, a10.below hb2, a11.below hb2⟩, fun k hk => ⟨by have := hb2.size; have := a10.lt; have := a11.lt; omega, .inl hk⟩⟩
    · obtain ⟨g1, g2⟩ := f1 (show is m.pw.1 = true by simpa using hc)
      refine ⟨m, hm, g1, g2, (hown.mono hz).keep (S := fun k => k ≠ b10 ∧ k ≠ b11) (fun k hk => ?_) k2⟩
      unfold Mt.w at hk
      cases hB : m.B with
      | none => rw [hB] at hk; simp [Value.ownBlock] at hk
      | some a =>
        rw [hB] at hk
        have hk' : a.block = k := by simpa [Value.ownBlock] using hk
        have := hSB a hB
        exact ⟨fun e => this (.inl (hk'.trans e)), fun e => this (.inr (hk'.trans e))⟩
  · rintro e w2 ⟨rfl, hend, hK⟩
    refine ⟨rfl, hb.trans (hK.below hz fun k hk => ⟨by omega, by omega⟩), ?_⟩
    rcases hend with ⟨N, S, h1, h2, ⟨rfl, a7, a10, a11⟩, _⟩ | ⟨N, m, h1, h2, h3, m', hm', a10, a11, ao⟩
    · exact .inl ⟨search_none hU h1 h2, a11⟩
    · rw [h1] at hm'
      obtain rfl := Option.some.inj hm'
      exact .inr ⟨m', search_some hU h1 h3 h2, a10, a11, ao⟩
set_option maxHeartbeats 4000000 in
theorem firstWord_c {A F : Option Addr} {c fc : Nat} {ms : List Mp} {start : List Int} {gB gI : Nat} {lbB lbI : Array Value} {U : List (List Int)} {by_ : Mp → List Int → List Int} {is : List Int → Bool} (w : World)
    (hA : SeeMaps w A ms) (hAl : InS (fun k => k < w.heap.size) A) (hms : ms.length ≤ 6) (hF : SeeInts w F start) (hFl : InS (fun k => k < w.heap.size) F) (hU : Univ (stp by_ ms) ms.length start U) (hUp : ∀ p ∈ U, p.length ≤ 1000)
    (eB : Enters Try.prog gB) (eI : Enters Try.prog gI) (hBy : ByOk gB lbB by_ ms U) (hIs : IsOk gI lbI is U w) :
    Calls Try.prog 77 #[.slice A ms.length c, .slice F start.length fc, .func (.func gB) #[] lbB, .func (.func gI) #[] lbI] w (FWpost (fw (stp by_ ms) ms.length start is) w) := by
  have hS := fun W b7 b10 b11 hb h7 h10 h11 n1 n2 n3 l10 l11 hF hFl => firstSearch_c (c := c) (fc := fc) (F := F) w W b7 b10 b11 hb h7 h10 h11 n1 n2 n3 l10 l11 hA hAl hms hF hFl hU hUp eB eI hBy hIs
  generalize hr : fw (stp by_ ms) ms.length start is = r at hS ⊢
  have HS := Lib.hid hS
  clear hS hr hU hUp hBy hIs eB eI
  go_enter Try.func77, Try.ntmps77
  go_wp2_with fail
  have k0 : Below w.heap.size w (((w.alloc (Obj.cells #[Value.func (Fn.func gI) #[] lbI] 83)).alloc (Obj.cells #[Value.slice none 0 0] 23)).alloc (Obj.cells #[Value.bool false] 4)) := by go_grown
  refine (HS.out _ w.heap.size (w.heap.size + 1) (w.heap.size + 2) k0 (((VBox.new _ _ rfl).keep _).keep _) ((VBox.new _ _ (by go_size)).keep _) (VBox.new _ _ (by go_size)) (by omega) (by omega) (by omega) (by omega) (by omega) (hF.below k0) (hFl.mono fun k hk => ⟨by simp; omega, by omega, by omega⟩)).mono ?_
  rintro e w2 ⟨rfl, hb2, ⟨rfl, q11⟩ | ⟨m, rfl, q10, q11, hown⟩⟩
  · have c11 := q11.cell
    go_wp2
    go_returns
    exact ⟨_, rfl, OwnInts.nil _ _, hb2⟩
  · have c11 := q11.cell
    have c10 := q10.cell
    unfold Mt.w at c10 hown
    go_wp2
    go_returns
    exact ⟨_, rfl, hown, hb2⟩
end Go.Proofs.Ytbodaefdaagelaa
