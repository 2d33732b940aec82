/- 'reached' collects the points that are reached. No condition. -/
import Derived.Test.YtbodaefdaagelaaFirst
import Derived.Test.YtbodaefdaagelaaBase
namespace Go.Proofs.Ytbodaefdaagelaa
set_option linter.unusedSimpArgs false
set_option linter.unusedVariables false
set_option linter.unusedSectionVars false
open Go.RowKit
/-- a variable that holds a list of the call's own, which has grown -/
def Coll (W : World) (b : Nat) (vo : Value) (ys : List Int) (w' : World) : Prop :=
  ∃ v', VBox w' b v' ∧ OwnInts w' (b + 1) v' ys ∧ (v'.ownBlock = vo.ownBlock ∨ ∃ g, v'.ownBlock = some g ∧ W.heap.size ≤ g) ∧ Keep (fun k => k ≠ b ∧ vo.ownBlock ≠ some k) W w'
set_option maxHeartbeats 1000000 in
theorem reached1_c (m : Mt) (x : Int) (W : World) (b5 : Nat) (vo : Value) (os : List Int) (h5 : VBox W b5 vo) (ho : OwnInts W (b5 + 1) vo os) (hs : SeeInts W m.A m.pts) (hx : m.pts[0]? = some x) (hl : os.length ≤ 1000) :
    Calls Try.prog 115 (#[.agg #[.slice m.A m.pts.length m.c, .slice m.B m.word.length m.d]] ++ #[.pointer (some ⟨b5, 0, none⟩)]) W fun e w' => e = .returned (.bool true) ∧ Coll W b5 vo (os ++ [x]) w' := by
  have k0 : Below W.heap.size W (W.alloc (.cells #[.slice m.A m.pts.length m.c, .slice m.B m.word.length m.d] 119)) := by go_grown
  obtain ⟨b, o, x', hA, hx', q⟩ := (hs.below k0).at_ (k := 0) (List.getElem?_eq_some_iff.1 hx).1
  rw [hx] at hx'
  obtain rfl := Option.some.inj hx'
  have hpl : (0 : Int) < m.pts.length := by have := (List.getElem?_eq_some_iff.1 hx).1; omega
  have hpl' : 0 < m.pts.length := (List.getElem?_eq_some_iff.1 hx).1
  have Q := q
  rw [Nat.add_zero] at Q
  have Q5 := (h5.below k0).cell
  have Qm := (show (W.alloc (.cells #[.slice m.A m.pts.length m.c, .slice m.B m.word.length m.d] 119)).cell? ⟨W.heap.size, 0, none⟩ = some (.slice m.A m.pts.length m.c) by simp [go_sem])
  rw [hA] at Qm
  have l5 := h5.lt
  show Calls Try.prog 115 #[.agg #[.slice m.A m.pts.length m.c, .slice m.B m.word.length m.d], .pointer (some ⟨b5, 0, none⟩)] W _
  have HX := Lib.hid hx
  have HO := Lib.hid ho
  have H5 := Lib.hid h5
  have K0 := Lib.hid k0
  have HLT := Lib.hid ho.lt
  clear hs hx q ho h5 k0
  rw [hA] at *
  clear hA
  go_enter Try.func115, Try.ntmps115
  go_wp2
  refine wp_region_headS 6 (fun w' => w'.cell? ⟨b5, 0, none⟩ = some vo ∧ w'.cell? ⟨W.heap.size, 0, none⟩ = some (.slice (some ⟨b, o, none⟩) m.pts.length m.c) ∧ w'.cell? ⟨b, o, none⟩ = some (.int .i64 x)) (by kernel_rfl) (by kernel_rfl) ⟨Q5, Qm, Q⟩ (fun hHeld => ?_)
  simp only [List.drop]
  refine headH_take (i := 0) (v := ?_) rfl (by kernel_rfl) (fun _ _ _ h => h) (Or.inl ⟨by rfl, ?_⟩) hHeld ?_
  rotate_left
  · intro w hSw
    (try dsimp only at hSw)
    go_simp
    try with_reducible rfl
  try simp only [Act.put, List.setIfInBounds_toArray, List.set_cons_zero, List.set_cons_succ]
  refine headH_take (i := 1) (v := ?_) rfl (by kernel_rfl) (fun _ _ _ h => h) (Or.inl ⟨by rfl, ?_⟩) hHeld ?_
  rotate_left
  · intro w hSw
    (try dsimp only at hSw)
    go_simp
    try with_reducible rfl
  try simp only [Act.put, List.setIfInBounds_toArray, List.set_cons_zero, List.set_cons_succ]
  refine headH_take (i := 2) (v := ?_) rfl (by kernel_rfl) (fun _ _ _ h => h) (Or.inl ⟨by rfl, ?_⟩) hHeld ?_
  rotate_left
  · intro w hSw
    (try dsimp only at hSw)
    go_simp
    try with_reducible rfl
  try simp only [Act.put, List.setIfInBounds_toArray, List.set_cons_zero, List.set_cons_succ]
  refine headH_take (i := 3) (v := ?_) rfl (by kernel_rfl) (fun _ _ _ h => h) (Or.inl ⟨by rfl, ?_⟩) hHeld ?_
  rotate_left
  · intro w hSw
    (try dsimp only at hSw)
    go_simp
    try with_reducible rfl
  try simp only [Act.put, List.setIfInBounds_toArray, List.set_cons_zero, List.set_cons_succ]
  refine headH_take (i := 4) (v := ?_) rfl (by kernel_rfl) (fun _ _ _ h => h) (Or.inl ⟨by rfl, ?_⟩) hHeld ?_
  rotate_left
  · intro w hSw
    (try dsimp only at hSw)
    go_simp
    try with_reducible rfl
  try simp only [Act.put, List.setIfInBounds_toArray, List.set_cons_zero, List.set_cons_succ]
  refine headH_all (rs := [5]) (by kernel_rfl) (by kernel_rfl) (headH_cons rfl (fun K hK => ?_) headH_nil)
  go_simp
  refine hK.out _ _ ⟨acell hHeld.1 _, acell hHeld.2.1 _, acell hHeld.2.2 _⟩ (fun hHeldn => ?_)
  clear hK K hHeld
  have hHeld := hHeldn
  clear hHeldn
  try simp only [Act.put, List.setIfInBounds_toArray, List.set_cons_zero, List.set_cons_succ]
  refine headH_tail (by kernel_rfl) ?_
  clear hHeld
  have hb2 : Below W.heap.size W (((W.alloc (.cells #[.slice (some ⟨b, o, none⟩) m.pts.length m.c, .slice m.B m.word.length m.d] 119)).alloc (.cells #[.int .i64 x] 2)).drew) := Below.drew (btrans K0.out (kbelow _ _))
  have o2 := HO.out.below hb2
  have q5 := H5.out.below hb2
  have cx : (((W.alloc (.cells #[.slice (some ⟨b, o, none⟩) m.pts.length m.c, .slice m.B m.word.length m.d] 119)).alloc (.cells #[.int .i64 x] 2)).drew).cell? ⟨W.heap.size + 1, 0, none⟩ = some (.int .i64 x) := by simp [go_sem]
  generalize ((W.alloc (.cells #[.slice (some ⟨b, o, none⟩) m.pts.length m.c, .slice m.B m.word.length m.d] 119)).alloc (.cells #[.int .i64 x] 2)).drew = w2 at *
  have hz2 := hb2.size
  clear Q Q5 Qm
  go_wp2_with (at_builtin; refine wpList_push_int _ rfl (.tmp 4) (.tmp 9) rfl (b5 + 1) _ _ rfl o2 ⟨W.heap.size + 1, 0, none⟩ x rfl cx (by omega) (by omega) ?_; intro v' w3 hown' hgrow hv'; obtain ⟨A', c', rfl, _⟩ := hown'.see; have q5' := q5.grow hgrow (fun e => by have := (HLT.out b5 e).1; omega); have c5 := q5'.cell; have f5' := q5'.free)
  go_returns
  have hk : Keep (fun k => k ≠ b5 ∧ vo.ownBlock ≠ some k) W w3 := (kb hb2).trans (keep_grown hgrow fun k hk hs => hs.2 hk)
  rw [List.length_append] at hown' hv'
  refine ⟨rfl, _, q5'.set _, OwnInts.setBelow hown' (by simp) _, ?_, hk.set (fun h => h.1 rfl) _⟩
  rcases hv' with h | h
  · exact .inl h
  · exact .inr ⟨_, h, by omega⟩
/-- the points that are reached from one, in the order of their first words -/
def leadB : Mp → List Int → List Int := fun f p => p.map f.at
def reachL (ms : List Mp) (p : Int) : List Int := (gF (stp leadB ms) ms.length [p]).map fun m => m.1.headD 0
theorem pt1 {n p : Int} (h0 : 0 ≤ p) (h1 : p < n) : PtsL 1 n [p] := ⟨rfl, fun x hx => by rw [List.mem_singleton.1 hx]; exact ⟨h0, h1⟩⟩
theorem univ1 {ms : List Mp} {n p : Int} (h : RightL ms n) (h0 : 0 ≤ p) (h1 : p < n) : Univ (stp leadB ms) ms.length [p] (ptsAll n.toNat 1) := lead_univ h (by omega) (pt1 h0 h1)
theorem gF_take {σ : Type} [DecidableEq σ] {st : Nat → σ → σ} {L : Nat} {start : σ} {U : List σ} (hU : Univ st L start U) {i : Nat} {m : σ × List Int} (h : (gb st L start i)[i]? = some m) : (gF st L start).take (i + 1) = (gF st L start).take i ++ [m] := by
  rw [List.take_add_one, gF_get hU h]; rfl
set_option maxHeartbeats 2000000 in
theorem reachSearch_c {A F : Option Addr} {c fc : Nat} {ms : List Mp} {p n : Int} (w W : World) (b5 : Nat)
    (hb : Below w.heap.size w W) (h5 : VBox W b5 (.slice none 0 0)) (l5 : w.heap.size ≤ b5)
    (hA : SeeMaps w A ms) (hAl : InS (fun k => k < w.heap.size) A) (hr : RightL ms n) (h0 : 0 ≤ p) (h1 : p < n) (hF : SeeInts W F [p]) (hFl : InS (fun k => k < W.heap.size ∧ k ≠ b5) F) :
    Calls Try.prog 114 #[.slice A ms.length c, .slice F 1 fc, .func (.func 78) #[] #[], .func (.func 115) #[] #[.pointer (some ⟨b5, 0, none⟩)]] W fun e w' =>
      e = .returned (.tuple #[]) ∧ Below w.heap.size w w' ∧ ∃ vo, VBox w' b5 vo ∧ OwnInts w' w.heap.size vo (reachL ms p) := by
  have hz := hb.size
  have hlt5 := h5.lt
  have hU := univ1 hr h0 h1
  have hpts : ∀ p ∈ ptsAll n.toNat 1, PtsL 1 n p := fun p hp => by have := ptsAll_mem.1 hp; rwa [show (n.toNat : Int) = n by omega] at this
  refine (search_c (A := A) (F := F) (c := c) (fc := fc) (ms := ms) (start := [p]) (gB := 78) (gE := 115) (lbB := #[]) (lbE := #[.pointer (some ⟨b5, 0, none⟩)]) (U := ptsAll n.toNat 1) (by_ := leadB) (cont := fun _ => true)
    (I := fun i S W' => ∃ vo, S = (fun k => k = b5 ∨ vo.ownBlock = some k) ∧ VBox W' b5 vo ∧ OwnInts W' (b5 + 1) vo (((gF (stp leadB ms) ms.length [p]).take i).map fun m => m.1.headD 0))
    (Fin := fun _ _ => False)
    (S0 := fun k => k = b5) W (hA.below hb) (hAl.mono fun k hk => ⟨by omega, by omega⟩) hr.six hF (hFl.mono fun k hk => hk) hU.start (univ_by hU) hU.len (fun p hp => by have := (hpts p hp).1; omega) leadEnters (enters_of Try.func115 (by kernel_rfl) rfl) (lead_by 1 n ms _ hr.all hpts (by omega))
    ⟨.slice none 0 0, funext fun k => by simp [Value.ownBlock], h5, OwnInts.nil _ _⟩ (fun k hk => by rw [hk]; assumption)
    (fun i S W1 W2 hI hK => ?_) (fun i S W1 m hm hI hS hK hsee hown hSA hSB => ?_)).mono ?_
  · obtain ⟨vo, rfl, a5, ao⟩ := hI
    exact ⟨vo, rfl, a5.keepS hK (.inr hlt5), ao.keep (fun k hk => .inl (.inr hk)) hK⟩
  · obtain ⟨vo, rfl, a5, ao⟩ := hI
    have hin := bfs_in hU (List.mem_of_getElem? hm)
    have hl1 : m.pts.length = 1 := (hpts _ hin).1
    obtain ⟨x, hx⟩ := el (xs := m.pts) (k := 0) (by omega)
    have hln : (((gF (stp leadB ms) ms.length [p]).take i).map fun m => m.1.headD 0).length ≤ 1000 := by
      rw [List.length_map, List.length_take]
      have := gb_length hU 1000
      unfold gF
      omega
    refine (reached1_c m x W1 b5 vo _ a5 ao hsee hx hln).mono ?_
    rintro e w2 ⟨rfl, v', c5, co, cv, ck⟩
    refine ⟨rfl, ck.mono fun k _ hk => ⟨fun e => hk (.inl e), fun e => hk (.inr e)⟩, fun _ => ⟨fun k => k = b5 ∨ v'.ownBlock = some k, ⟨v', rfl, c5, ?_⟩, fun k hk => ?_⟩, fun h => by cases h⟩
    · rw [gF_take hU (by rw [← bfs_g]; exact hm), List.map_append]
      have e1 : [m.pw].map (fun m => m.1.headD 0) = [x] := by
        show [m.pts.headD 0] = [x]
        cases hp : m.pts with
        | nil => rw [hp] at hl1; simp at hl1
        | cons y t => rw [hp] at hx; simp at hx; simp [hx]
      rw [e1]
      exact co
    · rcases hk with rfl | hk
      · exact ⟨c5.lt, .inl (.inl rfl)⟩
      · refine ⟨(co.lt k hk).2, ?_⟩
        rcases cv with h | ⟨g, h, hg⟩
        · exact .inl (.inr (h ▸ hk))
        · rw [h] at hk
          exact .inr (by have := Option.some.inj hk; omega)
  · rintro e w2 ⟨rfl, hend, hK⟩
    refine ⟨rfl, hb.trans (hK.below hz fun k hk => ⟨by omega, by omega⟩), ?_⟩
    rcases hend with ⟨N, S, e1, e2, ⟨vo, _, a5, ao⟩, _⟩ | ⟨N, m, _, _, h3, _⟩
    · refine ⟨vo, a5, ?_⟩
      have he := gF_of_end hU (N := N) (by rw [← bfs_g]; exact e1)
      have hle : (gF (stp leadB ms) ms.length [p]).length ≤ N := by
        rw [he]
        rw [bfs_g] at e1
        exact List.getElem?_eq_none_iff.1 e1
      rw [List.take_of_length_le hle] at ao
      exact ao.mono (by omega)
    · cases h3
set_option maxHeartbeats 2000000 in
theorem reached_c {A : Option Addr} {c : Nat} {ms : List Mp} {p n : Int} (w : World) (hA : SeeMaps w A ms) (hAl : InS (fun k => k < w.heap.size) A) (hr : RightL ms n) (h0 : 0 ≤ p) (h1 : p < n) :
    Calls Try.prog 76 #[.slice A ms.length c, .int .i64 p] w fun e w' => ∃ v, e = .returned v ∧ OwnInts w' w.heap.size v (reachL ms p) ∧ Below w.heap.size w w' := by
  have hS := fun W F fc b5 hb h5 l5 hF hFl => reachSearch_c (A := A) (c := c) (F := F) (fc := fc) w W b5 hb h5 l5 hA hAl hr h0 h1 hF hFl
  generalize reachL ms p = r at hS ⊢
  have HS := Lib.hid hS
  clear hS
  go_enter Try.func76, Try.ntmps76
  go_wp2_with fail
  have k0 : Below w.heap.size w ((w.alloc (Obj.cells #[Value.slice none 0 0] 23)).alloc (Obj.cells #[Value.int .i64 p] 2)) := by go_grown
  refine (HS.out _ _ _ w.heap.size k0 ((VBox.new _ _ rfl).keep _) (Nat.le_refl _) (fun _ => ⟨w.heap.size + 1, 0, rfl, fun k x hx => ?_⟩) (fun a ha => ?_)).mono ?_
  · have hl := (List.getElem?_eq_some_iff.1 hx).1
    obtain rfl : k = 0 := by simpa using hl
    obtain rfl : p = x := by simpa using hx
    simp [go_sem]
  · obtain rfl := Option.some.inj ha
    exact ⟨by simp, by simp⟩
  rintro e w2 ⟨rfl, hb2, vo, q5, hown⟩
  have c5 := q5.cell
  obtain ⟨A', c', rfl, _⟩ := hown.see
  go_wp2
  go_returns
  exact ⟨_, rfl, hown, hb2⟩
end Go.Proofs.Ytbodaefdaagelaa
