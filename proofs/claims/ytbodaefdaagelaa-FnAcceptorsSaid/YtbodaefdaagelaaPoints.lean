/- 'reached' collects the points that are reached. No condition. -/
import Derived.Test.YtbodaefdaagelaaFirst
import Derived.Test.YtbodaefdaagelaaBase
import Derived.Test.YtbodaefdaagelaaLast
namespace Go.Proofs.Ytbodaefdaagelaa
set_option linter.unusedSimpArgs false
set_option linter.unusedVariables false
set_option linter.unusedSectionVars false
open Go.RowKit
/-- a variable that holds a list of the call's own, which has grown -/
def Coll (W : World) (b : Nat) (vo : Value) (ys : List Int) (w' : World) : Prop :=
  ∃ v', VBox w' b v' ∧ OwnInts w' (b + 1) v' ys ∧ (v'.ownBlock = vo.ownBlock ∨ ∃ g, v'.ownBlock = some g ∧ W.heap.size ≤ g) ∧ Keep (fun k => k ≠ b ∧ vo.ownBlock ≠ some k) W w'
set_option maxHeartbeats 1000000 in
theorem reached1_c (m : Mt) (x : Int) (W : World) (b5 : Nat) (vo : Value) (os : List Int) (h5 : VBox W b5 vo) (ho : OwnInts W (b5 + 1) vo os) (hs : SeeInts W m.A m.pts) (hx : m.pts[0]? = some x) (hl : os.length ≤ 1000) :
    Calls Try.prog 115 (#[.agg #[.slice m.A m.pts.length m.c, .slice m.B m.word.length m.d]] ++ #[.pointer (some ⟨b5, 0, none⟩)]) W fun e w' => e = .returned (.bool true) ∧ Coll W b5 vo (os ++ [x]) w' := by
  have k0 : Below W.heap.size W (W.alloc (.cells #[.slice m.A m.pts.length m.c, .slice m.B m.word.length m.d] 119)) := by go_grown
  obtain ⟨b, o, x', hA, hx', q⟩ := (hs.below k0).at_ (k := 0) (List.getElem?_eq_some_iff.1 hx).1
  rw [hx] at hx'
  obtain rfl := Option.some.inj hx'
  have hpl : (0 : Int) < m.pts.length := by have := (List.getElem?_eq_some_iff.1 hx).1; omega
  have hpl' : 0 < m.pts.length := (List.getElem?_eq_some_iff.1 hx).1
  have Q := q
  rw [Nat.add_zero] at Q
  have Q5 := (h5.below k0).cell
  have Qm := (show (W.alloc (.cells #[.slice m.A m.pts.length m.c, .slice m.B m.word.length m.d] 119)).cell? ⟨W.heap.size, 0, none⟩ = some (.slice m.A m.pts.length m.c) by simp [go_sem])
  rw [hA] at Qm
  have l5 := h5.lt
  show Calls Try.prog 115 #[.agg #[.slice m.A m.pts.length m.c, .slice m.B m.word.length m.d], .pointer (some ⟨b5, 0, none⟩)] W _
  have HX := Lib.hid hx
  have HO := Lib.hid ho
  have H5 := Lib.hid h5
  have K0 := Lib.hid k0
  have HLT := Lib.hid ho.lt
  clear hs hx q ho h5 k0
  rw [hA] at *
  clear hA
  go_enter Try.func115, Try.ntmps115
  go_wp2
  refine wp_region_headS 6 (fun w' => w'.cell? ⟨b5, 0, none⟩ = some vo ∧ w'.cell? ⟨W.heap.size, 0, none⟩ = some (.slice (some ⟨b, o, none⟩) m.pts.length m.c) ∧ w'.cell? ⟨b, o, none⟩ = some (.int .i64 x)) (by kernel_rfl) (by kernel_rfl) ⟨Q5, Qm, Q⟩ (fun hHeld => ?_)
  simp only [List.drop]
  refine headH_take (i := 0) (v := ?_) rfl (by kernel_rfl) (fun _ _ _ h => h) (Or.inl ⟨by rfl, ?_⟩) hHeld ?_
  rotate_left
  · intro w hSw
    (try dsimp only at hSw)
    go_simp
    try with_reducible rfl
  try simp only [Act.put, List.setIfInBounds_toArray, List.set_cons_zero, List.set_cons_succ]
  refine headH_take (i := 1) (v := ?_) rfl (by kernel_rfl) (fun _ _ _ h => h) (Or.inl ⟨by rfl, ?_⟩) hHeld ?_
  rotate_left
  · intro w hSw
    (try dsimp only at hSw)
    go_simp
    try with_reducible rfl
  try simp only [Act.put, List.setIfInBounds_toArray, List.set_cons_zero, List.set_cons_succ]
  refine headH_take (i := 2) (v := ?_) rfl (by kernel_rfl) (fun _ _ _ h => h) (Or.inl ⟨by rfl, ?_⟩) hHeld ?_
  rotate_left
  · intro w hSw
    (try dsimp only at hSw)
    go_simp
    try with_reducible rfl
  try simp only [Act.put, List.setIfInBounds_toArray, List.set_cons_zero, List.set_cons_succ]
  refine headH_take (i := 3) (v := ?_) rfl (by kernel_rfl) (fun _ _ _ h => h) (Or.inl ⟨by rfl, ?_⟩) hHeld ?_
  rotate_left
  · intro w hSw
    (try dsimp only at hSw)
    go_simp
    try with_reducible rfl
  try simp only [Act.put, List.setIfInBounds_toArray, List.set_cons_zero, List.set_cons_succ]
  refine headH_take (i := 4) (v := ?_) rfl (by kernel_rfl) (fun _ _ _ h => h) (Or.inl ⟨by rfl, ?_⟩) hHeld ?_
  rotate_left
  · intro w hSw
    (try dsimp only at hSw)
    go_simp
    try with_reducible rfl
  try simp only [Act.put, List.setIfInBounds_toArray, List.set_cons_zero, List.set_cons_succ]
  refine headH_all (rs := [5]) (by kernel_rfl) (by kernel_rfl) (headH_cons rfl (fun K hK => ?_) headH_nil)
  go_simp
  refine hK.out _ _ ⟨acell hHeld.1 _, acell hHeld.2.1 _, acell hHeld.2.2 _⟩ (fun hHeldn => ?_)
  clear hK K hHeld
  have hHeld := hHeldn
  clear hHeldn
  try simp only [Act.put, List.setIfInBounds_toArray, List.set_cons_zero, List.set_cons_succ]
  refine headH_tail (by kernel_rfl) ?_
  clear hHeld
  have hb2 : Below W.heap.size W (((W.alloc (.cells #[.slice (some ⟨b, o, none⟩) m.pts.length m.c, .slice m.B m.word.length m.d] 119)).alloc (.cells #[.int .i64 x] 2)).drew) := Below.drew (btrans K0.out (kbelow _ _))
  have o2 := HO.out.below hb2
  have q5 := H5.out.below hb2
  have cx : (((W.alloc (.cells #[.slice (some ⟨b, o, none⟩) m.pts.length m.c, .slice m.B m.word.length m.d] 119)).alloc (.cells #[.int .i64 x] 2)).drew).cell? ⟨W.heap.size + 1, 0, none⟩ = some (.int .i64 x) := by simp [go_sem]
  generalize ((W.alloc (.cells #[.slice (some ⟨b, o, none⟩) m.pts.length m.c, .slice m.B m.word.length m.d] 119)).alloc (.cells #[.int .i64 x] 2)).drew = w2 at *
  have hz2 := hb2.size
  clear Q Q5 Qm
  go_wp2_with (at_builtin; refine wpList_push_int _ rfl (.tmp 4) (.tmp 9) rfl (b5 + 1) _ _ rfl o2 ⟨W.heap.size + 1, 0, none⟩ x rfl cx (by omega) (by omega) ?_; intro v' w3 hown' hgrow hv'; obtain ⟨A', c', rfl, _⟩ := hown'.see; have q5' := q5.grow hgrow (fun e => by have := (HLT.out b5 e).1; omega); have c5 := q5'.cell; have f5' := q5'.free)
  go_returns
  have hk : Keep (fun k => k ≠ b5 ∧ vo.ownBlock ≠ some k) W w3 := (kb hb2).trans (keep_grown hgrow fun k hk hs => hs.2 hk)
  rw [List.length_append] at hown' hv'
  refine ⟨rfl, _, q5'.set _, OwnInts.setBelow hown' (by simp) _, ?_, hk.set (fun h => h.1 rfl) _⟩
  rcases hv' with h | h
  · exact .inl h
  · exact .inr ⟨_, h, by omega⟩
/-- the points that are reached from one, in the order of their first words -/
def leadB : Mp → List Int → List Int := fun f p => p.map f.at
def reachL (ms : List Mp) (p : Int) : List Int := (gF (stp leadB ms) ms.length [p]).map fun m => m.1.headD 0
theorem pt1 {n p : Int} (h0 : 0 ≤ p) (h1 : p < n) : PtsL 1 n [p] := ⟨rfl, fun x hx => by rw [List.mem_singleton.1 hx]; exact ⟨h0, h1⟩⟩
theorem univ1 {ms : List Mp} {n p : Int} (h : RightL ms n) (h0 : 0 ≤ p) (h1 : p < n) : Univ (stp leadB ms) ms.length [p] (ptsAll n.toNat 1) := lead_univ h (by omega) (pt1 h0 h1)
theorem gF_take {σ : Type} [DecidableEq σ] {st : Nat → σ → σ} {L : Nat} {start : σ} {U : List σ} (hU : Univ st L start U) {i : Nat} {m : σ × List Int} (h : (gb st L start i)[i]? = some m) : (gF st L start).take (i + 1) = (gF st L start).take i ++ [m] := by
  rw [List.take_add_one, gF_get hU h]; rfl
set_option maxHeartbeats 2000000 in
theorem reachSearch_c {A F : Option Addr} {c fc : Nat} {ms : List Mp} {p n : Int} (w W : World) (b5 : Nat)
    (hb : Below w.heap.size w W) (h5 : VBox W b5 (.slice none 0 0)) (l5 : w.heap.size ≤ b5)
    (hA : SeeMaps w A ms) (hAl : InS (fun k => k < w.heap.size) A) (hr : RightL ms n) (h0 : 0 ≤ p) (h1 : p < n) (hF : SeeInts W F [p]) (hFl : InS (fun k => k < W.heap.size ∧ k ≠ b5) F) :
    Calls Try.prog 114 #[.slice A ms.length c, .slice F 1 fc, .func (.func 78) #[] #[], .func (.func 115) #[] #[.pointer (some ⟨b5, 0, none⟩)]] W fun e w' =>
      e = .returned (.tuple #[]) ∧ Below w.heap.size w w' ∧ ∃ vo, VBox w' b5 vo ∧ OwnInts w' w.heap.size vo (reachL ms p) := by
  have hz := hb.size
  have hlt5 := h5.lt
  have hU := univ1 hr h0 h1
  have hpts : ∀ p ∈ ptsAll n.toNat 1, PtsL 1 n p := fun p hp => by have := ptsAll_mem.1 hp; rwa [show (n.toNat : Int) = n by omega] at this
  refine (search_c (A := A) (F := F) (c := c) (fc := fc) (ms := ms) (start := [p]) (gB := 78) (gE := 115) (lbB := #[]) (lbE := #[.pointer (some ⟨b5, 0, none⟩)]) (U := ptsAll n.toNat 1) (by_ := leadB) (cont := fun _ => true)
    (I := fun i S W' => ∃ vo, S = (fun k => k = b5 ∨ vo.ownBlock = some k) ∧ VBox W' b5 vo ∧ OwnInts W' (b5 + 1) vo (((gF (stp leadB ms) ms.length [p]).take i).map fun m => m.1.headD 0))
    (Fin := fun _ _ => False)
    (S0 := fun k => k = b5) W (hA.below hb) (hAl.mono fun k hk => ⟨by omega, by omega⟩) hr.six hF (hFl.mono fun k hk => hk) hU.start (univ_by hU) hU.len (fun p hp => by have := (hpts p hp).1; omega) leadEnters (enters_of Try.func115 (by kernel_rfl) rfl) (lead_by 1 n ms _ hr.all hpts (by omega))
    ⟨.slice none 0 0, funext fun k => by simp [Value.ownBlock], h5, OwnInts.nil _ _⟩ (fun k hk => by rw [hk]; assumption)
    (fun i S W1 W2 hI hK => ?_) (fun i S W1 m hm hI hS hK hsee hown hSA hSB => ?_)).mono ?_
  · obtain ⟨vo, rfl, a5, ao⟩ := hI
    exact ⟨vo, rfl, a5.keepS hK (.inr hlt5), ao.keep (fun k hk => .inl (.inr hk)) hK⟩
  · obtain ⟨vo, rfl, a5, ao⟩ := hI
    have hin := bfs_in hU (List.mem_of_getElem? hm)
    have hl1 : m.pts.length = 1 := (hpts _ hin).1
    obtain ⟨x, hx⟩ := el (xs := m.pts) (k := 0) (by omega)
    have hln : (((gF (stp leadB ms) ms.length [p]).take i).map fun m => m.1.headD 0).length ≤ 1000 := by
      rw [List.length_map, List.length_take]
      have := gb_length hU 1000
      unfold gF
      omega
    refine (reached1_c m x W1 b5 vo _ a5 ao hsee hx hln).mono ?_
    rintro e w2 ⟨rfl, v', c5, co, cv, ck⟩
    refine ⟨rfl, ck.mono fun k _ hk => ⟨fun e => hk (.inl e), fun e => hk (.inr e)⟩, fun _ => ⟨fun k => k = b5 ∨ v'.ownBlock = some k, ⟨v', rfl, c5, ?_⟩, fun k hk => ?_⟩, fun h => by cases h⟩
    · rw [gF_take hU (by rw [← bfs_g]; exact hm), List.map_append]
      have e1 : [m.pw].map (fun m => m.1.headD 0) = [x] := by
        show [m.pts.headD 0] = [x]
        cases hp : m.pts with
        | nil => rw [hp] at hl1; simp at hl1
        | cons y t => rw [hp] at hx; simp at hx; simp [hx]
      rw [e1]
      exact co
    · rcases hk with rfl | hk
      · exact ⟨c5.lt, .inl (.inl rfl)⟩
      · refine ⟨(co.lt k hk).2, ?_⟩
        rcases cv with h | ⟨g, h, hg⟩
        · exact .inl (.inr (h ▸ hk))
        · rw [h] at hk
          exact .inr (by have := Option.some.inj hk; omega)
  · rintro e w2 ⟨rfl, hend, hK⟩
    refine ⟨rfl, hb.trans (hK.below hz fun k hk => ⟨by omega, by omega⟩), ?_⟩
    rcases hend with ⟨N, S, e1, e2, ⟨vo, _, a5, ao⟩, _⟩ | ⟨N, m, _, _, h3, _⟩
    · refine ⟨vo, a5, ?_⟩
      have he := gF_of_end hU (N := N) (by rw [← bfs_g]; exact e1)
      have hle : (gF (stp leadB ms) ms.length [p]).length ≤ N := by
        rw [he]
        rw [bfs_g] at e1
        exact List.getElem?_eq_none_iff.1 e1
      rw [List.take_of_length_le hle] at ao
      exact ao.mono (by omega)
    · cases h3
set_option maxHeartbeats 2000000 in
theorem reached_c {A : Option Addr} {c : Nat} {ms : List Mp} {p n : Int} (w : World) (hA : SeeMaps w A ms) (hAl : InS (fun k => k < w.heap.size) A) (hr : RightL ms n) (h0 : 0 ≤ p) (h1 : p < n) :
    Calls Try.prog 76 #[.slice A ms.length c, .int .i64 p] w fun e w' => ∃ v, e = .returned v ∧ OwnInts w' w.heap.size v (reachL ms p) ∧ Below w.heap.size w w' := by
  have hS := fun W F fc b5 hb h5 l5 hF hFl => reachSearch_c (A := A) (c := c) (F := F) (fc := fc) w W b5 hb h5 l5 hA hAl hr h0 h1 hF hFl
  generalize reachL ms p = r at hS ⊢
  have HS := Lib.hid hS
  clear hS
  go_enter Try.func76, Try.ntmps76
  go_wp2_with fail
  have k0 : Below w.heap.size w ((w.alloc (Obj.cells #[Value.slice none 0 0] 23)).alloc (Obj.cells #[Value.int .i64 p] 2)) := by go_grown
  refine (HS.out _ _ _ w.heap.size k0 ((VBox.new _ _ rfl).keep _) (Nat.le_refl _) (fun _ => ⟨w.heap.size + 1, 0, rfl, fun k x hx => ?_⟩) (fun a ha => ?_)).mono ?_
  · have hl := (List.getElem?_eq_some_iff.1 hx).1
    obtain rfl : k = 0 := by simpa using hl
    obtain rfl : p = x := by simpa using hx
    simp [go_sem]
  · obtain rfl := Option.some.inj ha
    exact ⟨by simp, by simp⟩
  rintro e w2 ⟨rfl, hb2, vo, q5, hown⟩
  have c5 := q5.cell
  obtain ⟨A', c', rfl, _⟩ := hown.see
  go_wp2
  go_returns
  exact ⟨_, rfl, hown, hb2⟩
/-! 'PointsReached' on both sides; the reference's search for points. -/
/-- one letter's step of a point -/
def stS (ms : List Mp) (j : Nat) (p : Int) : Int := (ms.getD j Mp.z).at p
def reachS (ms : List Mp) (p : Int) : List Int := (gF (stS ms) ms.length p).map Prod.fst
def ptsU (n : Int) : List Int := (List.range n.toNat).map fun (i : Nat) => (i : Int)
theorem ptsU_mem {n p : Int} : p ∈ ptsU n ↔ 0 ≤ p ∧ p < n := by
  unfold ptsU
  rw [List.mem_map]
  constructor
  · rintro ⟨i, hi, rfl⟩
    have := List.mem_range.1 hi
    omega
  · rintro ⟨h0, h1⟩
    exact ⟨p.toNat, List.mem_range.2 (by omega), by omega⟩
theorem RightL.getD {ms : List Mp} {n : Int} (h : RightL ms n) {j : Nat} (hj : j < ms.length) : MpN (ms.getD j Mp.z) n := by
  rw [List.getD_eq_getElem?_getD, List.getElem?_eq_getElem hj]
  exact h.all _ (List.getElem_mem hj)
theorem univS {ms : List Mp} {n p : Int} (h : RightL ms n) (h0 : 0 ≤ p) (h1 : p < n) : Univ (stS ms) ms.length p (ptsU n) :=
  ⟨ptsU_mem.2 ⟨h0, h1⟩, fun j hj s hs => ptsU_mem.2 ((h.getD hj).at (ptsU_mem.1 hs).1 (ptsU_mem.1 hs).2), by have := h.bounds; unfold ptsU; rw [List.length_map, List.length_range]; omega⟩
theorem reach_eq {ms : List Mp} {n p : Int} (h : RightL ms n) (h0 : 0 ≤ p) (h1 : p < n) : reachL ms p = reachS ms p := by
  unfold reachL reachS gF
  rw [gb_map (univS h h0 h1) (st' := stp leadB ms) (start' := [p]) (fun x => [x]) rfl (fun j _ s _ => rfl) (fun s _ t _ e => by simpa using e), List.map_map]
  rfl
theorem bit_zero {ls : List Int} (hx : ∀ x ∈ ls, 0 ≤ x ∧ x < 6) {p : Int} (p0 : 0 ≤ p) : (bits .and .i64 ((bitsN ls : Int) / 2 ^ p.toNat) 1 == 0) = !decide (p ∈ ls) := by
  have h := last_bit hx p0
  have hlt : bitsN ls < 2 ^ 6 := bitsN_lt (j := 6) hx
  have e1 : ((bitsN ls : Int) / 2 ^ p.toNat) = ((bitsN ls / 2 ^ p.toNat : Nat) : Int) := by push_cast; rfl
  have h63 : bitsN ls / 2 ^ p.toNat < 2 ^ 63 := Nat.lt_of_le_of_lt (Nat.div_le_self _ _) (Nat.lt_of_lt_of_le hlt (by decide))
  have e2 : bits .and .i64 ((bitsN ls / 2 ^ p.toNat : Nat) : Int) 1 = ((bitsN ls / 2 ^ p.toNat &&& 1 : Nat) : Int) := bits_and _ 1 h63 (by decide)
  rw [e1, e2, Nat.and_one_is_mod] at h ⊢
  rw [← h]
  rcases Nat.mod_two_eq_zero_or_one (bitsN ls / 2 ^ p.toNat) with h0 | h0 <;> simp [h0]
theorem bitsN_snoc {ls : List Int} (hx : ∀ x ∈ ls, 0 ≤ x ∧ x < 6) {p : Int} (p0 : 0 ≤ p) (p1 : p < 6) : bits .or .i64 (bitsN ls : Int) (wrap64 (2 ^ p.toNat)) = (bitsN (ls ++ [p]) : Int) := by
  have hlt' : bitsN ls < 2 ^ 63 := Nat.lt_of_lt_of_le (bitsN_lt (j := 6) hx) (by decide)
  rw [pow_of p0 p1, bits_or _ _ hlt' (pow_lt p1)]
  congr 1
  simp [bitsN, List.foldl_append]
theorem mem_any (q : List (Int × List Int)) (p : Int) : q.any (fun m => decide (m.1 = p)) = decide (p ∈ q.map Prod.fst) := by
  rw [Bool.eq_iff_iff, List.any_eq_true, decide_eq_true_eq, List.mem_map]
  constructor
  · rintro ⟨m, hm, e⟩; exact ⟨m, hm, by simpa using e⟩
  · rintro ⟨m, hm, e⟩; exact ⟨m, hm, by simpa using e⟩
theorem bits_one (f : Int) : ((1 <<< f.toNat : Nat) : Int) = (bitsN [f] : Int) := by simp [bitsN]
theorem sh1 {f : Int} (f6 : f < 6) : wrap64 (2 ^ min f.toNat 64) = wrap64 (2 ^ f.toNat) := by rw [Nat.min_eq_left (by omega)]
set_option maxHeartbeats 4000000 in
theorem l07Reached_c (A A' : Option Addr) (l' c c' : Nat) (ms : List Mp) (f n : Int) (w : World) (h : SeeMaps w A ms) (hr : RightL ms n) (f0 : 0 ≤ f) (f1 : f < n) :
    Calls Try.prog 75 #[.agg #[.slice A ms.length c, .int .i64 f, .slice A' l' c']] w fun e w' => ∃ v, e = .returned v ∧ OwnInts w' w.heap.size v (reachS ms f) ∧ Below w.heap.size w w' := by
  have hU := univS hr f0 f1
  have n5 := hr.bounds.2
  have six := hr.six
  have k0 : Below w.heap.size w (w.alloc (Obj.cells #[Value.slice A ms.length c, .int .i64 f, Value.slice A' l' c'] 30)) := by go_grown
  obtain ⟨b0, b1, b2⟩ := AccBox w A A' ms.length c l' c' f 30
  have hs := (h.below k0).bw
  have f6 : f < 6 := by omega
  have hfine := fun i => gb_fine hU i
  have hlen := fun i => gb_length hU i
  have HFine := Lib.hid hfine
  have HLen := Lib.hid hlen
  have HU := Lib.hid hU
  have HR := Lib.hid hr
  have pow0 := pow_of f0 f6
  have POW := Lib.hid pow0
  clear hfine hlen hU hr pow0
  go_enter Try.func75, Try.ntmps75
  go_wp2
  refine wp_region_headS 8 (fun w' => w'.cell? ⟨w.heap.size, 1, none⟩ = some (.int .i64 f)) (by kernel_rfl) (by kernel_rfl) (show _ from b1 ⟨_, Below.drew (Below.refl _ _)⟩) (fun hHeld => ?_)
  simp only [List.drop]
  refine headH_take (i := 0) (v := ?_) rfl (by kernel_rfl) (fun _ _ _ h => h) (Or.inl ⟨by rfl, ?_⟩) hHeld ?_
  rotate_left
  · intro w hSw
    (try dsimp only at hSw)
    go_simp
    try with_reducible rfl
  try simp only [Act.put, List.setIfInBounds_toArray, List.set_cons_zero, List.set_cons_succ]
  refine headH_take (i := 1) (v := ?_) rfl (by kernel_rfl) (fun _ _ _ h => h) (Or.inl ⟨by rfl, ?_⟩) hHeld ?_
  rotate_left
  · intro w hSw
    (try dsimp only at hSw)
    go_simp
    try with_reducible rfl
  try simp only [Act.put, List.setIfInBounds_toArray, List.set_cons_zero, List.set_cons_succ]
  refine headH_take (i := 3) (v := ?_) rfl (by kernel_rfl) (fun _ _ _ h => h) (Or.inl ⟨by rfl, ?_⟩) hHeld ?_
  rotate_left
  · intro w hSw
    (try dsimp only at hSw)
    go_simp
    try with_reducible rfl
  try simp only [Act.put, List.setIfInBounds_toArray, List.set_cons_zero, List.set_cons_succ]
  refine headH_take (i := 4) (v := ?_) rfl (by kernel_rfl) (fun _ _ _ h => h) (Or.inl ⟨by rfl, ?_⟩) hHeld ?_
  rotate_left
  · intro w hSw
    (try dsimp only at hSw)
    go_simp
    try with_reducible rfl
  try simp only [Act.put, List.setIfInBounds_toArray, List.set_cons_zero, List.set_cons_succ]
  refine headH_take (i := 5) (v := ?_) rfl (by kernel_rfl) (fun _ _ _ h => h) (Or.inl ⟨by rfl, ?_⟩) hHeld ?_
  rotate_left
  · intro w hSw
    (try dsimp only at hSw)
    go_simp
    try with_reducible rfl
  try simp only [Act.put, List.setIfInBounds_toArray, List.set_cons_zero, List.set_cons_succ]
  refine headH_take (i := 6) (v := ?_) rfl (by kernel_rfl) (fun _ _ _ h => h) (Or.inl ⟨by rfl, ?_⟩) hHeld ?_
  rotate_left
  · intro w hSw
    (try dsimp only at hSw)
    go_simp
    try with_reducible rfl
  try simp only [Act.put, List.setIfInBounds_toArray, List.set_cons_zero, List.set_cons_succ]
  refine headH_all (rs := [2]) (by kernel_rfl) (by kernel_rfl) (headH_cons rfl (fun K hK => ?_) headH_nil)
  go_simp
  refine hK.out _ _ (by simp [go_sem]) (fun hHeldn => ?_)
  clear hK K hHeld
  have hHeld := hHeldn
  clear hHeldn
  try simp only [Act.put, List.setIfInBounds_toArray, List.set_cons_zero, List.set_cons_succ]
  refine headH_take (i := 7) (v := ?_) rfl (by kernel_rfl) (fun _ _ _ h => h) (Or.inl ⟨by rfl, ?_⟩) hHeld ?_
  rotate_left
  · intro w hSw
    (try dsimp only at hSw)
    go_simp
    try with_reducible rfl
  try simp only [Act.put, List.setIfInBounds_toArray, List.set_cons_zero, List.set_cons_succ]
  refine headH_tail (by kernel_rfl) ?_
  go_wp2
  have k1 : Below (w.alloc (Obj.cells #[Value.slice A ms.length c, .int .i64 f, Value.slice A' l' c'] 30)).heap.size (w.alloc (Obj.cells #[Value.slice A ms.length c, .int .i64 f, Value.slice A' l' c'] 30)) (((w.alloc (Obj.cells #[Value.slice A ms.length c, .int .i64 f, Value.slice A' l' c'] 30)).alloc (Obj.cells #[.int .i64 f] 2)).drew) := Below.drew (kbelow _ _)
  have e1 : (w.alloc (Obj.cells #[Value.slice A ms.length c, .int .i64 f, Value.slice A' l' c'] 30)).heap.size = w.heap.size + 1 := by simp
  have o1 : OwnInts (((w.alloc (Obj.cells #[Value.slice A ms.length c, .int .i64 f, Value.slice A' l' c'] 30)).alloc (Obj.cells #[.int .i64 f] 2)).drew) (w.heap.size + 1) (.slice (some ⟨w.heap.size + 1, 0, none⟩) 1 1) [f] := by
    have o1 := (OwnInts.one (w.alloc (Obj.cells #[Value.slice A ms.length c, .int .i64 f, Value.slice A' l' c'] 30)) (w.heap.size + 1) (by simp) f).below (Below.drew (Below.refl _ _))
    rw [e1] at o1
    exact o1
  clear e1
  clear hHeld
  generalize hW1 : w.alloc (Obj.cells #[Value.slice A ms.length c, .int .i64 f, Value.slice A' l' c'] 30) = W1 at *
  have hz1 : W1.heap.size = w.heap.size + 1 := by rw [← hW1]; simp
  have HZ1 := Lib.hid hz1
  clear hW1 hz1
  generalize (W1.alloc (Obj.cells #[.int .i64 f] 2)).drew = W2 at *
  go_loopw [5, 3, 4] (fun at_ out met wr => ∃ k : Nat, at_ = .int .i64 k ∧ k ≤ (gb (stS ms) ms.length f k).length ∧ OwnInts wr (w.heap.size + 1) out ((gb (stS ms) ms.length f k).map Prod.fst) ∧ met = .int .i64 (bitsN ((gb (stS ms) ms.length f k).map Prod.fst)) ∧ Below W1.heap.size W1 wr) (fun at_ _ _ _ => 1001 - (intOf at_).toNat)
  case atStart => exact ⟨0, rfl, Nat.zero_le _, o1, by rw [sh1 f6, POW.out]; exact congrArg (Value.int .i64) (bits_one f), k1⟩
  case round =>
    clear o1 k1
    obtain ⟨k, rfl, hk, hown, rfl, hb⟩ := hrel
    have hle := HLen.out k
    have hgl : ((gb (stS ms) ms.length f k).map Prod.fst).length = (gb (stS ms) ms.length f k).length := List.length_map _
    obtain ⟨A1, c1, rfl, hsee⟩ := hown.see
    rw [hgl] at hown ⊢
    have HGL := Lib.hid hgl
    clear hgl
    by_cases hlt : k < (gb (stS ms) ms.length f k).length
    · obtain ⟨now, hnow⟩ := el hlt
      have hnp : 0 ≤ now.1 ∧ now.1 < n := ptsU_mem.1 ((HFine.out k).mem now (List.mem_of_getElem? hnow))
      have HN := Lib.hid hnow
      clear hnow hsee
      have l0 : (0 : Int) ≤ k := by omega
      have l1 : (k : Int) < (gb (stS ms) ms.length f k).length := by omega
      have hgq : gb (stS ms) ms.length f (k + 1) = gTo (stS ms) now (gb (stS ms) ms.length f k) ms.length := gb_succ HN.out
      have HGQ := Lib.hid hgq
      clear hgq
      go_wp2
      go_loopw [6, 3, 4] (fun i out met wr => ∃ j : Nat, i = .int .i64 j ∧ j ≤ ms.length ∧ OwnInts wr (w.heap.size + 1) out ((gTo (stS ms) now (gb (stS ms) ms.length f k) j).map Prod.fst) ∧ met = .int .i64 (bitsN ((gTo (stS ms) now (gb (stS ms) ms.length f k) j).map Prod.fst)) ∧ Below W1.heap.size W1 wr) (fun i _ _ _ => ms.length - (intOf i).toNat)
      case atStart => exact ⟨0, rfl, Nat.zero_le _, hown, rfl, hb⟩
      case round =>
        clear hown hb
        obtain ⟨j, rfl, hj, hown, rfl, hb⟩ := hrel
        have q0 := b0 ⟨wr, hb⟩
        simp only at q0
        have hfin := gTo_fine (st := stS ms) (now := now) (HFine.out k) j (fun i hi => HU.out.step i (by omega) _ ((HFine.out k).mem now (List.mem_of_getElem? HN.out)))
        have hin : ∀ x ∈ (gTo (stS ms) now (gb (stS ms) ms.length f k) j).map Prod.fst, 0 ≤ x ∧ x < 6 := fun x hx => by
          obtain ⟨m, hm, rfl⟩ := List.mem_map.1 hx
          have := ptsU_mem.1 (hfin.mem m hm)
          omega
        have hq1000 := hfin.length
        have hq2 := (HU.out).len
        have hpre : ((gTo (stS ms) now (gb (stS ms) ms.length f k) j).map Prod.fst)[k]? = some now.1 := by
          obtain ⟨t, ht⟩ := gTo_prefix (st := stS ms) now (gb (stS ms) ms.length f k) j
          rw [ht, List.map_append, List.getElem?_append_left (by rw [List.length_map]; exact hlt), List.getElem?_map, HN.out]
          rfl
        have hq3 : ((gTo (stS ms) now (gb (stS ms) ms.length f k) j).map Prod.fst).length ≤ 1000 := by rw [List.length_map]; omega
        obtain ⟨Q, hQ⟩ : ∃ Q, Q = (gTo (stS ms) now (gb (stS ms) ms.length f k) j).map Prod.fst := ⟨_, rfl⟩
        rw [← hQ] at hown hin hpre hq3 ⊢
        have HQ := Lib.hid hQ
        have HIN := Lib.hid hin
        have HFJ := Lib.hid hfin
        clear hQ hin hfin hq1000 hq2
        by_cases hlj : j < ms.length
        · obtain ⟨b, o, g, rfl, hg, gm⟩ := (hs ⟨wr, hb⟩).at_ hlj
          obtain ⟨A2, c2, rfl, hsee⟩ := hown.see
          obtain ⟨b2', o2, x, rfl, hx, qx⟩ := hsee.at_ (k := k) (List.getElem?_eq_some_iff.1 hpre).1
          rw [hpre] at hx
          obtain rfl := Option.some.inj hx
          have hgn : MpN g n := HR.out.all g (List.mem_of_getElem? hg)
          have hst : stS ms j now.1 = g.at now.1 := by unfold stS; rw [List.getD_eq_getElem?_getD, hg]; rfl
          have hto := gm.to (i := now.1.toNat) (by omega)
          obtain ⟨p0, p1⟩ := hgn.at hnp.1 hnp.2
          have e : g.to now.1.toNat = g.at now.1 := rfl
          rw [e] at hto
          generalize g.at now.1 = p at *
          have HST := Lib.hid hst
          have n0 := hnp.1
          have n1 : now.1 < 5 := by omega
          have p6 : p < 6 := by omega
          have kq : k < Q.length := (List.getElem?_eq_some_iff.1 hpre).1
          have kq' : (k : Int) < Q.length := by omega
          have lj0 : (0 : Int) ≤ j := by omega
          have lj1 : (j : Int) < ms.length := by omega
          have Q0 := bwcell q0
          have QX := bwcell qx
          have QT := bwcell hto
          have bz := bit_zero HIN.out p0
          have step : ∀ Q', Q' = (gTo (stS ms) now (gb (stS ms) ms.length f k) (j + 1)).map Prod.fst → (p ∈ Q → Q' = Q) ∧ (p ∉ Q → Q' = Q ++ [p]) := fun Q' hQ' => by
            have ha := mem_any (gTo (stS ms) now (gb (stS ms) ms.length f k) j) p
            rw [← HQ.out] at ha
            constructor
            · intro hp
              rw [hQ', HQ.out]
              show (g1 (stS ms) now (gTo (stS ms) now (gb (stS ms) ms.length f k) j) j).map Prod.fst = _
              rw [g1_hit (by rw [HST.out, ha]; simpa using hp)]
            · intro hp
              rw [hQ', HQ.out]
              show (g1 (stS ms) now (gTo (stS ms) now (gb (stS ms) ms.length f k) j) j).map Prod.fst = _
              rw [g1_new (by rw [HST.out, ha]; simpa using hp), List.map_append, HST.out]
              rfl
          have HSTEP := Lib.hid step
          clear step hst hpre hg hgn qx hto hsee e gm
          by_cases hp : p ∈ Q
          · have HP := Lib.hid hp
            rw [decide_eq_true hp] at bz
            clear hp
            go_wp2
            refine wp_region_bw (by kernel_rfl) (by kernel_rfl) ?_
            repeat go_big_quiet_step (fail)
            refine wpQuiet_nil ?_
            rintro _ ⟨⟨w2, hb2⟩, rfl⟩
            go_wp2
            go_roundw
            case rel =>
              obtain e := (HSTEP.out _ rfl).1 HP.out
              exact ⟨j + 1, by go_num, by omega, by rw [e]; exact hown.below hb2, by rw [e], btrans hb hb2⟩
            case measure => simp [intOf]; omega
          · have HP := Lib.hid hp
            rw [decide_eq_false hp] at bz
            clear hp
            have pw := bitsN_snoc HIN.out p0 p6
            have PW := Lib.hid pw
            clear pw
            go_wp2
            refine wp_region_bw (by kernel_rfl) (by kernel_rfl) ?_
            repeat go_big_quiet_step (fail)
            refine wpQuiet_nil ?_
            rintro w2 ⟨⟨w2x, hb2⟩, rfl⟩
            have hown2 := hown.below hb2
            have hb3 := btrans hb hb2
            have hz3 : w.heap.size + 1 ≤ w2.heap.size := by have := hb3.size; have := HZ1.out; omega
            clear Q0 QX QT
            go_wp2_with (at_builtin; refine wpList_push_int _ rfl (.tmp 50) (.tmp 52) rfl (w.heap.size + 1) _ _ rfl (hown2.below (kbelow _ _)) ⟨w2.heap.size, 0, none⟩ p rfl (by simp [go_sem]) (by omega) (by simp; omega) ?_; intro v' w3 hown' hgrow hv')
            go_roundw
            case rel =>
              obtain e := (HSTEP.out _ rfl).2 HP.out
              refine ⟨j + 1, by go_num, by omega, by rw [e]; exact hown', ?_, ?_⟩
              · rw [e, ← PW.out]
              · exact hb3.trans (Below.grown (w := w2.alloc (.cells #[.int .i64 p] 2)) (Below.alloc (Below.refl _ _) (by have := HZ1.out; omega) _) hgrow (by have := HZ1.out; simp; omega) (fun i hi => by have := (hown2.lt i hi).1; have := HZ1.out; omega))
            case measure => simp [intOf]; omega
        · obtain rfl : j = ms.length := by omega
          have q0' := q0
          go_wp2
          go_roundw
          case rel =>
            refine ⟨k + 1, by go_num, ?_, by rw [HGQ.out, ← HQ.out]; exact hown, by rw [HGQ.out, ← HQ.out], hb⟩
            have h1 := (List.getElem?_eq_some_iff.1 hpre).1
            rw [HGQ.out]
            have h2 := congrArg List.length HQ.out
            rw [List.length_map] at h2
            omega
          case measure => simp [intOf]; omega
    · have hk' : ¬ ((k : Int) < (gb (stS ms) ms.length f k).length) := by omega
      clear hk hlt
      go_wp2
      go_returns
      refine ⟨_, rfl, ?_, ?_⟩
      · have hn : (gb (stS ms) ms.length f k)[k]? = none := List.getElem?_eq_none (by omega)
        unfold reachS
        rw [gF_of_end HU.out hn]
        exact hown.mono (by omega)
      · exact btrans k0 hb
theorem SeeMaps.inS {w : World} {A : Option Addr} {ms : List Mp} (h : SeeMaps w A ms) (hn : ms ≠ []) : InS (fun k => k < w.heap.size) A := fun a ha => by
  obtain ⟨b, o, e, g⟩ := h hn
  rw [ha] at e
  obtain rfl := Option.some.inj e
  obtain ⟨m, hm⟩ := el (xs := ms) (k := 0) (by cases ms with | nil => exact absurd rfl hn | cons => simp)
  exact World.block_lt_of_cell? w ⟨b, o + 0 * 6, none⟩ (g 0 m hm).h0
theorem SeeInts.inS {w : World} {A : Option Addr} {xs : List Int} (h : SeeInts w A xs) (hn : xs ≠ []) : InS (fun k => k < w.heap.size) A := fun a ha => by
  obtain ⟨b, o, e, g⟩ := h hn
  rw [ha] at e
  obtain rfl := Option.some.inj e
  obtain ⟨m, hm⟩ := el (xs := xs) (k := 0) (by cases xs with | nil => exact absurd rfl hn | cons => simp)
  exact World.block_lt_of_cell? w ⟨b, o + 0, none⟩ (g 0 m hm)
theorem RightL.ne {ms : List Mp} {n : Int} (h : RightL ms n) : ms ≠ [] := fun e => by have := h.pos; rw [e] at this; simp at this
open Classical in
noncomputable def RPointsReached (ms : List Mp) (f : Int) (ls : List Int) : List Int × Int := if accB ms f ls = true then (reachL ms f, 0) else ([], 1)
theorem RPointsReached_len (ms : List Mp) (f : Int) (ls : List Int) : (RPointsReached ms f ls).1.length ≤ 1000 := by
  unfold RPointsReached
  split
  · rename_i h
    have hr := RightA.of h
    dsimp only
    unfold reachL
    rw [List.length_map]
    exact gF_length (univ1 hr.list hr.f0 hr.f1)
  · simp
set_option maxRecDepth 100000 in
set_option maxHeartbeats 2000000 in
theorem implPointsReached_l {A A' : Option Addr} {c c' : Nat} {ms : List Mp} {f : Int} {ls : List Int} {w : World} (h : SeeMaps w A ms) (hn : ms.length ≤ 2097152) (hA : NilOk A c) (h' : SeeInts w A' ls) (hn' : ls.length ≤ 2097152) (_ : NilOk A' c') :
    Calls Try.prog 32 #[.agg #[.slice A ms.length c, .int .i64 f, .slice A' ls.length c']] w fun e w' => ∃ v, e = .returned (.tuple #[v, .int .i64 (RPointsReached ms f ls).2]) ∧ OwnInts w' w.heap.size v (RPointsReached ms f ls).1 ∧ Below w.heap.size w w' := by
  have k0 : Below w.heap.size w (w.alloc (Obj.cells #[Value.slice A ms.length c, .int .i64 f, Value.slice A' ls.length c'] 30)) := by go_grown
  obtain ⟨b0, b1, b2⟩ := AccBox w A A' ms.length c ls.length c' f 30
  cases hacc : accB ms f ls
  · have e1 : RPointsReached ms f ls = ([], 1) := by simp [RPointsReached, hacc]
    rw [e1]
    clear e1
    go_enter Try.func32, Try.ntmps32
    go_wp2_with (go_at_call 18; go_must (refine (valB (IsAcceptor_c _ _ _ _ ms f ls _ (h.below k0) hn hA (h'.below k0) hn') hacc).mono ?_); rintro e w2 ⟨rfl, hb2⟩)
    go_returns
    exact ⟨_, rfl, OwnInts.nil _ _, btrans k0 hb2⟩
  · have HR := RightA.of hacc
    have e1 : RPointsReached ms f ls = (reachL ms f, 0) := by simp [RPointsReached, hacc]
    rw [e1]
    clear e1
    have HRH := Lib.hid HR
    clear HR
    go_enter Try.func32, Try.ntmps32
    go_wp2_with (go_at_call 18; go_must (refine (valB (IsAcceptor_c _ _ _ _ ms f ls _ (h.below k0) hn hA (h'.below k0) hn') hacc).mono ?_); rintro e w2 ⟨rfl, hb2⟩; have q0 := b0 ⟨w2, hb2⟩; have q1 := b1 ⟨w2, hb2⟩; have hs := (h.below k0).below hb2)
    refine (reached_c _ hs (hs.inS HRH.out.list.ne) HRH.out.list HRH.out.f0 HRH.out.f1).mono ?_
    rintro e w3 ⟨v, rfl, hown, hb3⟩
    obtain ⟨A1, c1, rfl, _⟩ := hown.see
    have hz := (btrans k0 hb2).size
    go_wp2
    go_returns
    exact ⟨_, rfl, hown.mono hz, btrans (btrans k0 hb2) hb3⟩
set_option maxRecDepth 100000 in
set_option maxHeartbeats 2000000 in
theorem specPointsReached_l {A A' : Option Addr} {c c' : Nat} {ms : List Mp} {f : Int} {ls : List Int} {w : World} (h : SeeMaps w A ms) (hn : ms.length ≤ 2097152) (_ : NilOk A c) (h' : SeeInts w A' ls) (hn' : ls.length ≤ 2097152) (_ : NilOk A' c') :
    Calls Try.prog 31 #[.agg #[.slice A ms.length c, .int .i64 f, .slice A' ls.length c']] w fun e w' => ∃ v, e = .returned (.tuple #[v, .int .i64 (RPointsReached ms f ls).2]) ∧ OwnInts w' w.heap.size v (RPointsReached ms f ls).1 ∧ Below w.heap.size w w' := by
  have k0 : Below w.heap.size w (w.alloc (Obj.cells #[Value.slice A ms.length c, .int .i64 f, Value.slice A' ls.length c'] 30)) := by go_grown
  obtain ⟨b0, b1, b2⟩ := AccBox w A A' ms.length c ls.length c' f 30
  cases hacc : accB ms f ls
  · have e1 : RPointsReached ms f ls = ([], 1) := by simp [RPointsReached, hacc]
    rw [e1]
    clear e1
    go_enter Try.func31, Try.ntmps31
    go_wp2_with (go_at_call 58; go_must (refine (valB (l07Is_c _ _ _ _ ms f ls _ (h.below k0) hn (h'.below k0) hn') hacc).mono ?_); rintro e w2 ⟨rfl, hb2⟩)
    go_returns
    exact ⟨_, rfl, OwnInts.nil _ _, btrans k0 hb2⟩
  · have HR := RightA.of hacc
    have e1 : RPointsReached ms f ls = (reachS ms f, 0) := by simp [RPointsReached, hacc, reach_eq HR.list HR.f0 HR.f1]
    rw [e1]
    clear e1
    have HRH := Lib.hid HR
    clear HR
    go_enter Try.func31, Try.ntmps31
    go_wp2_with (go_at_call 58; go_must (refine (valB (l07Is_c _ _ _ _ ms f ls _ (h.below k0) hn (h'.below k0) hn') hacc).mono ?_); rintro e w2 ⟨rfl, hb2⟩; have q0 := b0 ⟨w2, hb2⟩; have q1 := b1 ⟨w2, hb2⟩; have q2 := b2 ⟨w2, hb2⟩; have hs := (h.below k0).below hb2)
    refine (l07Reached_c _ _ _ _ _ ms f _ _ hs HRH.out.list HRH.out.f0 HRH.out.f1).mono ?_
    rintro e w3 ⟨v, rfl, hown, hb3⟩
    obtain ⟨A1, c1, rfl, _⟩ := hown.see
    have hz := (btrans k0 hb2).size
    go_wp2
    go_returns
    exact ⟨_, rfl, hown.mono hz, btrans (btrans k0 hb2) hb3⟩
end Go.Proofs.Ytbodaefdaagelaa
