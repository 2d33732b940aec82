/- Least acceptors accept the same words, and are least acceptors of themselves, with no program in sight. No condition. -/
import Derived.Test.YtbodaefdaagelaaLeastQ
import Derived.Test.YtbodaefdaagelaaWordsC
import Derived.Test.YtbodaefdaagelaaDiffL
namespace Go.Proofs.Ytbodaefdaagelaa
set_option linter.unusedSimpArgs false
set_option linter.unusedVariables false
set_option linter.unusedSectionVars false
open Go.RowKit
theorem asc_ext : ∀ {l l' : List Int}, l.Pairwise (· < ·) → l'.Pairwise (· < ·) → (∀ x, x ∈ l ↔ x ∈ l') → l = l'
  | [], [], _, _, _ => rfl
  | [], y :: l', _, _, h => absurd ((h y).2 (by simp)) (by simp)
  | x :: l, [], _, _, h => absurd ((h x).1 (by simp)) (by simp)
  | x :: l, y :: l', h1, h2, h => by
    obtain ⟨a1, a2⟩ := List.pairwise_cons.1 h1
    obtain ⟨b1, b2⟩ := List.pairwise_cons.1 h2
    have e : x = y := by
      rcases List.mem_cons.1 ((h x).1 (by simp)) with e | e
      · exact e
      · rcases List.mem_cons.1 ((h y).2 (by simp)) with e' | e'
        · exact e'.symm
        · have := b1 x e; have := a1 y e'; omega
    subst e
    rw [asc_ext a2 b2 fun z => ?_]
    constructor
    · intro hz
      rcases List.mem_cons.1 ((h z).1 (by simp [hz])) with e | e
      · have := a1 z hz; omega
      · exact e
    · intro hz
      rcases List.mem_cons.1 ((h z).2 (by simp [hz])) with e | e
      · have := b1 z hz; omega
      · exact e
theorem isSet_of {xs : List Int} {n : Int} (h : xs.Pairwise (· < ·)) (hr : ∀ x ∈ xs, 0 ≤ x ∧ x < n) : IsSet xs n := fun j x hj hx => by
  refine ⟨by have := hr x (List.mem_of_getElem? hx); omega, fun y hj0 hy => ?_⟩
  obtain ⟨h1, rfl⟩ := List.getElem?_eq_some_iff.1 hx
  obtain ⟨h2, rfl⟩ := List.getElem?_eq_some_iff.1 hy
  exact List.pairwise_iff_getElem.1 h (j - 1) j h2 h1 (by omega)
theorem acc_of {ms : List Mp} {f n : Int} {ls : List Int} (h : RightA ms f ls n) : accB ms f ls = true := by
  have hp := h.list.pos
  obtain ⟨e, _⟩ := h.list.head
  unfold accB
  rw [e, sameB_ok (List.getElem?_eq_getElem hp) h.list.six fun m hm => ⟨(h.list.all m hm).1, by rw [(h.list.all m hm).2, (h.list.all _ (List.getElem_mem hp)).2]⟩, inB_true h.f0 (by have := h.f1; omega)]
  simp [isSetB, h.set]
theorem fx_le {cl : List Int} {v i : Nat} (hi : i < cl.length) (h : cls cl i = (v : Int)) : fxOf cl v ≤ i := by
  unfold fxOf fidx
  cases e : cl.findIdx? (fun x => decide ((v : Int) = x)) with
  | none =>
    have := List.findIdx?_eq_none_iff.1 e (cls cl i) (List.mem_of_getElem? (cls_get hi))
    simp [h] at this
  | some k =>
    obtain ⟨hk, h1, h2⟩ := List.findIdx?_eq_some_iff_getElem.1 e
    show ((k : Int)).toNat ≤ i
    rw [Int.toNat_natCast]
    refine Nat.le_of_not_lt fun hlt => ?_
    have h3 := h2 i hlt
    have h4 : cl[i] = cls cl i := by
      have := cls_get (cl := cl) hi
      rw [List.getElem?_eq_getElem hi] at this
      exact Option.some.inj this
    rw [h4, h] at h3
    simp at h3
/-- first places ascend -/
theorem fx_mono {cl : List Int} {N c d : Nat} {nx : Int} (hc : IsCan cl N) (hx : CanTo cl N = some nx) (hcd : d < c) (hcn : (c : Int) < nx) : fxOf cl d < fxOf cl c := by
  obtain ⟨_, l1, e1⟩ := fx_spec hc.1 hx hcn
  obtain ⟨nx', h'⟩ := can_to hc (i := fxOf cl c) (by omega)
  have hs := canTo_spec h'
  have hno : ¬ cls cl (fxOf cl c) < nx' := fun hlt => by
    obtain ⟨i, hi, e⟩ := hs.2.2.2 (c : Int) (by omega) (by omega)
    have := fx_le (cl := cl) (v := c) (i := i) (by rw [hc.1]; omega) e
    omega
  have hcn2 := can_new hc (i := fxOf cl c) l1 h' hno
  obtain ⟨i, hi, e⟩ := hs.2.2.2 (d : Int) (by omega) (by omega)
  have := fx_le (cl := cl) (v := d) (i := i) (by rw [hc.1]; omega) e
  omega
section
variable {ms : List Mp} {ls : List Int} {n f : Int}
/-- the number of a point, the first point of a number, the least acceptor's map -/
noncomputable def lcl (ms : List Mp) (f : Int) (ls : List Int) : List Int := clsL ms ls (reachL ms f)
noncomputable def numP (ms : List Mp) (f : Int) (ls : List Int) (p : Int) : Int := cls (lcl ms f ls) (fidx (fun x => decide (p = x)) (reachL ms f)).toNat
noncomputable def repP (ms : List Mp) (f : Int) (ls : List Int) (c : Nat) : Int := cls (reachL ms f) (fxOf (lcl ms f ls) c)
noncomputable def lmap (ms : List Mp) (f : Int) (ls : List Int) (m : Mp) : Mp := leastTo (lcl ms f ls) (reachL ms f) (leastQ ms f ls) m (leastQ ms f ls)
noncomputable def lmaps (ms : List Mp) (f : Int) (ls : List Int) : List Mp := ms.map (lmap ms f ls)
noncomputable def llast (ms : List Mp) (f : Int) (ls : List Int) : List Int := leastLast (lcl ms f ls) (reachL ms f) ls (leastQ ms f ls)
theorem leastA_eq : leastA ms f ls = (lmaps ms f ls, 0, llast ms f ls) := rfl
theorem lcl_can : IsCan (lcl ms f ls) (reachL ms f).length := clsL_can
theorem reach_at (hr : RightA ms f ls n) {i : Nat} (hi : i < (reachL ms f).length) : cls (reachL ms f) i ∈ reachL ms f := List.mem_of_getElem? (cls_get hi)
theorem ord_rng (hr : RightA ms f ls n) : ∀ i, i < (reachL ms f).length → 0 ≤ cls (reachL ms f) i ∧ cls (reachL ms f) i < n := fun i hi => reach_rng hr.list hr.f0 hr.f1 (reach_at hr hi)
theorem num_at (hr : RightA ms f ls n) {p : Int} (hp : p ∈ reachL ms f) : ∃ i, i < (reachL ms f).length ∧ cls (reachL ms f) i = p ∧ numP ms f ls p = cls (lcl ms f ls) i := by
  obtain ⟨i, h1, h2, h3, _⟩ := idx_spec (reach_nodup hr.list hr.f0 hr.f1) hp
  refine ⟨i, h2, h3, ?_⟩
  unfold numP
  rw [h1, Int.toNat_natCast]
theorem num_ord (hr : RightA ms f ls n) {i : Nat} (hi : i < (reachL ms f).length) : numP ms f ls (cls (reachL ms f) i) = cls (lcl ms f ls) i := by
  obtain ⟨j, h1, h2, h3, h4⟩ := idx_spec (reach_nodup hr.list hr.f0 hr.f1) (reach_at hr hi)
  unfold numP
  rw [h1, Int.toNat_natCast, h4 i hi rfl]
theorem num_rng (hr : RightA ms f ls n) {p : Int} (hp : p ∈ reachL ms f) : 0 ≤ numP ms f ls p ∧ numP ms f ls p < (leastQ ms f ls : Int) := by
  obtain ⟨i, h1, _, h3⟩ := num_at hr hp
  rw [h3]
  exact (canTo_spec (leastQ_spec hr.list hr.f0 hr.f1).1).2.2.1 i h1
theorem rep_mem (hr : RightA ms f ls n) {c : Nat} (hc : c < leastQ ms f ls) : repP ms f ls c ∈ reachL ms f ∧ numP ms f ls (repP ms f ls c) = (c : Int) := by
  obtain ⟨_, h2, h3⟩ := fx_spec (lcl_can (ms := ms) (f := f) (ls := ls)).1 (leastQ_spec (ls := ls) hr.list hr.f0 hr.f1).1 (v := c) (by omega)
  refine ⟨reach_at hr h2, ?_⟩
  unfold repP
  rw [num_ord hr h2]
  exact h3
theorem num_eqv (hr : RightA ms f ls n) {p p' : Int} (hp : p ∈ reachL ms f) (hp' : p' ∈ reachL ms f) : numP ms f ls p = numP ms f ls p' ↔ ∀ u, InL ms.length u → (run (stS ms) p u ∈ ls ↔ run (stS ms) p' u ∈ ls) := by
  obtain ⟨i, h1, h2, h3⟩ := num_at hr hp
  obtain ⟨k, g1, g2, g3⟩ := num_at hr hp'
  have a := reach_rng hr.list hr.f0 hr.f1 hp
  have b := reach_rng hr.list hr.f0 hr.f1 hp'
  rw [h3, g3, ← eqv_iff hr.list a.1 a.2 b.1 b.2]
  have := eqS_rel (ls := ls) hr.list (ord_rng hr) i k h1 g1
  unfold eqS at this
  rw [h2, g2] at this
  exact this
theorem reach_run (hr : RightA ms f ls n) {p : Int} (hp : p ∈ reachL ms f) {u : List Int} (hu : InL ms.length u) : run (stS ms) p u ∈ reachL ms f := by
  obtain ⟨k, hk⟩ := (mem_reach hr.list hr.f0 hr.f1).1 hp
  exact (mem_reach hr.list hr.f0 hr.f1).2 ⟨_, hk.trans ⟨u, rfl, hu, rfl⟩⟩
theorem reach_self (hr : RightA ms f ls n) : f ∈ reachL ms f := (mem_reach hr.list hr.f0 hr.f1).2 ⟨0, Wd.nil f⟩
theorem lmap_to (m : Mp) {c : Nat} (h5 : c < 5) : (lmap ms f ls m).to c = if c < leastQ ms f ls then numP ms f ls (m.at (repP ms f ls c)) else 0 := by
  unfold lmap leastTo
  rw [mkM_to _ _ h5]
  rfl
theorem lmap_MpN (hr : RightA ms f ls n) {m : Mp} (hm : m ∈ ms) : MpN (lmap ms f ls m) (leastQ ms f ls) := by
  obtain ⟨_, h5, h1⟩ := leastQ_spec (ls := ls) hr.list hr.f0 hr.f1
  refine ⟨⟨by show 1 ≤ (leastQ ms f ls : Int); omega, by show (leastQ ms f ls : Int) ≤ 5; omega, fun i hi => ?_⟩, rfl⟩
  rw [lmap_to m hi]
  show ((i : Int) < (leastQ ms f ls : Int) → _ ∧ _ ≤ (leastQ ms f ls : Int) - 1) ∧ ((leastQ ms f ls : Int) ≤ (i : Int) → _)
  constructor
  · intro h
    rw [if_pos (by omega)]
    have := num_rng hr (reach_next hr.list hr.f0 hr.f1 (rep_mem hr (c := i) (by omega)).1 hm)
    omega
  · intro h
    rw [if_neg (by omega)]
theorem llast_asc (ms : List Mp) (f : Int) (ls : List Int) : (llast ms f ls).Pairwise (· < ·) := by
  unfold llast leastLast
  rw [List.pairwise_map]
  exact (List.pairwise_lt_range.filter _).imp fun h => by omega
theorem mem_llast {x : Int} : x ∈ llast ms f ls ↔ ∃ c : Nat, c < leastQ ms f ls ∧ repP ms f ls c ∈ ls ∧ x = (c : Int) := by
  unfold llast leastLast
  simp only [List.mem_map, List.mem_filter, List.mem_range, decide_eq_true_eq]
  constructor
  · rintro ⟨c, ⟨h1, h2⟩, rfl⟩; exact ⟨c, h1, h2, rfl⟩
  · rintro ⟨c, h1, h2, rfl⟩; exact ⟨c, ⟨h1, h2⟩, rfl⟩
/-- the least acceptor is an acceptor -/
theorem least_right (hr : RightA ms f ls n) : RightA (lmaps ms f ls) 0 (llast ms f ls) (leastQ ms f ls) := by
  obtain ⟨_, h5, h1⟩ := leastQ_spec (ls := ls) hr.list hr.f0 hr.f1
  have hp := hr.list.pos
  have h6 := hr.list.six
  refine ⟨⟨by unfold lmaps; rw [List.length_map]; exact hp, by unfold lmaps; rw [List.length_map]; exact h6, fun m hm => ?_⟩, Int.le_refl _, by omega, isSet_of (llast_asc ms f ls) fun x hx => ?_⟩
  · unfold lmaps at hm
    obtain ⟨m', hm', rfl⟩ := List.mem_map.1 hm
    exact lmap_MpN hr hm'
  · obtain ⟨c, h, _, rfl⟩ := mem_llast.1 hx
    omega
theorem lmaps_length : (lmaps ms f ls).length = ms.length := by unfold lmaps; rw [List.length_map]
theorem lmaps_getD (hr : RightA ms f ls n) {j : Nat} (hj : j < ms.length) : (lmaps ms f ls).getD j Mp.z = lmap ms f ls (ms.getD j Mp.z) := by
  unfold lmaps
  rw [List.getD_eq_getElem?_getD, List.getD_eq_getElem?_getD, List.getElem?_map, List.getElem?_eq_getElem hj]
  rfl
theorem num_last (hr : RightA ms f ls n) {p : Int} (hp : p ∈ reachL ms f) : numP ms f ls p ∈ llast ms f ls ↔ p ∈ ls := by
  have hn := num_rng hr hp
  rw [mem_llast]
  have key : ∀ c : Nat, c < leastQ ms f ls → numP ms f ls p = (c : Int) → (repP ms f ls c ∈ ls ↔ p ∈ ls) := fun c hc e => by
    obtain ⟨h1, h2⟩ := rep_mem hr hc
    exact (num_eqv hr h1 hp).1 (h2.trans e.symm) [] (fun k hk => by cases hk)
  constructor
  · rintro ⟨c, hc, h, e⟩
    exact (key c hc e).1 h
  · intro h
    exact ⟨(numP ms f ls p).toNat, by omega, (key _ (by omega) (by omega)).2 h, by omega⟩
theorem numP_step (hr : RightA ms f ls n) {p : Int} (hp : p ∈ reachL ms f) {j : Nat} (hj : j < ms.length) : stS (lmaps ms f ls) j (numP ms f ls p) = numP ms f ls (stS ms j p) := by
  unfold stS
  rw [lmaps_getD hr hj]
  have hm : ms.getD j Mp.z ∈ ms := by rw [List.getD_eq_getElem?_getD, List.getElem?_eq_getElem hj]; exact List.getElem_mem hj
  generalize ms.getD j Mp.z = m at hm
  have hn := num_rng hr hp
  obtain ⟨_, h5, h1⟩ := leastQ_spec (ls := ls) hr.list hr.f0 hr.f1
  show (lmap ms f ls m).to (numP ms f ls p).toNat = _
  rw [lmap_to m (by omega), if_pos (by omega)]
  obtain ⟨g1, g2⟩ := rep_mem hr (c := (numP ms f ls p).toNat) (by omega)
  have e : numP ms f ls (repP ms f ls (numP ms f ls p).toNat) = numP ms f ls p := by rw [g2]; omega
  have h2 := (num_eqv hr g1 hp).1 e
  refine (num_eqv hr (reach_next hr.list hr.f0 hr.f1 g1 hm) (reach_next hr.list hr.f0 hr.f1 hp hm)).2 fun u hu => ?_
  obtain ⟨i, hi, rfl⟩ := List.mem_iff_getElem.1 hm
  have h3 := h2 ((i : Int) :: u) (fun k hk => by
    rcases List.mem_cons.1 hk with rfl | hk
    · omega
    · exact hu k hk)
  have e2 : ∀ x, run (stS ms) x ((i : Int) :: u) = run (stS ms) ((ms[i]).at x) u := fun x => by
    show run (stS ms) (stS ms ((i : Int)).toNat x) u = _
    unfold stS
    rw [Int.toNat_natCast, List.getD_eq_getElem?_getD, List.getElem?_eq_getElem hi]
    rfl
  rw [e2, e2] at h3
  exact h3
theorem num_run (hr : RightA ms f ls n) : ∀ (u : List Int) {p : Int}, p ∈ reachL ms f → InL ms.length u → run (stS (lmaps ms f ls)) (numP ms f ls p) u = numP ms f ls (run (stS ms) p u)
  | [], p, _, _ => rfl
  | k :: u, p, hp, hu => by
    have hk := hu k (by simp)
    have hu' : InL ms.length u := fun j hj => hu j (by simp [hj])
    show run (stS (lmaps ms f ls)) (stS (lmaps ms f ls) k.toNat (numP ms f ls p)) u = numP ms f ls (run (stS ms) (stS ms k.toNat p) u)
    rw [numP_step hr hp (by omega)]
    refine num_run hr u ?_ hu'
    exact reach_run hr hp (u := [k]) (fun j hj => by rw [List.mem_singleton.1 hj]; exact hk)
theorem order_first (hr : RightA ms f ls n) : cls (reachL ms f) 0 = f := by
  rw [reach_eq hr.list hr.f0 hr.f1]
  unfold reachS cls
  rw [List.getD_eq_getElem?_getD, List.getElem?_map, (gF_ord (st := stS ms) (start := f) hr.list.six).first]
  rfl
theorem num_first (hr : RightA ms f ls n) : numP ms f ls f = 0 := by
  have h0 := reach_pos hr.list hr.f0 hr.f1
  have := num_ord hr h0
  rw [order_first hr] at this
  rw [this]
  obtain ⟨nx, h⟩ := can_to (lcl_can (ms := ms) (f := f) (ls := ls)) (i := 1) (by omega)
  have hs := canTo_spec h
  have := hs.2.2.1 0 (by omega)
  omega
/-- the same words are accepted -/
theorem least_same (hr : RightA ms f ls n) {u : List Int} (hu : InL ms.length u) : run (stS (lmaps ms f ls)) 0 u ∈ llast ms f ls ↔ run (stS ms) f u ∈ ls := by
  have := num_run hr u (reach_self hr) hu
  rw [num_first hr] at this
  rw [this]
  exact num_last hr (reach_run hr (reach_self hr) hu)
/-! ### The least acceptor of a least acceptor -/
theorem gF_nodup {σ : Type} [DecidableEq σ] {st : Nat → σ → σ} {L : Nat} {start : σ} {U : List σ} (hU : Univ st L start U) : ((gF st L start).map Prod.fst).Nodup := by
  unfold gF
  exact (gb_fine hU _).nodup
theorem gF_one {σ : Type} [DecidableEq σ] {st : Nat → σ → σ} {L : Nat} {start : σ} {U : List σ} (hU : Univ st L start U) {i j : Nat} {a b : σ × List Int} (ha : (gF st L start)[i]? = some a) (hb : (gF st L start)[j]? = some b) (h : a.1 = b.1) : i = j := by
  obtain ⟨h1, rfl⟩ := List.getElem?_eq_some_iff.1 ha
  obtain ⟨h2, rfl⟩ := List.getElem?_eq_some_iff.1 hb
  have nd := gF_nodup hU
  have := (List.getElem_inj (h₀ := by simpa using h1) (h₁ := by simpa using h2) (xs := (gF st L start).map Prod.fst) nd).1 (by rw [List.getElem_map, List.getElem_map]; exact h)
  exact this
theorem order_get (hr : RightL ms n) (f0 : 0 ≤ f) (f1 : f < n) {i : Nat} (hi : i < (reachL ms f).length) : ∃ m, (gF (stS ms) ms.length f)[i]? = some m ∧ m.1 = cls (reachL ms f) i := by
  have h1 := cls_get (cl := reachL ms f) hi
  rw [reach_eq hr f0 f1] at h1
  unfold reachS at h1
  rw [List.getElem?_map] at h1
  cases e : (gF (stS ms) ms.length f)[i]? with
  | none => rw [e] at h1; cases h1
  | some m =>
    rw [e] at h1
    refine ⟨m, rfl, ?_⟩
    have h2 := Option.some.inj h1
    rw [reach_eq hr f0 f1]
    exact h2
theorem order_len (hr : RightL ms n) (f0 : 0 ≤ f) (f1 : f < n) : (gF (stS ms) ms.length f).length = (reachL ms f).length := by
  rw [reach_eq hr f0 f1]
  unfold reachS
  rw [List.length_map]
theorem least_asc (hr : RightA ms f ls n) : (reachL (lmaps ms f ls) 0).Pairwise (· < ·) := by
  have hl := least_right hr
  have hq := leastQ_spec (ls := ls) hr.list hr.f0 hr.f1
  have hU := univS hr.list hr.f0 hr.f1
  have hU' := univS hl.list hl.f0 hl.f1
  rw [List.pairwise_iff_getElem]
  intro x y hx hy hxy
  have cx : cls (reachL (lmaps ms f ls) 0) x = (reachL (lmaps ms f ls) 0)[x] := by
    have := cls_get (cl := reachL (lmaps ms f ls) 0) hx
    rw [List.getElem?_eq_getElem hx] at this
    exact (Option.some.inj this).symm
  have cy : cls (reachL (lmaps ms f ls) 0) y = (reachL (lmaps ms f ls) 0)[y] := by
    have := cls_get (cl := reachL (lmaps ms f ls) 0) hy
    rw [List.getElem?_eq_getElem hy] at this
    exact (Option.some.inj this).symm
  rw [← cx, ← cy]
  obtain ⟨mx, gx, ex⟩ := order_get hl.list hl.f0 hl.f1 hx
  obtain ⟨my, gy, ey⟩ := order_get hl.list hl.f0 hl.f1 hy
  rw [← ex, ← ey]
  have six' := hl.list.six
  have kxy := (gF_ord (st := stS (lmaps ms f ls)) (start := (0 : Int)) six').inc x y mx my hxy gx gy
  obtain ⟨sx1, sx2⟩ := gF_snd six' (List.mem_of_getElem? gx)
  have rx := reach_rng hl.list hl.f0 hl.f1 (reach_at hl hx)
  have ry := reach_rng hl.list hl.f0 hl.f1 (reach_at hl hy)
  rw [← ex] at rx
  rw [← ey] at ry
  refine Classical.byContradiction fun hge => ?_
  have hne : mx.1 ≠ my.1 := fun e => by have := gF_one hU' gx gy e; omega
  have hdc : my.1 < mx.1 := by omega
  rw [lmaps_length] at sx2
  -- d, its first place, and the word that leads there
  have hcan := lcl_can (ms := ms) (f := f) (ls := ls)
  obtain ⟨_, ld, ed⟩ := fx_spec hcan.1 hq.1 (v := my.1.toNat) (by omega)
  have hfx := fx_mono (c := mx.1.toNat) (d := my.1.toNat) hcan hq.1 (by omega) (by omega)
  obtain ⟨g, hg, eg⟩ := order_get hr.list hr.f0 hr.f1 ld
  obtain ⟨w1, w2⟩ := gF_snd hr.list.six (List.mem_of_getElem? hg)
  have hwd : run (stS (lmaps ms f ls)) 0 g.2 = my.1 := by
    have h1 := num_run hr g.2 (reach_self hr) w2
    rw [num_first hr, ← w1, eg, num_ord hr ld, ed] at h1
    rw [h1]; omega
  obtain ⟨m3, hm3, e3, k3⟩ := gF_all hU' six' g.2.length g.2 (Nat.le_refl _) (by rw [lmaps_length]; exact w2)
  obtain ⟨i3, hi3, e3'⟩ := List.mem_iff_getElem.1 hm3
  have : i3 = y := gF_one hU' (a := m3) (b := my) (by rw [List.getElem?_eq_getElem hi3]; exact congrArg some e3') gy (by rw [e3, hwd])
  subst this
  rw [List.getElem?_eq_getElem hi3, e3'] at gy
  have emy : m3 = my := Option.some.inj gy
  rw [emy] at k3
  -- the word to c, read in the first acceptor
  have hp := reach_run hr (reach_self hr) sx2
  obtain ⟨j, hj, ej, nj⟩ := num_at hr hp
  have hc : numP ms f ls (run (stS ms) f mx.2) = mx.1 := by
    have h1 := num_run hr mx.2 (reach_self hr) sx2
    rw [num_first hr, ← sx1] at h1
    exact h1.symm
  have hle := fx_le (cl := lcl ms f ls) (v := mx.1.toNat) (i := j) (by rw [hcan.1]; exact hj) (by rw [← nj, hc]; omega)
  obtain ⟨g2, hg2, eg2⟩ := order_get hr.list hr.f0 hr.f1 hj
  obtain ⟨m4, hm4, e4, k4⟩ := gF_all hU hr.list.six mx.2.length mx.2 (Nat.le_refl _) sx2
  obtain ⟨i4, hi4, e4'⟩ := List.mem_iff_getElem.1 hm4
  have h4' : (gF (stS ms) ms.length f)[i4]? = some m4 := by rw [List.getElem?_eq_getElem hi4]; exact congrArg some e4'
  have : i4 = j := gF_one hU h4' hg2 (by rw [e4, eg2, ej])
  subst this
  have k5 := (gF_ord (st := stS ms) (start := f) hr.list.six).inc (fxOf (lcl ms f ls) my.1.toNat) i4 g m4 (by omega) hg h4'
  omega
theorem least_mem (hr : RightA ms f ls n) (x : Int) : x ∈ reachL (lmaps ms f ls) 0 ↔ 0 ≤ x ∧ x < (leastQ ms f ls : Int) := by
  have hl := least_right hr
  constructor
  · exact fun h => reach_rng hl.list hl.f0 hl.f1 h
  · rintro ⟨h0, h1⟩
    obtain ⟨g1, g2⟩ := rep_mem hr (c := x.toNat) (by omega)
    obtain ⟨k, u, _, hu, e⟩ := (mem_reach hr.list hr.f0 hr.f1).1 g1
    have h3 := num_run hr u (reach_self hr) hu
    rw [num_first hr, e, g2] at h3
    refine (mem_reach hl.list hl.f0 hl.f1).2 ⟨u.length, u, rfl, by rw [lmaps_length]; exact hu, by rw [h3]; omega⟩
theorem least_order (hr : RightA ms f ls n) : reachL (lmaps ms f ls) 0 = (List.range (leastQ ms f ls)).map fun (c : Nat) => (c : Int) := by
  refine asc_ext (least_asc hr) (by rw [List.pairwise_map]; exact List.pairwise_lt_range.imp fun h => by omega) fun x => ?_
  rw [least_mem hr, List.mem_map]
  constructor
  · rintro ⟨h0, h1⟩
    exact ⟨x.toNat, List.mem_range.2 (by omega), by omega⟩
  · rintro ⟨c, hc, rfl⟩
    have := List.mem_range.1 hc
    omega
theorem can_id {cl : List Int} {N : Nat} (hc : IsCan cl N) (hi : ∀ i k, i < k → k < N → cls cl i ≠ cls cl k) : ∀ k, k ≤ N → CanTo cl k = some (k : Int) ∧ ∀ i, i < k → cls cl i = (i : Int)
  | 0, _ => ⟨rfl, fun i h => by omega⟩
  | k + 1, hk => by
    obtain ⟨h1, h2⟩ := can_id hc hi k (by omega)
    have hno : ¬ cls cl k < (k : Int) := fun hlt => by
      obtain ⟨nx, h'⟩ := can_to hc (i := k + 1) (by omega)
      have h0 := (canTo_spec h').2.2.1 k (by omega)
      have := h2 (cls cl k).toNat (by omega)
      exact hi (cls cl k).toNat k (by omega) (by omega) (by rw [this]; omega)
    obtain ⟨e1, e2, _⟩ := can_new hc (by omega) h1 hno
    refine ⟨by rw [e2]; congr 1, fun i hlt => ?_⟩
    by_cases e : i = k
    · subst e; exact e1
    · exact h2 i (by omega)
theorem least_twice (hr : RightA ms f ls n) : leastA (lmaps ms f ls) 0 (llast ms f ls) = (lmaps ms f ls, 0, llast ms f ls) := by
  have hl := least_right hr
  obtain ⟨hq0, hq5, hq1⟩ := leastQ_spec (ls := ls) hr.list hr.f0 hr.f1
  have ho := least_order hr
  have hlen : (reachL (lmaps ms f ls) 0).length = leastQ ms f ls := by rw [ho]; simp
  have hoc : ∀ i, i < leastQ ms f ls → cls (reachL (lmaps ms f ls) 0) i = (i : Int) := fun i hi => by
    rw [ho]
    unfold cls
    rw [List.getD_eq_getElem?_getD, List.getElem?_map, List.getElem?_range hi]
    rfl
  have hcan := lcl_can (ms := lmaps ms f ls) (f := 0) (ls := llast ms f ls)
  rw [hlen] at hcan
  have hinj : ∀ i k, i < k → k < leastQ ms f ls → cls (lcl (lmaps ms f ls) 0 (llast ms f ls)) i ≠ cls (lcl (lmaps ms f ls) 0 (llast ms f ls)) k := fun i k hik hk e => by
    rw [← num_ord hl (i := i) (by omega), ← num_ord hl (i := k) (by omega), hoc i (by omega), hoc k hk] at e
    have h3 := (num_eqv hl ((least_mem hr _).2 ⟨by omega, by omega⟩) ((least_mem hr _).2 ⟨by omega, by omega⟩)).1 e
    obtain ⟨a1, a2⟩ := rep_mem hr (c := i) (by omega)
    obtain ⟨b1, b2⟩ := rep_mem hr (c := k) hk
    have h4 : numP ms f ls (repP ms f ls i) = numP ms f ls (repP ms f ls k) := (num_eqv hr a1 b1).2 fun u hu => by
      have h5 := h3 u (by rw [lmaps_length]; exact hu)
      rw [← a2, ← b2, num_run hr u a1 hu, num_run hr u b1 hu, num_last hr (reach_run hr a1 hu), num_last hr (reach_run hr b1 hu)] at h5
      exact h5
    rw [a2, b2] at h4
    omega
  obtain ⟨hcq, hci⟩ := can_id hcan hinj _ (Nat.le_refl _)
  have hqq : leastQ (lmaps ms f ls) 0 (llast ms f ls) = leastQ ms f ls := by
    have h1 := (leastQ_spec (ls := llast ms f ls) hl.list hl.f0 hl.f1).1
    have h2 : CanTo (lcl (lmaps ms f ls) 0 (llast ms f ls)) (reachL (lmaps ms f ls) 0).length = some (leastQ (lmaps ms f ls) 0 (llast ms f ls) : Int) := h1
    rw [hlen, hcq] at h2
    have := Option.some.inj h2
    omega
  have hnum : ∀ x : Int, 0 ≤ x → x < (leastQ ms f ls : Int) → numP (lmaps ms f ls) 0 (llast ms f ls) x = x := fun x h0 h1 => by
    have h2 := num_ord hl (i := x.toNat) (by omega)
    rw [hoc _ (by omega), hci _ (by omega)] at h2
    rw [Int.toNat_of_nonneg h0] at h2
    exact h2
  have hrep : ∀ c : Nat, c < leastQ ms f ls → repP (lmaps ms f ls) 0 (llast ms f ls) c = (c : Int) := fun c hc => by
    have h2 := (rep_mem hl (c := c) (by omega)).2
    have h3 := (least_mem hr _).1 (rep_mem hl (c := c) (by omega)).1
    rw [hnum _ h3.1 h3.2] at h2
    exact h2
  have hmaps : lmaps (lmaps ms f ls) 0 (llast ms f ls) = lmaps ms f ls := by
    show (lmaps ms f ls).map (lmap (lmaps ms f ls) 0 (llast ms f ls)) = _
    refine (List.map_congr_left fun m hm => ?_).trans (List.map_id _)
    show lmap (lmaps ms f ls) 0 (llast ms f ls) m = m
    have hm' := hl.list.all m hm
    refine Mp.ext' (by rw [hm'.2]; show ((leastQ (lmaps ms f ls) 0 (llast ms f ls) : Nat) : Int) = _; rw [hqq]) fun i hi => ?_
    rw [lmap_to m hi, hqq]
    have h2 := hm'.1.2.2 i hi
    rw [hm'.2] at h2
    split
    · rename_i hlt
      rw [hrep i hlt]
      have h3 := h2.1 (by omega)
      have e : m.at (i : Int) = m.to i := rfl
      rw [e, hnum _ (by omega) (by omega)]
    · exact (h2.2 (by omega)).symm
  have hlast : llast (lmaps ms f ls) 0 (llast ms f ls) = llast ms f ls := by
    refine asc_ext (llast_asc _ _ _) (llast_asc _ _ _) fun x => ?_
    rw [mem_llast, hqq]
    constructor
    · rintro ⟨c, hc, h, rfl⟩
      rw [hrep c hc] at h
      exact h
    · intro h
      obtain ⟨c, hc, h2, rfl⟩ := mem_llast.1 h
      exact ⟨c, hc, by rw [hrep c hc]; exact h, rfl⟩
  rw [leastA_eq, hmaps, hlast]
/-! ### What the statement asks -/
theorem run_two (ma mb : List Mp) : ∀ (u : List Int) (p q : Int), run (stP ma mb) (p, q) u = (run (stS ma) p u, run (stS mb) q u)
  | [], p, q => rfl
  | k :: u, p, q => by
    show run (stP ma mb) (stP ma mb k.toNat (p, q)) u = (run (stS ma) (stS ma k.toNat p) u, run (stS mb) (stS mb k.toNat q) u)
    rw [← run_two ma mb u]
    rfl
theorem least_equal (hr : RightA ms f ls n) : RAreEqual ms f ls (leastA ms f ls).1 (leastA ms f ls).2.1 (leastA ms f ls).2.2 = (true, 0) := by
  rw [leastA_eq]
  have hl := least_right hr
  have hd : differR ms f ls (lmaps ms f ls) 0 (llast ms f ls) = ([], 4) := by
    unfold differR
    rw [if_pos ⟨acc_of hr, acc_of hl⟩, if_pos (lmaps_length (ms := ms) (f := f) (ls := ls)).symm]
    rcases fw_least (univP hr.list hl.list lmaps_length.symm hr.f0 hr.f1 hl.f0 hl.f1) hr.list.six (isP ls (llast ms f ls)) with ⟨w, e, h⟩ | ⟨e, _⟩
    · exfalso
      have h1 := h.2.1
      have h2 := least_same hr h.1
      simp only [run_two] at h1
      unfold isP at h1
      simp only [bne_iff_ne, ne_eq, decide_eq_decide] at h1
      exact h1 h2.symm
    · exact e
  show RAreEqual ms f ls (lmaps ms f ls) 0 (llast ms f ls) = _
  unfold RAreEqual
  rw [hd]
  rfl
end
end Go.Proofs.Ytbodaefdaagelaa
