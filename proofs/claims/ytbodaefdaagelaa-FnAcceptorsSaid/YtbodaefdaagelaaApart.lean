/- 'l07Apart': the reference's search for a word that tells two points apart. No condition. -/
import Derived.Test.YtbodaefdaagelaaPoints
import Derived.Test.YtbodaefdaagelaaSls
import Derived.Test.YtbodaefdaagelaaMk
namespace Go.Proofs.Ytbodaefdaagelaa
set_option linter.unusedSimpArgs false
set_option linter.unusedVariables false
set_option linter.unusedSectionVars false
open Go.RowKit
/-- one letter's step of a pair of points -/
def stP (ma mb : List Mp) (j : Nat) (s : Int × Int) : Int × Int := ((ma.getD j Mp.z).at s.1, (mb.getD j Mp.z).at s.2)
def isP (la lb : List Int) (s : Int × Int) : Bool := decide (s.1 ∈ la) != decide (s.2 ∈ lb)
/-- what a region of makes leaves in its slots -/
def ApR (base : Nat) (p q : Int) (nm : Nat) (i : Nat) (v : Value) (ds : List Value) (W : World) : Prop :=
  match i with
  | 2 => ∃ A c, v = .slice A 2 c ∧ OwnInts W base (.slice A 2 c) [p, q]
  | 3 => ∃ A c, ds = [.slice A 2 c] ∧ OwnSls W base v [⟨A, c, [p, q]⟩]
  | 4 => ∃ A c, v = .slice A 0 c ∧ OwnInts W base (.slice A 0 c) []
  | 5 => ∃ A c, ds = [.slice A 0 c] ∧ OwnSls W base v [⟨A, c, []⟩]
  | 13 => ∃ g c, v = .slice (some ⟨g, 0, none⟩) nm c ∧ OwnBools W base (.slice (some ⟨g, 0, none⟩) nm c) (List.replicate nm false)
  | _ => v = ds.headD undef
def ApD (i : Nat) : List Nat :=
  match i with
  | 3 => [2]
  | 5 => [4]
  | 14 => [3]
  | 15 => [5]
  | _ => []
def ApS (i : Nat) : Option Tmp :=
  match i with
  | 2 => some 27
  | 3 => some 28
  | 4 => some 29
  | 5 => some 30
  | 13 => some 38
  | 14 => some 11
  | 15 => some 12
  | _ => none
theorem ApR.below {base nm : Nat} {p q : Int} {i : Nat} {v : Value} {ds : List Value} {W W' : World} (h : ApR base p q nm i v ds W) (hb : Below W.heap.size W W') : ApR base p q nm i v ds W' := by
  unfold ApR at *
  split at h
  · obtain ⟨A, c, h2, h3⟩ := h; exact ⟨A, c, h2, h3.below hb⟩
  · obtain ⟨A, c, h2, h3⟩ := h; exact ⟨A, c, h2, h3.below hb⟩
  · obtain ⟨A, c, h2, h3⟩ := h; exact ⟨A, c, h2, h3.below hb⟩
  · obtain ⟨A, c, h2, h3⟩ := h; exact ⟨A, c, h2, h3.below hb⟩
  · obtain ⟨A, c, h2, h3⟩ := h; exact ⟨A, c, h2, h3.below hb⟩
  · exact h
theorem OwnInts.two (w : World) (base : Nat) (hb : base ≤ w.heap.size) (x y : Int) : OwnInts (w.alloc (.cells #[.int .i64 x, .int .i64 y] 2)) base (.slice (some ⟨w.heap.size, 0, none⟩) 2 2) [x, y] :=
  ⟨rfl, .inr ⟨w.heap.size, 2, #[.int .i64 x, .int .i64 y], rfl, hb, heap_alloc_new w _, Nat.le_refl _, by decide, rfl, rfl⟩⟩
theorem OwnInts.zero (w : World) (base : Nat) (hb : base ≤ w.heap.size) : OwnInts (w.alloc (.cells #[] 2)) base (.slice (some ⟨w.heap.size, 0, none⟩) 0 0) [] :=
  ⟨rfl, .inr ⟨w.heap.size, 0, #[], rfl, hb, heap_alloc_new w _, Nat.le_refl _, by decide, rfl, rfl⟩⟩
/-- which pairs are marked -/
def MetOk (na nb : Int) (nm : Nat) (bs : List Bool) (Q : List ((Int × Int) × List Int)) : Prop :=
  bs.length = nm ∧ ∀ x y : Int, 0 ≤ x → x < na → 0 ≤ y → y < nb → bs[(x * nb + y).toNat]? = some (Q.any fun m => decide (m.1 = (x, y)))
theorem idx_inj {nb x y x' y' : Int} (h1 : 1 ≤ nb) (h5 : nb ≤ 5) (hx : 0 ≤ x) (hy0 : 0 ≤ y) (hy : y < nb) (hx' : 0 ≤ x') (hy0' : 0 ≤ y') (hy' : y' < nb) (h : (x * nb + y).toNat = (x' * nb + y').toNat) : x = x' ∧ y = y' := by
  rcases (by omega : nb = 1 ∨ nb = 2 ∨ nb = 3 ∨ nb = 4 ∨ nb = 5) with rfl | rfl | rfl | rfl | rfl <;> omega
theorem idx_lt {na nb x y : Int} {nm : Nat} (hn : (nm : Int) = na * nb) (h1 : 1 ≤ nb) (h5 : nb ≤ 5) (hx : 0 ≤ x) (hxa : x < na) (hy0 : 0 ≤ y) (hy : y < nb) : (x * nb + y).toNat < nm ∧ 0 ≤ x * nb ∧ x * nb + y < nm := by
  rcases (by omega : nb = 1 ∨ nb = 2 ∨ nb = 3 ∨ nb = 4 ∨ nb = 5) with rfl | rfl | rfl | rfl | rfl <;> omega
theorem MetOk.none {na nb : Int} {nm : Nat} (hn : (nm : Int) = na * nb) (h1 : 1 ≤ nb) (h5 : nb ≤ 5) : MetOk na nb nm (List.replicate nm false) [] := ⟨by simp, fun x y hx hxa hy hyb => by
  have := (idx_lt hn h1 h5 hx hxa hy hyb).1
  rw [List.getElem?_replicate, if_pos this]
  simp⟩
theorem MetOk.add {na nb : Int} {nm : Nat} {bs : List Bool} {Q : List ((Int × Int) × List Int)} {x y : Int} {u : List Int} (h : MetOk na nb nm bs Q) (hn : (nm : Int) = na * nb) (h1 : 1 ≤ nb) (h5 : nb ≤ 5) (hx : 0 ≤ x) (hxa : x < na) (hy : 0 ≤ y) (hyb : y < nb) :
    MetOk na nb nm (bs.set (x * nb + y).toNat true) (Q ++ [((x, y), u)]) := ⟨by rw [List.length_set]; exact h.1, fun x' y' hx' hxa' hy' hyb' => by
  have hl := (idx_lt hn h1 h5 hx' hxa' hy' hyb').1
  rw [List.any_append]
  by_cases e : (x * nb + y).toNat = (x' * nb + y').toNat
  · obtain ⟨rfl, rfl⟩ := idx_inj h1 h5 hx hy hyb hx' hy' hyb' e
    rw [List.getElem?_set_self (by rw [h.1]; exact hl)]
    simp
  · rw [List.getElem?_set_ne e, h.2 x' y' hx' hxa' hy' hyb']
    have : ¬ (x, y) = (x', y') := fun e2 => by
      simp only [Prod.mk.injEq] at e2
      obtain ⟨rfl, rfl⟩ := e2
      exact e rfl
    simp only [List.any_cons, List.any_nil, this, decide_false, Bool.or_false]⟩
/-- the memory between rounds -/
structure ApMem (base : Nat) (vp vw vm : Value) (ps ws : List Sl) (bs : List Bool) (wr : World) : Prop where
  op : OwnSls wr base vp ps
  ow : OwnSls wr base vw ws
  om : OwnBools wr base vm bs
  ep : ElsOk wr base ps
  ew : ElsOk wr base ws
  sep : ∀ k, vp.ownBlock = some k → vw.ownBlock ≠ some k
section
variable {base : Nat} {vp vw vm v' : Value} {ps ws : List Sl} {bs : List Bool} {wr w' : World}
theorem ApMem.below (h : ApMem base vp vw vm ps ws bs wr) (hb : Below wr.heap.size wr w') : ApMem base vp vw vm ps ws bs w' :=
  ⟨h.op.below hb, h.ow.below hb, h.om.below hb, h.ep.below hb, h.ew.below hb, h.sep⟩
theorem kset (w : World) (a : Addr) (u : Value) : Keep (fun k => k ≠ a.block) w (w.setCell a u) := (Keep.refl _ w).set (fun h => h rfl) u
theorem ApMem.store {g n c k : Nat} (h : ApMem base vp vw (.slice (some ⟨g, 0, none⟩) n c) ps ws bs wr) : ApMem base vp vw (.slice (some ⟨g, 0, none⟩) n c) ps ws (bs.set k true) (wr.setCell ⟨g, k, none⟩ (.bool true)) := by
  have ne : ∀ {v : Value} {e : TypeId} {l : Nat} {xs : List Value}, wr.ownsRow base e 1 v l xs → e ≠ 4 → ∀ j, v.ownBlock = some j → j ≠ g := fun hr he j hj e => own_ne hr h.om he j hj (by rw [e]; rfl)
  exact ⟨h.op.keep (ne h.op (by decide)) (kset wr ⟨g, k, none⟩ (.bool true)), h.ow.keep (ne h.ow (by decide)) (kset wr ⟨g, k, none⟩ (.bool true)), h.om.put k true, fun s hs => (h.ep s hs).keep (ne (h.ep s hs) (by decide)) (kset wr ⟨g, k, none⟩ (.bool true)), fun s hs => (h.ew s hs).keep (ne (h.ew s hs) (by decide)) (kset wr ⟨g, k, none⟩ (.bool true)), h.sep⟩
theorem ApMem.pushP {s : Sl} (h : ApMem base vp vw vm ps ws bs wr) (hg : wr.grownBy w' vp.ownBlock) (ho : OwnSls w' base v' (ps ++ [s])) (hv : v'.ownBlock = vp.ownBlock ∨ v'.ownBlock = some wr.heap.size) (hs : OwnInts wr base s.v s.xs) : ApMem base v' vw vm (ps ++ [s]) ws bs w' :=
  ⟨ho, h.ow.grow hg (fun k hk hp => h.sep k hp hk), h.om.grow hg (own_ne h.om h.op (by decide)), (h.ep.snoc hs).growSl h.op hg, h.ew.growSl h.op hg, fun k hk hw => by
    rcases hv with e | e
    · exact h.sep k (e ▸ hk) hw
    · rw [e] at hk
      have := (h.ow.lt k hw).2
      have := Option.some.inj hk
      omega⟩
theorem ApMem.pushW {s : Sl} (h : ApMem base vp vw vm ps ws bs wr) (hg : wr.grownBy w' vw.ownBlock) (ho : OwnSls w' base v' (ws ++ [s])) (hv : v'.ownBlock = vw.ownBlock ∨ v'.ownBlock = some wr.heap.size) (hs : OwnInts wr base s.v s.xs) : ApMem base vp v' vm ps (ws ++ [s]) bs w' :=
  ⟨h.op.grow hg (fun k hk hp => h.sep k hk hp), ho, h.om.grow hg (own_ne h.om h.ow (by decide)), h.ep.growSl h.ow hg, (h.ew.snoc hs).growSl h.ow hg, fun k hk hw => by
    rcases hv with e | e
    · exact h.sep k hk (e ▸ hw)
    · rw [e] at hw
      have := (h.op.lt k hk).2
      have := Option.some.inj hw
      omega⟩
end
/-- what the lists hold between rounds -/
structure ApPure (na nb : Int) (nm : Nat) (Q : List ((Int × Int) × List Int)) (ps ws : List Sl) (bs : List Bool) : Prop where
  pq : ps.map Sl.xs = Q.map fun m => [m.1.1, m.1.2]
  wq : ws.map Sl.xs = Q.map Prod.snd
  met : MetOk na nb nm bs Q
theorem sls_sep {w : World} {base base' : Nat} {v v' : Value} {s s' : Sl} (h : OwnSls w base v [s]) (h' : OwnSls w base' v' [s']) (hne : s.xs.length ≠ s'.xs.length) : ∀ k, v.ownBlock = some k → v'.ownBlock ≠ some k := fun k hk hk' => by
  obtain ⟨A, c, rfl, g⟩ := h.at_
  obtain ⟨A', c', rfl, g'⟩ := h'.at_
  obtain ⟨b, rfl, q⟩ := g 0 s rfl
  obtain ⟨b', rfl, q'⟩ := g' 0 s' rfl
  simp [Value.ownBlock] at hk hk'
  subst hk
  subst hk'
  rw [q] at q'
  simp [Sl.v] at q'
  exact hne q'.2.1
theorem univP {ma mb : List Mp} {na nb p q : Int} (ra : RightL ma na) (rb : RightL mb nb) (hl : ma.length = mb.length) (p0 : 0 ≤ p) (p1 : p < na) (q0 : 0 ≤ q) (q1 : q < nb) : Univ (stP ma mb) ma.length (p, q) ((ptsU na).flatMap fun x => (ptsU nb).map fun y => (x, y)) := by
  have mem : ∀ s : Int × Int, s ∈ ((ptsU na).flatMap fun x => (ptsU nb).map fun y => (x, y)) ↔ (0 ≤ s.1 ∧ s.1 < na) ∧ (0 ≤ s.2 ∧ s.2 < nb) := fun s => by
    rw [List.mem_flatMap]
    constructor
    · rintro ⟨x, hx, h⟩
      obtain ⟨y, hy, rfl⟩ := List.mem_map.1 h
      exact ⟨ptsU_mem.1 hx, ptsU_mem.1 hy⟩
    · rintro ⟨h1, h2⟩
      exact ⟨s.1, ptsU_mem.2 h1, List.mem_map.2 ⟨s.2, ptsU_mem.2 h2, rfl⟩⟩
  refine ⟨(mem _).2 ⟨⟨p0, p1⟩, q0, q1⟩, fun j hj s hs => (mem _).2 ?_, ?_⟩
  · obtain ⟨h1, h2⟩ := (mem s).1 hs
    exact ⟨(ra.getD hj).at h1.1 h1.2, (rb.getD (hl ▸ hj)).at h2.1 h2.2⟩
  · rw [List.length_flatMap]
    simp only [List.length_map]
    rw [List.map_const', List.sum_replicate_nat]
    have h1 := ra.bounds
    have h2 := rb.bounds
    unfold ptsU
    rw [List.length_map, List.length_map, List.length_range, List.length_range]
    have : na.toNat * nb.toNat ≤ 5 * 5 := Nat.mul_le_mul (by omega) (by omega)
    omega
theorem pair_in {ma mb : List Mp} {na nb p q : Int} (ra : RightL ma na) (rb : RightL mb nb) (hl : ma.length = mb.length) (p0 : 0 ≤ p) (p1 : p < na) (q0 : 0 ≤ q) (q1 : q < nb) {i : Nat} {m : (Int × Int) × List Int} (hm : m ∈ gb (stP ma mb) ma.length (p, q) i) : (0 ≤ m.1.1 ∧ m.1.1 < na) ∧ (0 ≤ m.1.2 ∧ m.1.2 < nb) := by
  have h := (gb_fine (univP ra rb hl p0 p1 q0 q1) i).mem m hm
  rw [List.mem_flatMap] at h
  obtain ⟨x, hx, h⟩ := h
  obtain ⟨y, hy, e⟩ := List.mem_map.1 h
  rw [← e]
  exact ⟨ptsU_mem.1 hx, ptsU_mem.1 hy⟩
theorem any_mem {σ : Type} [DecidableEq σ] (q : List (σ × List Int)) (p : σ) : q.any (fun m => decide (m.1 = p)) = decide (p ∈ q.map Prod.fst) := by
  rw [Bool.eq_iff_iff, List.any_eq_true, decide_eq_true_eq, List.mem_map]
  constructor
  · rintro ⟨m, hm, e⟩; exact ⟨m, hm, by simpa using e⟩
  · rintro ⟨m, hm, e⟩; exact ⟨m, hm, by simpa using e⟩
theorem ApPure.len {na nb : Int} {nm : Nat} {Q : List ((Int × Int) × List Int)} {ps ws : List Sl} {bs : List Bool} (h : ApPure na nb nm Q ps ws bs) : ps.length = Q.length ∧ ws.length = Q.length := by
  have h1 := congrArg List.length h.pq
  have h2 := congrArg List.length h.wq
  rw [List.length_map, List.length_map] at h1 h2
  exact ⟨h1, h2⟩
theorem ApPure.get {na nb : Int} {nm : Nat} {Q : List ((Int × Int) × List Int)} {ps ws : List Sl} {bs : List Bool} (h : ApPure na nb nm Q ps ws bs) {k : Nat} {m : (Int × Int) × List Int} (hk : Q[k]? = some m) : (∃ s, ps[k]? = some s ∧ s.xs = [m.1.1, m.1.2]) ∧ ∃ s, ws[k]? = some s ∧ s.xs = m.2 := by
  have h1 := congrArg (fun l : List (List Int) => l[k]?) h.pq
  have h2 := congrArg (fun l : List (List Int) => l[k]?) h.wq
  simp only [List.getElem?_map, hk, Option.map_some, Option.map_eq_some_iff] at h1 h2
  obtain ⟨s, e1, e2⟩ := h1
  obtain ⟨s', e3, e4⟩ := h2
  exact ⟨⟨s, e1, e2⟩, s', e3, e4⟩
/-- what 'l07Apart' hands back -/
def ApPost (r : List Int × Int) (w : World) (e : Ending) (w' : World) : Prop := ∃ v, e = .returned (.tuple #[v, .bool (r.2 == 0)]) ∧ OwnInts w' w.heap.size v r.1 ∧ Below w.heap.size w w'
set_option maxHeartbeats 8000000 in
set_option maxRecDepth 100000 in
theorem l07Apart_c (A A' B B' : Option Addr) (c c' d d' : Nat) (ma mb : List Mp) (la lb : List Int) (fa fb p q na nb : Int) (w : World) (h : SeeMaps w A ma) (h' : SeeInts w A' la) (k : SeeMaps w B mb) (k' : SeeInts w B' lb)
    (ra : RightL ma na) (rb : RightL mb nb) (hl : ma.length = mb.length) (pa : ∀ x ∈ la, 0 ≤ x ∧ x < 6) (pb : ∀ x ∈ lb, 0 ≤ x ∧ x < 6) (hla : la.length ≤ 2097152) (hlb : lb.length ≤ 2097152) (p0 : 0 ≤ p) (p1 : p < na) (q0 : 0 ≤ q) (q1 : q < nb) :
    Calls Try.prog 73 #[.agg #[.slice A ma.length c, .int .i64 fa, .slice A' la.length c'], .agg #[.slice B mb.length d, .int .i64 fb, .slice B' lb.length d'], .int .i64 p, .int .i64 q] w (ApPost (fw (stP ma mb) ma.length (p, q) (isP la lb)) w) := by
  have k0 : Below w.heap.size w ((w.alloc (Obj.cells #[Value.slice A ma.length c, .int .i64 fa, Value.slice A' la.length c'] 30)).alloc (Obj.cells #[Value.slice B mb.length d, .int .i64 fb, Value.slice B' lb.length d'] 30)) := by go_grown
  obtain ⟨bB, oB, mB, rfl, hB0, gB⟩ := (k.below k0).at_ rb.pos
  obtain ⟨bA, oA, mA, rfl, hA0, gA⟩ := (h.below k0).at_ ra.pos
  have hmB : mB.p = nb := (rb.all mB (List.mem_of_getElem? hB0)).2
  have hmA : mA.p = na := (ra.all mA (List.mem_of_getElem? hA0)).2
  have gB0 := gB.h0
  have gA0 := gA.h0
  rw [hmB] at gB0
  rw [hmA] at gA0
  rw [Nat.zero_mul, Nat.add_zero] at gA0 gB0
  have pB := rb.pos
  have pA := ra.pos
  have nbb := rb.bounds
  have nab := ra.bounds
  have six := ra.six
  obtain ⟨r, hr⟩ : ∃ r, r = fw (stP ma mb) ma.length (p, q) (isP la lb) := ⟨_, rfl⟩
  rw [← hr]
  have HR := Lib.hid hr
  have HL := Lib.hid hl
  have RA := Lib.hid ra
  have RB := Lib.hid rb
  have PA := Lib.hid pa
  have PB := Lib.hid pb
  have HH := Lib.hid (h.below k0)
  have HH' := Lib.hid (h'.below k0)
  have HK := Lib.hid (k.below k0)
  have HK' := Lib.hid (k'.below k0)
  clear hr hl ra rb pa pb h h' k k' hmA hmB hB0 hA0 gA gB
  go_enter Try.func73, Try.ntmps73
  go_wp2
  obtain ⟨W1, hW1⟩ : ∃ W1, W1 = ((w.alloc (Obj.cells #[Value.slice (some ⟨bA, oA, none⟩) ma.length c, .int .i64 fa, Value.slice A' la.length c'] 30)).alloc (Obj.cells #[Value.slice (some ⟨bB, oB, none⟩) mb.length d, .int .i64 fb, Value.slice B' lb.length d'] 30)) := ⟨_, rfl⟩
  have ca0 : W1.cell? ⟨w.heap.size, 0, none⟩ = some (.slice (some ⟨bA, oA, none⟩) ma.length c) := by rw [hW1]; simp [go_sem]
  have ca1 : W1.cell? ⟨w.heap.size, 1, none⟩ = some (.int .i64 fa) := by rw [hW1]; simp [go_sem]
  have ca2 : W1.cell? ⟨w.heap.size, 2, none⟩ = some (.slice A' la.length c') := by rw [hW1]; simp [go_sem]
  have cb0 : W1.cell? ⟨w.heap.size + 1, 0, none⟩ = some (.slice (some ⟨bB, oB, none⟩) mb.length d) := by rw [hW1]; simp [go_sem]
  have cb1 : W1.cell? ⟨w.heap.size + 1, 1, none⟩ = some (.int .i64 fb) := by rw [hW1]; simp [go_sem]
  have cb2 : W1.cell? ⟨w.heap.size + 1, 2, none⟩ = some (.slice B' lb.length d') := by rw [hW1]; simp [go_sem]
  have z1 : W1.heap.size = w.heap.size + 2 := by rw [hW1]; simp
  rw [← hW1] at k0 gA0 gB0 HH HH' HK HK' ⊢
  have Z1 := Lib.hid z1
  clear hW1 z1
  obtain ⟨nm, hnm⟩ : ∃ nm : Nat, (nm : Int) = na * nb := ⟨(na * nb).toNat, by rw [Int.toNat_of_nonneg (Int.mul_nonneg (by omega) (by omega))]⟩
  have nm25 : nm ≤ 25 := by
    have : na * nb ≤ 5 * 5 := Int.mul_le_mul nab.2 nbb.2 (by omega) (by omega)
    omega
  have hmul : wrap64 (na * nb) = (nm : Int) := by rw [← hnm]; unfold wrap64; omega
  have hmul2 : IntKind.i64.wrap (na * nb) = (nm : Int) := by rw [← hnm, IntKind.wrap_i64]; omega
  have HNM := Lib.hid hnm
  clear hnm
  refine wp_region_headS 16 (fun w' => w'.cell? ⟨w.heap.size, 0, none⟩ = some (.slice (some ⟨bA, oA, none⟩) ma.length c) ∧ w'.cell? ⟨bA, oA, none⟩ = some (.int .i64 na)) (by kernel_rfl) (by kernel_rfl) ⟨ca0, gA0⟩ (fun hHeld => ?_)
  simp only [List.drop]
  refine headH_takeS (i := 0) (v := ?_) 25 rfl (by kernel_rfl) (by kernel_rfl) (fun _ _ _ h => h) (Or.inl ⟨by rfl, ?_⟩) hHeld ?_
  rotate_left
  · intro w hSw
    (try dsimp only at hSw)
    go_simp
    try with_reducible rfl
  try simp only [Act.put, List.setIfInBounds_toArray, List.set_cons_zero, List.set_cons_succ]
  refine headH_takeS (i := 1) (v := ?_) 26 rfl (by kernel_rfl) (by kernel_rfl) (fun _ _ _ h => h) (Or.inl ⟨by rfl, ?_⟩) hHeld ?_
  rotate_left
  · intro w hSw
    (try dsimp only at hSw)
    go_simp
    try with_reducible rfl
  try simp only [Act.put, List.setIfInBounds_toArray, List.set_cons_zero, List.set_cons_succ]
  refine headH_takeS (i := 6) (v := ?_) 31 rfl (by kernel_rfl) (by kernel_rfl) (fun _ _ _ h => h) (Or.inl ⟨by rfl, ?_⟩) hHeld ?_
  rotate_left
  · intro w hSw
    (try dsimp only at hSw)
    go_simp
    try with_reducible rfl
  try simp only [Act.put, List.setIfInBounds_toArray, List.set_cons_zero, List.set_cons_succ]
  refine headH_takeS (i := 7) (v := ?_) 32 rfl (by kernel_rfl) (by kernel_rfl) (fun _ _ _ h => h) (Or.inl ⟨by rfl, ?_⟩) hHeld ?_
  rotate_left
  · intro w hSw
    (try dsimp only at hSw)
    go_simp
    try with_reducible rfl
  try simp only [Act.put, List.setIfInBounds_toArray, List.set_cons_zero, List.set_cons_succ]
  refine headH_takeS (i := 8) (v := ?_) 33 rfl (by kernel_rfl) (by kernel_rfl) (fun _ _ _ h => h) (Or.inl ⟨by rfl, ?_⟩) hHeld ?_
  rotate_left
  · intro w hSw
    (try dsimp only at hSw)
    go_simp
    try with_reducible rfl
  try simp only [Act.put, List.setIfInBounds_toArray, List.set_cons_zero, List.set_cons_succ]
  refine headH_takeS (i := 9) (v := ?_) 34 rfl (by kernel_rfl) (by kernel_rfl) (fun _ _ _ h => h) (Or.inl ⟨by rfl, ?_⟩) hHeld ?_
  rotate_left
  · intro w hSw
    (try dsimp only at hSw)
    go_simp
    try with_reducible rfl
  try simp only [Act.put, List.setIfInBounds_toArray, List.set_cons_zero, List.set_cons_succ]
  refine headH_takeS (i := 10) (v := ?_) 35 rfl (by kernel_rfl) (by kernel_rfl) (fun _ _ _ h => h) (Or.inl ⟨by rfl, ?_⟩) hHeld ?_
  rotate_left
  · intro w hSw
    (try dsimp only at hSw)
    go_simp
    try with_reducible rfl
  try simp only [Act.put, List.setIfInBounds_toArray, List.set_cons_zero, List.set_cons_succ]
  refine headH_takeS (i := 11) (v := ?_) 36 rfl (by kernel_rfl) (by kernel_rfl) (fun _ _ _ h => h) (Or.inl ⟨by rfl, ?_⟩) hHeld ?_
  rotate_left
  · intro w hSw
    (try dsimp only at hSw)
    go_simp
    try with_reducible rfl
  try simp only [Act.put, List.setIfInBounds_toArray, List.set_cons_zero, List.set_cons_succ]
  refine headH_takeS (i := 12) (v := ?_) 37 rfl (by kernel_rfl) (by kernel_rfl) (fun _ _ _ h => h) (Or.inl ⟨by rfl, ?_⟩) hHeld ?_
  rotate_left
  · intro w hSw
    (try dsimp only at hSw)
    go_simp
    try with_reducible rfl
  try simp only [Act.put, List.setIfInBounds_toArray, List.set_cons_zero, List.set_cons_succ]
  clear hmul hmul2
  refine headH_mks (n := 16) (g := 0) [2, 3, 4, 5, 13, 14, 15] ApD ApS (ApR (w.heap.size + 2) p q nm) (by kernel_rfl) (by kernel_rfl) (fun _ _ _ _ _ h hb => h.below hb) (fun W hW => ⟨bcell hW hHeld.1, bcell hW hHeld.2⟩) ?_ ?_
  · refine AllMk.cons rfl ?_ (AllMk.cons rfl ?_ (AllMk.cons rfl ?_ (AllMk.cons rfl ?_ (AllMk.cons rfl ?_ (AllMk.cons rfl ?_ (AllMk.cons rfl ?_ AllMk.nil))))))
    · intro vs W K hbW hR hK
      have z : w.heap.size + 2 ≤ W.heap.size := by have h1 := hbW.size; have h2 := Z1.out; simp at h1; omega
      clear hR
      simp only [ApD, ApS, putsD, Act.put, List.setIfInBounds_toArray, List.set_cons_zero, List.set_cons_succ] at hK ⊢
      go_simp
      exact hK.out _ _ (kbelow _ _) ⟨_, _, rfl, OwnInts.two W _ z p q⟩
    · intro vs W K hbW hR hK
      have z : w.heap.size + 2 ≤ W.heap.size := by have h1 := hbW.size; have h2 := Z1.out; simp at h1; omega
      obtain ⟨As, cs, hs2, hs3⟩ := hR 2 (by simp [ApD])
      simp only [ApD, ApS, putsD, hs2, Act.put, List.setIfInBounds_toArray, List.set_cons_zero, List.set_cons_succ] at hK ⊢
      clear hR
      go_simp
      exact hK.out _ _ (kbelow _ _) ⟨As, cs, by simp [ApD, hs2], OwnSls.one W _ z ⟨As, cs, [p, q]⟩⟩
    · intro vs W K hbW hR hK
      have z : w.heap.size + 2 ≤ W.heap.size := by have h1 := hbW.size; have h2 := Z1.out; simp at h1; omega
      clear hR
      simp only [ApD, ApS, putsD, Act.put, List.setIfInBounds_toArray, List.set_cons_zero, List.set_cons_succ] at hK ⊢
      go_simp
      exact hK.out _ _ (kbelow _ _) ⟨_, _, rfl, OwnInts.zero W _ z⟩
    · intro vs W K hbW hR hK
      have z : w.heap.size + 2 ≤ W.heap.size := by have h1 := hbW.size; have h2 := Z1.out; simp at h1; omega
      obtain ⟨As, cs, hs2, hs3⟩ := hR 4 (by simp [ApD])
      simp only [ApD, ApS, putsD, hs2, Act.put, List.setIfInBounds_toArray, List.set_cons_zero, List.set_cons_succ] at hK ⊢
      clear hR
      go_simp
      exact hK.out _ _ (kbelow _ _) ⟨As, cs, by simp [ApD, hs2], OwnSls.one W _ z ⟨As, cs, []⟩⟩
    · intro vs W K hbW hR hK
      have z : w.heap.size + 2 ≤ W.heap.size := by have h1 := hbW.size; have h2 := Z1.out; simp at h1; omega
      clear hR
      simp only [ApD, ApS, putsD, Act.put, List.setIfInBounds_toArray, List.set_cons_zero, List.set_cons_succ] at hK ⊢
      obtain ⟨ib, hib, hz0, hz1, hz2⟩ := info_parts info_bool
      obtain ⟨w', hrun, r1, r2⟩ := run_make_full (P := Try.prog) W (w.heap.size + 2) 111 4 ib _ 1 Try.underlying111 hib hz0 hz1 .i64 .i64 nm (by rw [hz2]; omega) (by unfold maxLen; omega) z
      go_simp
      refine hK.out _ _ ((Below.refl _ _).grown r2 (Nat.le_refl _) (fun k h => by cases h)) ⟨_, _, rfl, ?_⟩
      unfold OwnBools
      rw [List.length_replicate, List.map_replicate]
      have ec : (Value.bool false).cells = #[.bool false] := rfl
      rw [Nat.mul_one, ec, toList_madeCells_one] at r1
      exact r1
    · intro vs W K hbW hR hK
      clear hR
      simp only [ApD, ApS, putsD, Act.put, List.setIfInBounds_toArray, List.set_cons_zero, List.set_cons_succ] at hK ⊢
      go_simp
      exact hK.out _ _ (Below.refl _ _) (by simp [ApR, ApD])
    · intro vs W K hbW hR hK
      clear hR
      simp only [ApD, ApS, putsD, Act.put, List.setIfInBounds_toArray, List.set_cons_zero, List.set_cons_succ] at hK ⊢
      go_simp
      exact hK.out _ _ (Below.refl _ _) (by simp [ApR, ApD])
  · intro vs W hbW hR
    obtain ⟨A2, c2, e2, r2⟩ := hR 2 (by simp)
    obtain ⟨A3, c3, e3, r3⟩ := hR 3 (by simp)
    obtain ⟨A4, c4, e4, r4⟩ := hR 4 (by simp)
    obtain ⟨A5, c5, e5, r5⟩ := hR 5 (by simp)
    have r13 := hR 13 (by simp)
    have e14 := hR 14 (by simp)
    have e15 := hR 15 (by simp)
    simp only [ApR, ApD, List.map_cons, List.map_nil, List.headD_cons] at e14 e15 e3 e5 r13
    simp only [setAll, ApD, ApS, putsD, Act.put, List.setIfInBounds_toArray, List.set_cons_zero, List.set_cons_succ]
    refine headH_tail (by kernel_rfl) ?_
    rw [e14, e15]
    clear e14 e15 hR hHeld
    obtain ⟨g13, c13, e13, r13⟩ := r13
    rw [e13]
    have e2' : A3 = A2 ∧ c3 = c2 := by simp only [List.cons.injEq, and_true] at e3; rw [e2] at e3; simp at e3; exact ⟨e3.1.symm, e3.2.symm⟩
    have e4' : A5 = A4 ∧ c5 = c4 := by simp only [List.cons.injEq, and_true] at e5; rw [e4] at e5; simp at e5; exact ⟨e5.1.symm, e5.2.symm⟩
    obtain ⟨rfl, rfl⟩ := e2'
    obtain ⟨rfl, rfl⟩ := e4'
    have hbW2 : Below W1.heap.size W1 W := bdr hbW
    have nb1 := nbb.1
    have nb5 := nbb.2
    have hs0 := sls_sep r3 r5 (by simp)
    generalize vs 3 = vp at *
    generalize vs 5 = vw at *
    clear e2 e3 e4 e5 e13
    obtain ⟨x1, x2, x3⟩ := idx_lt HNM.out nb1 nb5 p0 p1 q0 q1
    have m1 : wrap64 (p * nb) = p * nb := by unfold wrap64; omega
    have m2 : IntKind.i64.wrap (p * nb) = p * nb := by rw [IntKind.wrap_i64]; omega
    have s1 : wrap64 (p * nb + q) = p * nb + q := by unfold wrap64; omega
    have x4 : 0 ≤ p * nb + q := by omega
    have met0 := r13.free
    have hmt := (MetOk.none HNM.out nb1 nb5 (na := na)).2 p q p0 p1 q0 q1
    have hmc := r13.at_ hmt
    obtain ⟨Ap, cp, hvp, gp⟩ := r3.at_
    obtain ⟨Aw, cw, hvw, gw⟩ := r5.at_
    replace hvp : vp = .slice Ap 1 cp := hvp
    replace hvw : vw = .slice Aw 1 cw := hvw
    subst hvp
    subst hvw
    go_wp2
    have mem0 : ApMem (w.heap.size + 2) (.slice Ap 1 cp) (.slice Aw 1 cw) (.slice (some ⟨g13, 0, none⟩) nm c13) [⟨A3, c3, [p, q]⟩] [⟨A5, c5, []⟩] ((List.replicate nm false).set (p * nb + q).toNat true) (W.setCell ⟨g13, (p * nb + q).toNat, none⟩ (.bool true)) :=
      ApMem.store ⟨r3, r5, r13, fun s hs => by rw [List.mem_singleton.1 hs]; exact r2, fun s hs => by rw [List.mem_singleton.1 hs]; exact r4, hs0⟩
    have pur0 : ApPure na nb nm [((p, q), [])] [⟨A3, c3, [p, q]⟩] [⟨A5, c5, []⟩] ((List.replicate nm false).set (p * nb + q).toNat true) := ⟨rfl, rfl, (MetOk.none HNM.out nb1 nb5).add HNM.out nb1 nb5 p0 p1 q0 q1⟩
    have bel0 : Below W1.heap.size W1 (W.setCell ⟨g13, (p * nb + q).toNat, none⟩ (.bool true)) := Below.setCell hbW2 (by have := (r13.lt g13 rfl).1; have := Z1.out; show W1.heap.size ≤ g13; omega) _
    clear r2 r3 r4 r5 r13 hs0 gp gw hmc hmt met0 m1 m2 s1 x1 x2 x3 x4 hbW hbW2
    have hU : Univ (stP ma mb) ma.length (p, q) ((ptsU na).flatMap fun x => (ptsU nb).map fun y => (x, y)) := univP RA.out RB.out HL.out p0 p1 q0 q1
    have HU := Lib.hid hU
    clear hU
    go_loopw [14, 11, 12] (fun at_ vp vw wr => ∃ (k : Nat) (ps ws : List Sl) (bs : List Bool), at_ = .int .i64 k ∧ k ≤ ps.length ∧ ApMem (w.heap.size + 2) vp vw (.slice (some ⟨g13, 0, none⟩) nm c13) ps ws bs wr ∧ Hid (ApPure na nb nm (gb (stP ma mb) ma.length (p, q) k) ps ws bs) ∧ Hid (∀ i m, i < k → (gb (stP ma mb) ma.length (p, q) i)[i]? = some m → isP la lb m.1 = false) ∧ Below W1.heap.size W1 wr) (fun at_ _ _ _ => 1001 - (intOf at_).toNat)
    case atStart => exact ⟨0, _, _, _, rfl, Nat.zero_le _, mem0, pur0, fun i m h _ => absurd h (Nat.not_lt_zero _), bel0⟩
    case round =>
      clear mem0 pur0 bel0
      obtain ⟨k, ps, ws, bs, rfl, hk, mem, pur, hno, hb⟩ := hrel
      obtain ⟨l1, l2⟩ := pur.out.len
      have hle := gb_length HU.out k
      rw [← l1] at hle
      have L1 := Lib.hid l1
      have L2 := Lib.hid l2
      clear l1 l2
      obtain ⟨Ap, cp, rfl, gp⟩ := mem.op.at_
      obtain ⟨Aw, cw, rfl, gw⟩ := mem.ow.at_
      by_cases hlt : k < ps.length
      · obtain ⟨now, hnow⟩ := el (xs := gb (stP ma mb) ma.length (p, q) k) (k := k) (by rw [← L1.out]; exact hlt)
        obtain ⟨⟨s, hs, hsx⟩, sw, hsw, hswx⟩ := pur.out.get hnow
        obtain ⟨bp, rfl, qp⟩ := gp k s hs
        obtain ⟨bw, rfl, qw⟩ := gw k sw hsw
        obtain ⟨⟨u0, u1⟩, v0, v1⟩ := pair_in RA.out RB.out HL.out p0 p1 q0 q1 (List.mem_of_getElem? hnow)
        have hse := (mem.ep s (List.mem_of_getElem? hs))
        have hswe := (mem.ew sw (List.mem_of_getElem? hsw))
        unfold Sl.v at qp qw hse hswe
        rw [hsx] at qp hse
        obtain ⟨be, oe, x, hA, hx, qe0⟩ := hse.see'.at_ (k := 0) (by simp)
        obtain ⟨be', oe', x', hA', hx', qe1⟩ := hse.see'.at_ (k := 1) (by simp)
        rw [hA] at hA'
        simp only [Option.some.injEq, Addr.mk.injEq, and_true] at hA'
        obtain ⟨rfl, rfl⟩ := hA'
        simp only [List.getElem?_cons_zero, List.getElem?_cons_succ, Option.some.injEq] at hx hx'
        subst hx
        subst hx'
        rw [hA] at qp
        rw [Nat.add_zero] at qe0
        have QP := bwcell qp
        have Q0 := bwcell qe0
        have Q1 := bwcell qe1
        have HN := Lib.hid hnow
        have HW := Lib.hid hsw
        have HWX := Lib.hid hswx
        have l0 : (0 : Int) ≤ k := by omega
        have l0' : (k : Int) < ps.length := by omega
        have lw : k < ws.length := (List.getElem?_eq_some_iff.1 hsw).1
        have lw' : (k : Int) < ws.length := by omega
        clear hnow hsw hswx hs hsx gp gw qp qe0 qe1 hse
        obtain ⟨bu, hbu⟩ : ∃ bu, decide (now.1.1 ∈ la) = bu := ⟨_, rfl⟩
        obtain ⟨bv, hbv⟩ : ∃ bv, decide (now.1.2 ∈ lb) = bv := ⟨_, rfl⟩
        have his : isP la lb now.1 = (bu != bv) := by unfold isP; rw [hbu, hbv]
        have HIS := Lib.hid his
        have HBU := Lib.hid hbu
        have HBV := Lib.hid hbv
        clear his hbu hbv
        generalize hu : now.1.1 = u at *
        generalize hv : now.1.2 = v at *
        have HU1 := Lib.hid hu
        have HV1 := Lib.hid hv
        clear hu hv
        go_wp2
        refine wp_region_bw (by kernel_rfl) (by kernel_rfl) ?_
        repeat go_big_quiet_step (fail)
        refine wpQuiet_nil ?_
        rintro w2 ⟨⟨w2x, hb2⟩, rfl⟩
        have hb3 := btrans hb hb2
        have ca := bwcell (bcell hb3 ca0)
        have ca' := bwcell (bcell hb3 ca1)
        have ca'' := bwcell (bcell hb3 ca2)
        have cb := bwcell (bcell hb3 cb0)
        have cb' := bwcell (bcell hb3 cb1)
        have cb'' := bwcell (bcell hb3 cb2)
        have sla := ((HH'.out).below hb3).bw
        have slb := ((HK'.out).below hb3).bw
        have u6 : u < 6 := by omega
        have v6 : v < 6 := by omega
        clear QP Q0 Q1
        by_cases hne : bv = bu
        · subst hne
          go_wp2
          refine wp_region_bw (by kernel_rfl) (by kernel_rfl) ?_
          repeat go_big_quiet_step ((first | (go_at_call_of 65 (Value.agg #[.slice (some ⟨bA, oA, none⟩) ma.length c, .int .i64 fa, .slice A' la.length c']); exact Calls.bw _ (valB (l07Last_c _ _ _ _ _ _ la u _ (sla _) hla PA.out u0 u6) HBU.out)) | (go_at_call_of 65 (Value.agg #[.slice (some ⟨bB, oB, none⟩) mb.length d, .int .i64 fb, .slice B' lb.length d']); exact Calls.bw _ (valB (l07Last_c _ _ _ _ _ _ lb v _ (slb _) hlb PB.out v0 v6) HBV.out))))
          refine wpQuiet_nil ?_
          rintro w4 ⟨⟨w4x, hb4⟩, rfl⟩
          have hb5 := btrans hb3 hb4
          have mem5 := (mem.below hb2).below hb4
          have nb0 : isP la lb now.1 = false := by rw [HIS.out]; simp
          have NB0 := Lib.hid nb0
          have hgq : gb (stP ma mb) ma.length (p, q) (k + 1) = gTo (stP ma mb) now (gb (stP ma mb) ma.length (p, q) k) ma.length := gb_succ HN.out
          have HGQ := Lib.hid hgq
          clear hgq nb0 ca ca' ca'' cb cb' cb'' sla slb mem hb hb2 hb3 hb4
          go_wp2
          go_loopw [17, 11, 12] (fun i vp vw wr => ∃ (j : Nat) (ps ws : List Sl) (bs : List Bool), i = .int .i64 j ∧ j ≤ ma.length ∧ ApMem (w.heap.size + 2) vp vw (.slice (some ⟨g13, 0, none⟩) nm c13) ps ws bs wr ∧ Hid (ApPure na nb nm (gTo (stP ma mb) now (gb (stP ma mb) ma.length (p, q) k) j) ps ws bs) ∧ Below W1.heap.size W1 wr) (fun i _ _ _ => ma.length - (intOf i).toNat)
          case atStart => exact ⟨0, ps, ws, bs, rfl, Nat.zero_le _, mem5, pur, hb5⟩
          case round =>
            clear mem5 hb5
            obtain ⟨j, ps, ws, bs, rfl, hj, mem, pur, hb⟩ := hrel
            have q0 := bcell hb ca0
            by_cases hlj : j < ma.length
            · obtain ⟨b1, o1, f, e1, hf, gf⟩ := (HH.out.below hb).at_ hlj
              obtain ⟨b2, o2, g, e2, hg, gg⟩ := (HK.out.below hb).at_ (k := j) (by rw [← HL.out]; exact hlj)
              simp only [Option.some.injEq, Addr.mk.injEq, and_true] at e1 e2
              obtain ⟨rfl, rfl⟩ := e1
              obtain ⟨rfl, rfl⟩ := e2
              have hfn : MpN f na := RA.out.all f (List.mem_of_getElem? hf)
              have hgn : MpN g nb := RB.out.all g (List.mem_of_getElem? hg)
              have tf := gf.to (i := u.toNat) (by omega)
              have tg := gg.to (i := v.toNat) (by omega)
              obtain ⟨x0, x1⟩ := hfn.at u0 u1
              obtain ⟨y0, y1⟩ := hgn.at v0 v1
              have ef : f.to u.toNat = f.at u := rfl
              have eg : g.to v.toNat = g.at v := rfl
              rw [ef] at tf
              rw [eg] at tg
              have hst : stP ma mb j now.1 = (f.at u, g.at v) := by
                unfold stP
                rw [HU1.out, HV1.out, List.getD_eq_getElem?_getD, List.getD_eq_getElem?_getD, hf, hg]
                rfl
              generalize f.at u = x at *
              generalize g.at v = y at *
              have HST := Lib.hid hst
              have hmt := pur.out.met.2 x y x0 x1 y0 y1
              have hmc := mem.om.at_ hmt
              have hmf := mem.om.free
              obtain ⟨i1, i2, i3⟩ := idx_lt HNM.out nb1 nb5 x0 x1 y0 y1
              have m1 : wrap64 (x * nb) = x * nb := by unfold wrap64; omega
              have s1 : wrap64 (x * nb + y) = x * nb + y := by unfold wrap64; omega
              have i4 : 0 ≤ x * nb + y := by omega
              have u5 : u < 5 := by omega
              have v5 : v < 5 := by omega
              have lj0 : (0 : Int) ≤ j := by omega
              have lj1 : (j : Int) < ma.length := by omega
              have lj2 : (j : Int) < mb.length := by rw [← HL.out]; exact lj1
              have hpl := pur.out.len
              have hql := FineG.length (gTo_fine (st := stP ma mb) (now := now) (gb_fine HU.out k) j (fun i hi => HU.out.step i (by omega) _ ((gb_fine HU.out k).mem now (List.mem_of_getElem? HN.out))))
              have hul := HU.out.len
              have pl := hpl.1
              have wl := hpl.2
              have ps1 : ps.length ≤ 1000 := by rw [pl]; exact Nat.le_trans hql hul
              have ws1 : ws.length ≤ 1000 := by rw [wl]; exact Nat.le_trans hql hul
              have QA := bwcell q0
              have QB := bwcell (bcell hb cb0)
              have QF := bwcell tf
              have QG := bwcell tg
              have HPL := Lib.hid hpl
              clear ef eg hst hf hg gf gg tf tg hmt hpl hql hul pl wl hfn hgn
              have hstep : ∀ (ps' ws' : List Sl) (bs' : List Bool), ((gTo (stP ma mb) now (gb (stP ma mb) ma.length (p, q) k) j).any (fun m => decide (m.1 = (x, y))) = true → ps' = ps ∧ ws' = ws ∧ bs' = bs) → ((gTo (stP ma mb) now (gb (stP ma mb) ma.length (p, q) k) j).any (fun m => decide (m.1 = (x, y))) = false → ∃ s s' : Sl, s.xs = [x, y] ∧ s'.xs = now.2 ++ [(j : Int)] ∧ ps' = ps ++ [s] ∧ ws' = ws ++ [s'] ∧ bs' = bs.set (x * nb + y).toNat true) → ApPure na nb nm (gTo (stP ma mb) now (gb (stP ma mb) ma.length (p, q) k) (j + 1)) ps' ws' bs' := fun ps' ws' bs' h1 h2 => by
                show ApPure na nb nm (g1 (stP ma mb) now (gTo (stP ma mb) now (gb (stP ma mb) ma.length (p, q) k) j) j) ps' ws' bs'
                cases hin : (gTo (stP ma mb) now (gb (stP ma mb) ma.length (p, q) k) j).any (fun m => decide (m.1 = (x, y)))
                · obtain ⟨s, s', e1, e2, rfl, rfl, rfl⟩ := h2 hin
                  rw [g1_new (by rw [HST.out]; exact hin), HST.out]
                  exact ⟨by rw [List.map_append, List.map_append, pur.out.pq]; simp [e1], by rw [List.map_append, List.map_append, pur.out.wq]; simp [e2], pur.out.met.add HNM.out nb1 nb5 x0 x1 y0 y1⟩
                · obtain ⟨rfl, rfl, rfl⟩ := h1 hin
                  rw [g1_hit (by rw [HST.out]; exact hin)]
                  exact pur.out
              have HSTEP := Lib.hid hstep
              clear hstep
              obtain ⟨Ap, cp, rfl, gp⟩ := mem.op.at_
              obtain ⟨Aw, cw, rfl, gw⟩ := mem.ow.at_
              cases hin : (gTo (stP ma mb) now (gb (stP ma mb) ma.length (p, q) k) j).any (fun m => decide (m.1 = (x, y)))
              · rw [hin] at hmc
                have HIN := Lib.hid hin
                have QM := bwcell hmc
                clear hin gp
                obtain ⟨⟨s1', hs1', _⟩, sw1, hsw1, hswx1⟩ := pur.out.get (k := k) (m := now) (by
                  obtain ⟨t, ht⟩ := gTo_prefix (st := stP ma mb) now (gb (stP ma mb) ma.length (p, q) k) j
                  rw [ht, List.getElem?_append_left (List.getElem?_eq_some_iff.1 HN.out).1]
                  exact HN.out)
                obtain ⟨bw1, rfl, _⟩ := gw k sw1 hsw1
                have HSW1 := Lib.hid hsw1
                have HSWX1 := Lib.hid hswx1
                have sw1l : sw1.xs.length ≤ 1000 := by rw [hswx1]; have := gb_words (st := stP ma mb) (L := ma.length) (start := (p, q)) k now (List.mem_of_getElem? HN.out); omega
                have lw1 : k < ws.length := (List.getElem?_eq_some_iff.1 hsw1).1
                have lw1' : (k : Int) < ws.length := by omega
                clear hs1' hsw1 hswx1 gw
                go_wp2
                refine wp_region_bw (by kernel_rfl) (by kernel_rfl) ?_
                repeat go_big_quiet_step (fail)
                refine wpQuiet_nil ?_
                rintro w6 ⟨⟨w6x, hb6⟩, rfl⟩
                have hmc6 := bcell hb6 hmc
                have mem6 := mem.below hb6
                have hmf6 := mem6.om.free
                clear QA QB QF QG QM hmf hmc
                have mem7 := (mem6.store (k := (x * nb + y).toNat))
                have mem8 := (mem7.below (kbelow _ (.cells #[.int .i64 x, .int .i64 y] 2))).below (kbelow _ (.cells #[.slice (some ⟨w6.heap.size, 0, none⟩) 2 2] 23))
                have hb8 : Below W1.heap.size W1 (((w6.setCell ⟨g13, (x * nb + y).toNat, none⟩ (.bool true)).alloc (.cells #[.int .i64 x, .int .i64 y] 2)).alloc (.cells #[.slice (some ⟨w6.heap.size, 0, none⟩) 2 2] 23)) := btrans (btrans (Below.setCell (btrans hb hb6) (by have := (mem6.om.lt g13 rfl).1; have := Z1.out; show W1.heap.size ≤ g13; omega) _) (kbelow _ _)) (kbelow _ _)
                have el8 : OwnInts (((w6.setCell ⟨g13, (x * nb + y).toNat, none⟩ (.bool true)).alloc (.cells #[.int .i64 x, .int .i64 y] 2)).alloc (.cells #[.slice (some ⟨w6.heap.size, 0, none⟩) 2 2] 23)) (w.heap.size + 2) (.slice (some ⟨w6.heap.size, 0, none⟩) 2 2) [x, y] := by
                  have hz := (btrans hb hb6).size
                  have hz1 := Z1.out
                  have e := OwnInts.two (w6.setCell ⟨g13, (x * nb + y).toNat, none⟩ (.bool true)) (w.heap.size + 2) (by simp; omega) x y
                  have e2 : (w6.setCell ⟨g13, (x * nb + y).toNat, none⟩ (.bool true)).heap.size = w6.heap.size := by simp
                  rw [e2] at e
                  exact e.below (kbelow _ _)
                go_wp2_with (at_builtin; refine wpList_push_sl _ rfl (.tmp 114) (.tmp 118) rfl (w.heap.size + 2) _ ps rfl mem8.op ⟨w6.heap.size + 1, 0, none⟩ ⟨some ⟨w6.heap.size, 0, none⟩, 2, [x, y]⟩ rfl (by simp [go_sem]) (by omega) (by have := hb8.size; have := Z1.out; omega) ?_; intro v9 w9 hown9 hgrow9 hv9; have mem9 := mem8.pushP hgrow9 hown9 hv9 el8; obtain ⟨A9, c9, rfl, _⟩ := hown9.at_; have cw9 := OwnSls.cell mem9.ow HSW1.out)
                have es9 := mem9.ew sw1 (List.mem_of_getElem? HSW1.out)
                unfold Sl.v at es9
                have z9 : W1.heap.size ≤ w9.heap.size := Nat.le_trans hb8.size hgrow9.size
                have hz1 := Z1.out
                have hb9 : Below W1.heap.size W1 w9 := hb8.grown hgrow9 hb8.size (fun i hi => by have := (mem8.op.lt i hi).1; omega)
                refine (l01Own_c sw1.A sw1.c sw1.xs w9 es9.see' es9.nilok (by omega)).mono ?_
                rintro e w10 ⟨v10, rfl, hown10, hb10⟩
                obtain ⟨A10, c10, rfl, _⟩ := hown10.see
                have z10 := hb10.size
                clear hz1
                obtain ⟨wd, hwd⟩ : ∃ wd, wd = sw1.xs ++ [(j : Int)] := ⟨_, rfl⟩
                have HWD := Lib.hid hwd
                clear hwd
                go_wp2_with (first
                  | (at_builtin; refine wpList_push_int _ rfl (.tmp 125) (.tmp 127) rfl w9.heap.size _ sw1.xs rfl (hown10.below (kbelow _ _)) ⟨w10.heap.size, 0, none⟩ (j : Int) rfl (by simp [go_sem]) (by omega) (Nat.le_trans z10 (kbelow w10 _).size) ?_; intro v11 w11 hown11 hgrow11 hv11; rw [← HWD.out] at hown11; obtain ⟨A11, c11, rfl, _⟩ := hown11.see; have hb11 : Below w9.heap.size w9 w11 := Below.grown (w := w10.alloc (.cells #[.int .i64 (j : Int)] 2)) (btrans hb10 (kbelow _ _)) hgrow11 (Nat.le_trans z10 (kbelow w10 _).size) (fun i hi => (hown10.lt i hi).1); have mem12 := (mem9.below hb11).below (kbelow w11 (.cells #[.slice A11 wd.length c11] 23)); have zb : w.heap.size + 2 ≤ w9.heap.size := (by have := Z1.out; omega); have el12 := (hown11.below (kbelow w11 (.cells #[.slice A11 wd.length c11] 23))).mono zb; have z11 := hb11.size)
                  | (at_builtin; refine wpList_push_sl _ rfl (.tmp 120) (.tmp 129) rfl (w.heap.size + 2) _ ws rfl mem12.ow ⟨w11.heap.size, 0, none⟩ ⟨A11, c11, wd⟩ rfl (by simp [go_sem]) (by omega) (Nat.le_trans zb (Nat.le_trans z11 (kbelow w11 _).size)) ?_; intro v13 w13 hown13 hgrow13 hv13; have mem13 := mem12.pushW hgrow13 hown13 hv13 el12; obtain ⟨A13, c13', rfl, _⟩ := hown13.at_))
                go_roundw
                case rel =>
                  have hb13 : Below W1.heap.size W1 w13 := Below.grown (w := w11.alloc (.cells #[.slice A11 wd.length c11] 23)) (btrans (btrans hb9 hb11) (kbelow _ _)) hgrow13 (Nat.le_trans (Nat.le_trans z9 z11) (kbelow w11 _).size) (fun i hi => by have := (mem12.ow.lt i hi).1; have := Z1.out; omega)
                  simp only [List.length_append, List.length_cons, List.length_nil, Nat.zero_add] at mem13
                  exact ⟨j + 1, _, _, _, by go_num, by omega, mem13, HSTEP.out _ _ _ (fun h => by rw [HIN.out] at h; cases h) (fun _ => ⟨⟨some ⟨w6.heap.size, 0, none⟩, 2, [x, y]⟩, ⟨A11, c11, wd⟩, rfl, by show wd = _; rw [HWD.out, HSWX1.out], rfl, rfl, rfl⟩), hb13⟩
                case measure => simp [intOf]; omega
              · rw [hin] at hmc
                have HIN := Lib.hid hin
                have QM := bwcell hmc
                clear hin gp gw
                go_wp2
                refine wp_region_bw (by kernel_rfl) (by kernel_rfl) ?_
                repeat go_big_quiet_step (fail)
                refine wpQuiet_nil ?_
                rintro w6 ⟨⟨w6x, hb6⟩, rfl⟩
                have hmc6 := bcell hb6 hmc
                clear QA QB QF QG QM
                go_wp2
                go_roundw
                case rel => exact ⟨j + 1, ps, ws, bs, by go_num, by omega, mem.below hb6, HSTEP.out _ _ _ (fun _ => ⟨rfl, rfl, rfl⟩) (fun h => by rw [HIN.out] at h; cases h), btrans hb hb6⟩
                case measure => simp [intOf]; omega
            · obtain rfl : j = ma.length := by omega
              go_wp2
              go_roundw
              case rel =>
                refine ⟨k + 1, ps, ws, bs, by go_num, ?_, mem, by rw [HGQ.out]; exact pur, fun i m hi hm => ?_, hb⟩
                · have h1 := pur.out.len.1
                  obtain ⟨t, ht⟩ := gTo_prefix (st := stP ma mb) now (gb (stP ma mb) ma.length (p, q) k) ma.length
                  rw [ht, List.length_append] at h1
                  have := (List.getElem?_eq_some_iff.1 HN.out).1
                  omega
                · rcases Nat.lt_succ_iff_lt_or_eq.1 hi with hi | rfl
                  · exact hno.out i m hi hm
                  · rw [HN.out] at hm; obtain rfl := Option.some.inj hm; exact NB0.out
              case measure => simp [intOf]; omega
        · obtain rfl : bv = !bu := by cases bu <;> cases bv <;> simp_all
          clear hne
          have hit : isP la lb now.1 = true := by rw [HIS.out]; simp
          have HIT := Lib.hid hit
          have hswe5 := hswe.below hb2
          have qw5 := bcell hb2 qw
          have QW := bwcell qw5
          clear hit qw
          go_wp2
          refine wp_region_bw (by kernel_rfl) (by kernel_rfl) ?_
          repeat go_big_quiet_step ((first | (go_at_call_of 65 (Value.agg #[.slice (some ⟨bA, oA, none⟩) ma.length c, .int .i64 fa, .slice A' la.length c']); exact Calls.bw _ (valB (l07Last_c _ _ _ _ _ _ la u _ (sla _) hla PA.out u0 u6) HBU.out)) | (go_at_call_of 65 (Value.agg #[.slice (some ⟨bB, oB, none⟩) mb.length d, .int .i64 fb, .slice B' lb.length d']); exact Calls.bw _ (valB (l07Last_c _ _ _ _ _ _ lb v _ (slb _) hlb PB.out v0 v6) HBV.out))))
          refine wpQuiet_nil ?_
          rintro w4 ⟨⟨w4x, hb4⟩, rfl⟩
          have hswe6 := hswe5.below hb4
          have qw6 := bcell hb4 qw5
          have hb5 := btrans hb3 hb4
          clear QW qw5 hswe5
          go_wp2
          go_returns
          have hfw : r = (now.2, 0) := by
            rw [HR.out]
            exact fw_some (gF_find (P := fun m => isP la lb m.1) HU.out HN.out HIT.out fun i m hi hm => hno.out i m hi hm)
          rw [hfw]
          refine ⟨_, rfl, ?_, btrans k0 hb5⟩
          rw [← HWX.out]
          exact hswe6.mono (by omega)
      · have hk' : ¬ (k : Int) < ps.length := by omega
        clear gp gw
        go_wp2
        go_returns
        have hn : (gb (stP ma mb) ma.length (p, q) k)[k]? = none := List.getElem?_eq_none (by rw [← L1.out]; omega)
        have hfw : r = ([], 4) := by
          rw [HR.out]
          refine fw_none (List.find?_eq_none.2 fun m hm => ?_)
          have := gF_ended (P := fun m => isP la lb m.1 = false) HU.out hn (fun i m hi hm => hno.out i m hi hm) m hm
          simp [this]
        rw [hfw]
        exact ⟨_, rfl, OwnInts.nil _ _, btrans k0 hb⟩
end Go.Proofs.Ytbodaefdaagelaa
