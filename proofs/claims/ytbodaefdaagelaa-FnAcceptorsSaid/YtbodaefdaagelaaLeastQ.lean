/- Classes of points of an acceptor, with no program in sight. No condition. -/
import Derived.Test.YtbodaefdaagelaaFirstB
import Derived.Test.YtbodaefdaagelaaMany
import Derived.Test.YtbodaefdaagelaaWordsC
import Derived.Test.YtbodaefdaagelaaNum
namespace Go.Proofs.Ytbodaefdaagelaa
set_option linter.unusedSimpArgs false
set_option linter.unusedVariables false
set_option linter.unusedSectionVars false
open Go.RowKit
/-- no word tells two points apart -/
noncomputable def eqvB (ms : List Mp) (ls : List Int) (p q : Int) : Bool := decide ((fw (stP ms ms) ms.length (p, q) (isP ls ls)).2 = 4)
theorem run_pair (ms : List Mp) : ∀ (u : List Int) (p q : Int), run (stP ms ms) (p, q) u = (run (stS ms) p u, run (stS ms) q u)
  | [], p, q => rfl
  | k :: u, p, q => by
    show run (stP ms ms) (stP ms ms k.toNat (p, q)) u = (run (stS ms) (stS ms k.toNat p) u, run (stS ms) (stS ms k.toNat q) u)
    rw [← run_pair ms u]
    rfl
theorem eqv_iff {ms : List Mp} {ls : List Int} {n p q : Int} (hr : RightL ms n) (p0 : 0 ≤ p) (p1 : p < n) (q0 : 0 ≤ q) (q1 : q < n) : eqvB ms ls p q = true ↔ ∀ u, InL ms.length u → (run (stS ms) p u ∈ ls ↔ run (stS ms) q u ∈ ls) := by
  unfold eqvB
  rw [decide_eq_true_eq]
  rcases fw_least (univP hr hr rfl p0 p1 q0 q1) hr.six (isP ls ls) with ⟨w, e, hw⟩ | ⟨e, hall⟩
  · rw [e]
    constructor
    · intro h; cases h
    · intro h
      have h1 := hw.2.1
      have h2 := h w hw.1
      simp only [run_pair] at h1
      unfold isP at h1
      simp only [bne_iff_ne, ne_eq, decide_eq_decide] at h1
      exact absurd h2 h1
  · rw [e]
    refine ⟨fun _ u hu => ?_, fun _ => rfl⟩
    have h1 := hall u hu
    rw [run_pair] at h1
    unfold isP at h1
    simpa using h1
/-- the equivalence on places of the order -/
noncomputable def eqS (ms : List Mp) (ls : List Int) (order : List Int) (k i : Nat) : Bool := eqvB ms ls (cls order k) (cls order i)
noncomputable def clsL (ms : List Mp) (ls : List Int) (order : List Int) : List Int := numL (eqS ms ls order) order.length
section
variable {ms : List Mp} {ls order : List Int} {n : Int}
theorem eqS_rel (hr : RightL ms n) (ho : ∀ i, i < order.length → 0 ≤ cls order i ∧ cls order i < n) : ∀ i k, i < order.length → k < order.length → (cls (clsL ms ls order) i = cls (clsL ms ls order) k ↔ eqS ms ls order i k = true) := by
  have iff := fun i k (hi : i < order.length) (hk : k < order.length) => eqv_iff (ls := ls) hr (ho i hi).1 (ho i hi).2 (ho k hk).1 (ho k hk).2
  refine numL_rel (fun i hi => (iff i i hi hi).2 fun u _ => Iff.rfl) (fun i k hi hk h => (iff k i hk hi).2 fun u hu => ((iff i k hi hk).1 h u hu).symm) (fun i j k hi hj hk h1 h2 => (iff i k hi hk).2 fun u hu => ((iff i j hi hj).1 h1 u hu).trans ((iff j k hj hk).1 h2 u hu))
theorem clsL_can : IsCan (clsL ms ls order) order.length := numL_can _ _
end
/-! 'least', the program's side: the classes of the points that are reached. -/
set_option maxHeartbeats 4000000 in
set_option maxRecDepth 100000 in
theorem least1_same {B b1 b3 cA c' co : Nat} {A A' Ao : Option Addr} {ms : List Mp} {f n : Int} {ls order : List Int} {w : World} (hr : RightL ms n) (ho : ∀ i, i < order.length → 0 ≤ cls order i ∧ cls order i < n)
    (acc : AccAt w B A A' cA c' ms f ls) (hl : ls.length ≤ 2097152) (v1 : VBox w b1 (.pointer (some ⟨B, 0, none⟩))) (v3 : VBox w b3 (.slice Ao order.length co)) (so : SeeInts w Ao order) :
    SameP 122 #[.pointer (some ⟨b1, 0, none⟩), .pointer (some ⟨b3, 0, none⟩)] (eqS ms ls order) order.length w := fun W k i hW hki hi => by
  have q1 := (v1.below hW).cell
  have q3 := (v3.below hW).cell
  obtain ⟨bo, oo, rfl, go⟩ := (so.below hW).cls (by omega)
  have qk := go k (by omega)
  have qi := go i hi
  have hk0 := ho k (by omega)
  have hi0 := ho i hi
  have hap := apart_c B A A' cA c' ms f ls n (cls order k) (cls order i) W.drew ((acc.below hW).below (Below.drew (Below.refl _ _))) hr hl hk0.1 hk0.2 hi0.1 hi0.2
  have HE := Lib.hid (show eqS ms ls order k i = decide ((fw (stP ms ms) ms.length (cls order k, cls order i) (isP ls ls)).2 = 4) from rfl)
  obtain ⟨r, hrr⟩ : ∃ r, r = eqS ms ls order k i := ⟨_, rfl⟩
  rw [← hrr] at HE
  show Calls Try.prog 122 #[.int .i64 (k : Int), .int .i64 (i : Int), .pointer (some ⟨b1, 0, none⟩), .pointer (some ⟨b3, 0, none⟩)] W fun e w' => e = .returned (.bool (eqS ms ls order k i)) ∧ Below W.heap.size W w'
  rw [← hrr]
  have k0 : (0 : Int) ≤ k := by omega
  have k1 : (k : Int) < order.length := by omega
  have i0 : (0 : Int) ≤ i := by omega
  have i1 : (i : Int) < order.length := by omega
  generalize cls order k = x at *
  generalize cls order i = y at *
  generalize fw (stP ms ms) ms.length (x, y) (isP ls ls) = res at *
  have HAP := Lib.hid hap
  clear hap hrr v1 v3 so acc go ho hr
  go_enter Try.func122, Try.ntmps122
  go_wp2
  go_region_held3 (fun w' => w'.cell? ⟨b1, 0, none⟩ = some (.pointer (some ⟨B, 0, none⟩)) ∧ w'.cell? ⟨b3, 0, none⟩ = some (.slice (some ⟨bo, oo, none⟩) order.length co) ∧ w'.cell? ⟨bo, oo + k, none⟩ = some (.int .i64 x) ∧ w'.cell? ⟨bo, oo + i, none⟩ = some (.int .i64 y)) (go_keep) (first | (go_at_call 80; refine HAP.out.mono ?_; rintro e w2 ⟨v2, rfl, own2, hb2⟩; obtain ⟨A2, c2, rfl, _⟩ := own2.see; replace hb2 := bdr hb2; have q1' := bcell hb2 q1; have q3' := bcell hb2 q3; have qk' := bcell hb2 qk; have qi' := bcell hb2 qi))
  have hb := hb2
  have hd : (res.2 == 4) = r := by
    rw [HE.out]
    by_cases e : res.2 = 4
    · rw [e]; rfl
    · rw [decide_eq_false e]; exact beq_eq_false_iff_ne.2 e
  generalize res.2 = code at *
  have HD := Lib.hid hd
  clear hd
  go_wp2
  go_returns
  exact ⟨ret_bool HD.out, hb⟩
/-! The least acceptor's classes, as the reference finds them one by one; the result. -/
theorem can_to {cl : List Int} {m i : Nat} (hc : IsCan cl m) (hi : i ≤ m) : ∃ nx, CanTo cl i = some nx := by
  have := canTo_le hc.2 i hi
  cases h : CanTo cl i with
  | none => rw [h] at this; cases this
  | some nx => exact ⟨nx, rfl⟩
theorem can_old {cl : List Int} {m i : Nat} {nx : Int} (hc : IsCan cl m) (hi : i < m) (h : CanTo cl i = some nx) (hlt : cls cl i < nx) : CanTo cl (i + 1) = some nx := by
  obtain ⟨nx', h'⟩ := can_to hc (i := i + 1) (by omega)
  rw [h']
  unfold CanTo at h'
  rw [h] at h'
  simp only at h'
  split at h'
  · rw [if_neg (by omega)] at h'
    exact h'.symm
  · cases h'
theorem can_new {cl : List Int} {m i : Nat} {nx : Int} (hc : IsCan cl m) (hi : i < m) (h : CanTo cl i = some nx) (hlt : ¬ cls cl i < nx) : cls cl i = nx ∧ CanTo cl (i + 1) = some (nx + 1) ∧ fxOf cl nx.toNat = i := by
  obtain ⟨nx', h'⟩ := can_to hc (i := i + 1) (by omega)
  have hs := canTo_spec h
  have e : cls cl i = nx ∧ CanTo cl (i + 1) = some (nx + 1) := by
    rw [h']
    unfold CanTo at h'
    rw [h] at h'
    simp only at h'
    split at h'
    · have e : cls cl i = nx := by omega
      rw [if_pos e] at h'
      exact ⟨e, h'.symm⟩
    · cases h'
  refine ⟨e.1, e.2, ?_⟩
  have hl := hc.1
  have hf : fidx (fun x => decide (((nx.toNat : Nat) : Int) = x)) cl = (i : Int) := fidx_hit (cls_get (cl := cl) (i := i) (by omega)) (decide_eq_true (by omega)) (fun j x hj hx => by
    have h1 := cls_get (cl := cl) (i := j) (by omega)
    rw [hx] at h1
    obtain rfl := Option.some.inj h1
    have := hs.2.2.1 j hj
    exact decide_eq_false (by omega))
  unfold fxOf
  rw [hf]
  rfl
/-- the first points of the first k classes -/
def fstsTo (cl order : List Int) (k : Nat) : List Int := (List.range k).map fun c => cls order (fxOf cl c)
theorem fstsTo_succ (cl order : List Int) (k : Nat) : fstsTo cl order (k + 1) = fstsTo cl order k ++ [cls order (fxOf cl k)] := by unfold fstsTo; rw [List.range_succ, List.map_append]; rfl
theorem fstsTo_length (cl order : List Int) (k : Nat) : (fstsTo cl order k).length = k := by simp [fstsTo]
theorem fstsTo_at {cl order : List Int} {k c : Nat} (h : c < k) : (fstsTo cl order k)[c]? = some (cls order (fxOf cl c)) := by unfold fstsTo; rw [List.getElem?_map, List.getElem?_range h]; rfl
/-- a first point is of the class of a point exactly if its number is -/
theorem fst_eqv {ms : List Mp} {ls order : List Int} {n : Int} {m i c : Nat} {nx : Int} (hr : RightL ms n) (hm : order.length = m) (ho : ∀ i, i < order.length → 0 ≤ cls order i ∧ cls order i < n) (hi : i < m) (hx : CanTo (clsL ms ls order) m = some nx) (hcn : (c : Int) < nx) :
    eqvB ms ls (cls order (fxOf (clsL ms ls order) c)) (cls order i) = decide (cls (clsL ms ls order) i = (c : Int)) := by
  have hcan := clsL_can (ms := ms) (ls := ls) (order := order)
  have hs := fx_spec (v := c) (by rw [hcan.1, hm]) hx hcn
  have hrel := eqS_rel (ls := ls) hr ho (fxOf (clsL ms ls order) c) i (by omega) (by omega)
  rw [hs.2.2] at hrel
  rw [Bool.eq_iff_iff, decide_eq_true_eq]
  exact ⟨fun h => (hrel.2 h).symm, fun h => hrel.1 h.symm⟩
/-! ### The result -/
def leastTo (cl order : List Int) (q : Nat) (f : Mp) (k : Nat) : Mp := mkM q fun c => if c < k then cls cl (fidx (fun x => decide (f.at (cls order (fxOf cl c)) = x)) order).toNat else 0
def leastLast (cl order ls : List Int) (k : Nat) : List Int := ((List.range k).filter fun c => decide (cls order (fxOf cl c) ∈ ls)).map fun (c : Nat) => (c : Int)
theorem leastLast_succ (cl order ls : List Int) (k : Nat) : leastLast cl order ls (k + 1) = leastLast cl order ls k ++ (if cls order (fxOf cl k) ∈ ls then [(k : Int)] else []) := by
  unfold leastLast
  rw [List.range_succ, List.filter_append, List.map_append]
  by_cases h : cls order (fxOf cl k) ∈ ls <;> simp [h]
theorem leastTo_succ (cl order : List Int) (q : Nat) (f : Mp) {k : Nat} (h : k < 5) : (leastTo cl order q f k).set k (cls cl (fidx (fun x => decide (f.at (cls order (fxOf cl k)) = x)) order).toNat) = leastTo cl order q f (k + 1) := Mp.ext' (Mp.set_p _ _ _) fun i hi => by
  unfold leastTo
  rw [Mp.set_to _ h, mkM_to _ _ hi, mkM_to _ _ hi]
  by_cases e : i = k
  · subst e; simp
  · rw [if_neg e]
    by_cases e2 : i < k
    · rw [if_pos e2, if_pos (by omega)]
    · rw [if_neg e2, if_neg (by omega)]
section
variable {ms : List Mp} {n f : Int}
theorem reach_nodup (hr : RightL ms n) (f0 : 0 ≤ f) (f1 : f < n) : (reachL ms f).Nodup := by
  rw [reach_eq hr f0 f1]
  unfold reachS gF
  exact (gb_fine (univS hr f0 f1) _).nodup
theorem reach_rng (hr : RightL ms n) (f0 : 0 ≤ f) (f1 : f < n) {p : Int} (hp : p ∈ reachL ms f) : 0 ≤ p ∧ p < n := by
  obtain ⟨k, hk⟩ := (mem_reach hr f0 f1).1 hp
  exact hk.rng hr f0 f1
theorem reach_next (hr : RightL ms n) (f0 : 0 ≤ f) (f1 : f < n) {p : Int} (hp : p ∈ reachL ms f) {m : Mp} (hm : m ∈ ms) : m.at p ∈ reachL ms f := by
  obtain ⟨k, hk⟩ := (mem_reach hr f0 f1).1 hp
  exact (mem_reach hr f0 f1).2 ⟨k + 1, hk.trans (Wd.one hm p)⟩
theorem reach_pos (hr : RightL ms n) (f0 : 0 ≤ f) (f1 : f < n) : 0 < (reachL ms f).length := by
  have h : f ∈ reachL ms f := (mem_reach hr f0 f1).2 ⟨0, Wd.nil f⟩
  exact List.length_pos_of_mem h
theorem reach_five (hr : RightL ms n) (f0 : 0 ≤ f) (f1 : f < n) : (reachL ms f).length ≤ 5 := by
  have h5 := hr.bounds.2
  have := (reach_nodup hr f0 f1).length_le_of_subset (l₂ := ptsU n) (fun x hx => ptsU_mem.2 (reach_rng hr f0 f1 hx))
  unfold ptsU at this
  simp only [List.length_map, List.length_range] at this
  omega
end
/-- the place of a point in an order without repeats -/
theorem idx_spec {order : List Int} (hd : order.Nodup) {v : Int} (hv : v ∈ order) : ∃ i : Nat, fidx (fun x => decide (v = x)) order = (i : Int) ∧ i < order.length ∧ cls order i = v ∧ ∀ j, j < order.length → cls order j = v → j = i := by
  obtain ⟨i, hi, e⟩ := List.mem_iff_getElem.1 hv
  have hc : ∀ j (hj : j < order.length), cls order j = order[j] := fun j hj => by
    have h1 := cls_get (cl := order) hj
    rw [List.getElem?_eq_getElem hj] at h1
    exact (Option.some.inj h1).symm
  have uniq : ∀ j, j < order.length → cls order j = v → j = i := fun j hj h => by
    rw [hc j hj] at h
    have hp := List.pairwise_iff_getElem.1 hd
    rcases Nat.lt_trichotomy j i with h1 | h1 | h1
    · exact absurd (h.trans e.symm) (hp j i hj hi h1)
    · exact h1
    · exact absurd (e.trans h.symm) (hp i j hi hj h1)
  refine ⟨i, fidx_hit (cls_get (cl := order) hi) (by rw [hc i hi, e]; exact decide_eq_true rfl) (fun j x hj hx => ?_), hi, by rw [hc i hi, e], uniq⟩
  have h1 := cls_get (cl := order) (i := j) (by omega)
  rw [hx] at h1
  obtain rfl := Option.some.inj h1
  refine decide_eq_false fun h => ?_
  have := uniq j (by omega) h.symm
  omega
noncomputable def leastQ (ms : List Mp) (f : Int) (ls : List Int) : Nat := ((CanTo (clsL ms ls (reachL ms f)) (reachL ms f).length).getD 0).toNat
noncomputable def leastA (ms : List Mp) (f : Int) (ls : List Int) : List Mp × Int × List Int :=
  (ms.map fun m => leastTo (clsL ms ls (reachL ms f)) (reachL ms f) (leastQ ms f ls) m (leastQ ms f ls), 0, leastLast (clsL ms ls (reachL ms f)) (reachL ms f) ls (leastQ ms f ls))
theorem leastQ_spec {ms : List Mp} {n f : Int} {ls : List Int} (hr : RightL ms n) (f0 : 0 ≤ f) (f1 : f < n) : CanTo (clsL ms ls (reachL ms f)) (reachL ms f).length = some (leastQ ms f ls : Int) ∧ leastQ ms f ls ≤ 5 ∧ 0 < leastQ ms f ls := by
  have h5 := reach_five hr f0 f1
  have h0 := reach_pos hr f0 f1
  obtain ⟨nx, h⟩ := can_to (i := (reachL ms f).length) (clsL_can (ms := ms) (ls := ls) (order := reachL ms f)) (Nat.le_refl _)
  have hs := canTo_spec h
  have h3 := hs.2.2.1 0 h0
  have e : leastQ ms f ls = nx.toNat := by unfold leastQ; rw [h]; rfl
  rw [e]
  exact ⟨by rw [h]; exact congrArg some (by omega), by omega, by omega⟩
noncomputable def RLeastAcceptor (ms : List Mp) (f : Int) (ls : List Int) : (List Mp × Int × List Int) × Int := if accB ms f ls = true then (leastA ms f ls, 0) else (([], 0, []), 1)
theorem RLeastAcceptor_len (ms : List Mp) (f : Int) (ls : List Int) : (RLeastAcceptor ms f ls).1.1.length ≤ 1000 ∧ (RLeastAcceptor ms f ls).1.2.2.length ≤ 1000 := by
  unfold RLeastAcceptor
  split
  · rename_i h
    have ra := RightA.of h
    have h6 := ra.list.six
    have hq := (leastQ_spec (ls := ls) ra.list ra.f0 ra.f1).2.1
    refine ⟨?_, ?_⟩
    · show (List.map _ ms).length ≤ 1000
      rw [List.length_map]; omega
    · show (leastLast _ _ _ _).length ≤ 1000
      unfold leastLast
      rw [List.length_map]
      have := List.length_filter_le (fun c => decide (cls (reachL ms f) (fxOf (clsL ms ls (reachL ms f)) c) ∈ ls)) (List.range (leastQ ms f ls))
      rw [List.length_range] at this
      omega
  · exact ⟨Nat.zero_le _, Nat.zero_le _⟩
end Go.Proofs.Ytbodaefdaagelaa
