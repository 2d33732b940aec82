/- The least acceptor's classes, as the reference finds them one by one; the result. No condition. -/
import Derived.Test.YtbodaefdaagelaaLeastI
namespace Go.Proofs.Ytbodaefdaagelaa
set_option linter.unusedSimpArgs false
set_option linter.unusedVariables false
set_option linter.unusedSectionVars false
open Go.RowKit
theorem can_to {cl : List Int} {m i : Nat} (hc : IsCan cl m) (hi : i ≤ m) : ∃ nx, CanTo cl i = some nx := by
  have := canTo_le hc.2 i hi
  cases h : CanTo cl i with
  | none => rw [h] at this; cases this
  | some nx => exact ⟨nx, rfl⟩
theorem can_old {cl : List Int} {m i : Nat} {nx : Int} (hc : IsCan cl m) (hi : i < m) (h : CanTo cl i = some nx) (hlt : cls cl i < nx) : CanTo cl (i + 1) = some nx := by
  obtain ⟨nx', h'⟩ := can_to hc (i := i + 1) (by omega)
  rw [h']
  unfold CanTo at h'
  rw [h] at h'
  simp only at h'
  split at h'
  · rw [if_neg (by omega)] at h'
    exact h'.symm
  · cases h'
theorem can_new {cl : List Int} {m i : Nat} {nx : Int} (hc : IsCan cl m) (hi : i < m) (h : CanTo cl i = some nx) (hlt : ¬ cls cl i < nx) : cls cl i = nx ∧ CanTo cl (i + 1) = some (nx + 1) ∧ fxOf cl nx.toNat = i := by
  obtain ⟨nx', h'⟩ := can_to hc (i := i + 1) (by omega)
  have hs := canTo_spec h
  have e : cls cl i = nx ∧ CanTo cl (i + 1) = some (nx + 1) := by
    rw [h']
    unfold CanTo at h'
    rw [h] at h'
    simp only at h'
    split at h'
    · have e : cls cl i = nx := by omega
      rw [if_pos e] at h'
      exact ⟨e, h'.symm⟩
    · cases h'
  refine ⟨e.1, e.2, ?_⟩
  have hl := hc.1
  have hf : fidx (fun x => decide (((nx.toNat : Nat) : Int) = x)) cl = (i : Int) := fidx_hit (cls_get (cl := cl) (i := i) (by omega)) (decide_eq_true (by omega)) (fun j x hj hx => by
    have h1 := cls_get (cl := cl) (i := j) (by omega)
    rw [hx] at h1
    obtain rfl := Option.some.inj h1
    have := hs.2.2.1 j hj
    exact decide_eq_false (by omega))
  unfold fxOf
  rw [hf]
  rfl
/-- the first points of the first k classes -/
def fstsTo (cl order : List Int) (k : Nat) : List Int := (List.range k).map fun c => cls order (fxOf cl c)
theorem fstsTo_succ (cl order : List Int) (k : Nat) : fstsTo cl order (k + 1) = fstsTo cl order k ++ [cls order (fxOf cl k)] := by unfold fstsTo; rw [List.range_succ, List.map_append]; rfl
theorem fstsTo_length (cl order : List Int) (k : Nat) : (fstsTo cl order k).length = k := by simp [fstsTo]
theorem fstsTo_at {cl order : List Int} {k c : Nat} (h : c < k) : (fstsTo cl order k)[c]? = some (cls order (fxOf cl c)) := by unfold fstsTo; rw [List.getElem?_map, List.getElem?_range h]; rfl
/-- a first point is of the class of a point exactly if its number is -/
theorem fst_eqv {ms : List Mp} {ls order : List Int} {n : Int} {m i c : Nat} {nx : Int} (hr : RightL ms n) (hm : order.length = m) (ho : ∀ i, i < order.length → 0 ≤ cls order i ∧ cls order i < n) (hi : i < m) (hx : CanTo (clsL ms ls order) m = some nx) (hcn : (c : Int) < nx) :
    eqvB ms ls (cls order (fxOf (clsL ms ls order) c)) (cls order i) = decide (cls (clsL ms ls order) i = (c : Int)) := by
  have hcan := clsL_can (ms := ms) (ls := ls) (order := order)
  have hs := fx_spec (v := c) (by rw [hcan.1, hm]) hx hcn
  have hrel := eqS_rel (ls := ls) hr ho (fxOf (clsL ms ls order) c) i (by omega) (by omega)
  rw [hs.2.2] at hrel
  rw [Bool.eq_iff_iff, decide_eq_true_eq]
  exact ⟨fun h => (hrel.2 h).symm, fun h => hrel.1 h.symm⟩
/-! ### The result -/
def leastTo (cl order : List Int) (q : Nat) (f : Mp) (k : Nat) : Mp := mkM q fun c => if c < k then cls cl (fidx (fun x => decide (f.at (cls order (fxOf cl c)) = x)) order).toNat else 0
def leastLast (cl order ls : List Int) (k : Nat) : List Int := ((List.range k).filter fun c => decide (cls order (fxOf cl c) ∈ ls)).map fun (c : Nat) => (c : Int)
theorem leastLast_succ (cl order ls : List Int) (k : Nat) : leastLast cl order ls (k + 1) = leastLast cl order ls k ++ (if cls order (fxOf cl k) ∈ ls then [(k : Int)] else []) := by
  unfold leastLast
  rw [List.range_succ, List.filter_append, List.map_append]
  by_cases h : cls order (fxOf cl k) ∈ ls <;> simp [h]
theorem leastTo_succ (cl order : List Int) (q : Nat) (f : Mp) {k : Nat} (h : k < 5) : (leastTo cl order q f k).set k (cls cl (fidx (fun x => decide (f.at (cls order (fxOf cl k)) = x)) order).toNat) = leastTo cl order q f (k + 1) := Mp.ext' (Mp.set_p _ _ _) fun i hi => by
  unfold leastTo
  rw [Mp.set_to _ h, mkM_to _ _ hi, mkM_to _ _ hi]
  by_cases e : i = k
  · subst e; simp
  · rw [if_neg e]
    by_cases e2 : i < k
    · rw [if_pos e2, if_pos (by omega)]
    · rw [if_neg e2, if_neg (by omega)]
section
variable {ms : List Mp} {n f : Int}
theorem reach_nodup (hr : RightL ms n) (f0 : 0 ≤ f) (f1 : f < n) : (reachL ms f).Nodup := by
  rw [reach_eq hr f0 f1]
  unfold reachS gF
  exact (gb_fine (univS hr f0 f1) _).nodup
theorem reach_rng (hr : RightL ms n) (f0 : 0 ≤ f) (f1 : f < n) {p : Int} (hp : p ∈ reachL ms f) : 0 ≤ p ∧ p < n := by
  obtain ⟨k, hk⟩ := (mem_reach hr f0 f1).1 hp
  exact hk.rng hr f0 f1
theorem reach_next (hr : RightL ms n) (f0 : 0 ≤ f) (f1 : f < n) {p : Int} (hp : p ∈ reachL ms f) {m : Mp} (hm : m ∈ ms) : m.at p ∈ reachL ms f := by
  obtain ⟨k, hk⟩ := (mem_reach hr f0 f1).1 hp
  exact (mem_reach hr f0 f1).2 ⟨k + 1, hk.trans (Wd.one hm p)⟩
theorem reach_pos (hr : RightL ms n) (f0 : 0 ≤ f) (f1 : f < n) : 0 < (reachL ms f).length := by
  have h : f ∈ reachL ms f := (mem_reach hr f0 f1).2 ⟨0, Wd.nil f⟩
  exact List.length_pos_of_mem h
theorem reach_five (hr : RightL ms n) (f0 : 0 ≤ f) (f1 : f < n) : (reachL ms f).length ≤ 5 := by
  have h5 := hr.bounds.2
  have := (reach_nodup hr f0 f1).length_le_of_subset (l₂ := ptsU n) (fun x hx => ptsU_mem.2 (reach_rng hr f0 f1 hx))
  unfold ptsU at this
  simp only [List.length_map, List.length_range] at this
  omega
end
/-- the place of a point in an order without repeats -/
theorem idx_spec {order : List Int} (hd : order.Nodup) {v : Int} (hv : v ∈ order) : ∃ i : Nat, fidx (fun x => decide (v = x)) order = (i : Int) ∧ i < order.length ∧ cls order i = v ∧ ∀ j, j < order.length → cls order j = v → j = i := by
  obtain ⟨i, hi, e⟩ := List.mem_iff_getElem.1 hv
  have hc : ∀ j (hj : j < order.length), cls order j = order[j] := fun j hj => by
    have h1 := cls_get (cl := order) hj
    rw [List.getElem?_eq_getElem hj] at h1
    exact (Option.some.inj h1).symm
  have uniq : ∀ j, j < order.length → cls order j = v → j = i := fun j hj h => by
    rw [hc j hj] at h
    have hp := List.pairwise_iff_getElem.1 hd
    rcases Nat.lt_trichotomy j i with h1 | h1 | h1
    · exact absurd (h.trans e.symm) (hp j i hj hi h1)
    · exact h1
    · exact absurd (e.trans h.symm) (hp i j hi hj h1)
  refine ⟨i, fidx_hit (cls_get (cl := order) hi) (by rw [hc i hi, e]; exact decide_eq_true rfl) (fun j x hj hx => ?_), hi, by rw [hc i hi, e], uniq⟩
  have h1 := cls_get (cl := order) (i := j) (by omega)
  rw [hx] at h1
  obtain rfl := Option.some.inj h1
  refine decide_eq_false fun h => ?_
  have := uniq j (by omega) h.symm
  omega
noncomputable def leastQ (ms : List Mp) (f : Int) (ls : List Int) : Nat := ((CanTo (clsL ms ls (reachL ms f)) (reachL ms f).length).getD 0).toNat
noncomputable def leastA (ms : List Mp) (f : Int) (ls : List Int) : List Mp × Int × List Int :=
  (ms.map fun m => leastTo (clsL ms ls (reachL ms f)) (reachL ms f) (leastQ ms f ls) m (leastQ ms f ls), 0, leastLast (clsL ms ls (reachL ms f)) (reachL ms f) ls (leastQ ms f ls))
theorem leastQ_spec {ms : List Mp} {n f : Int} {ls : List Int} (hr : RightL ms n) (f0 : 0 ≤ f) (f1 : f < n) : CanTo (clsL ms ls (reachL ms f)) (reachL ms f).length = some (leastQ ms f ls : Int) ∧ leastQ ms f ls ≤ 5 ∧ 0 < leastQ ms f ls := by
  have h5 := reach_five hr f0 f1
  have h0 := reach_pos hr f0 f1
  obtain ⟨nx, h⟩ := can_to (i := (reachL ms f).length) (clsL_can (ms := ms) (ls := ls) (order := reachL ms f)) (Nat.le_refl _)
  have hs := canTo_spec h
  have h3 := hs.2.2.1 0 h0
  have e : leastQ ms f ls = nx.toNat := by unfold leastQ; rw [h]; rfl
  rw [e]
  exact ⟨by rw [h]; exact congrArg some (by omega), by omega, by omega⟩
noncomputable def RLeastAcceptor (ms : List Mp) (f : Int) (ls : List Int) : (List Mp × Int × List Int) × Int := if accB ms f ls = true then (leastA ms f ls, 0) else (([], 0, []), 1)
theorem RLeastAcceptor_len (ms : List Mp) (f : Int) (ls : List Int) : (RLeastAcceptor ms f ls).1.1.length ≤ 1000 ∧ (RLeastAcceptor ms f ls).1.2.2.length ≤ 1000 := by
  unfold RLeastAcceptor
  split
  · rename_i h
    have ra := RightA.of h
    have h6 := ra.list.six
    have hq := (leastQ_spec (ls := ls) ra.list ra.f0 ra.f1).2.1
    refine ⟨?_, ?_⟩
    · show (List.map _ ms).length ≤ 1000
      rw [List.length_map]; omega
    · show (leastLast _ _ _ _).length ≤ 1000
      unfold leastLast
      rw [List.length_map]
      have := List.length_filter_le (fun c => decide (cls (reachL ms f) (fxOf (clsL ms ls (reachL ms f)) c) ∈ ls)) (List.range (leastQ ms f ls))
      rw [List.length_range] at this
      omega
  · exact ⟨Nat.zero_le _, Nat.zero_le _⟩
end Go.Proofs.Ytbodaefdaagelaa
