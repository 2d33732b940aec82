/- The sets that are reached, by their digits ascending: plain. No condition. -/
import Derived.Test.YthadgdmooacccaaRankL
import Derived.Test.YthadgdmooacccaaSS
namespace Go.Proofs.Ythadgdmooacccaa
set_option linter.unusedSimpArgs false
set_option linter.unusedVariables false
set_option linter.unusedSectionVars false
open Go.RowKit
/-- the rows for one set that the first i elements bring -/
def reachRow (Q : List (Nat × List Int)) (S i : Nat) : List (List Int) := ((Q.take i).filter fun m => m.1 == S).map fun _ => ptsOf S
def reachTo (Q : List (Nat × List Int)) (k : Nat) : List (List Int) := (List.range k).flatMap fun j => reachRow Q (j + 1) Q.length
theorem reachRow_zero (Q : List (Nat × List Int)) (S : Nat) : reachRow Q S 0 = [] := rfl
theorem reachRow_succ {Q : List (Nat × List Int)} {i : Nat} {m : Nat × List Int} (S : Nat) (h : Q[i]? = some m) : reachRow Q S (i + 1) = reachRow Q S i ++ (if m.1 = S then [ptsOf S] else []) := by
  unfold reachRow
  rw [List.take_add_one, h, List.filter_append, List.map_append]
  congr 1
  by_cases e : m.1 = S <;> simp [e]
theorem reachRow_len (Q : List (Nat × List Int)) (S i : Nat) : (reachRow Q S i).length ≤ Q.length := by
  unfold reachRow
  rw [List.length_map]
  refine Nat.le_trans (List.length_filter_le _ _) ?_
  rw [List.length_take]
  omega
theorem reachTo_succ (Q : List (Nat × List Int)) (k : Nat) : reachTo Q (k + 1) = reachTo Q k ++ reachRow Q (k + 1) Q.length := by
  unfold reachTo
  rw [List.range_succ, List.flatMap_append]
  simp
theorem reachTo_len (Q : List (Nat × List Int)) : ∀ k, (reachTo Q k).length ≤ k * Q.length
  | 0 => by simp [reachTo]
  | k + 1 => by
    rw [reachTo_succ, List.length_append]
    have h1 := reachTo_len Q k
    have h2 := reachRow_len Q (k + 1) Q.length
    rw [Nat.succ_mul]
    omega
theorem reachTo_mem {Q : List (Nat × List Int)} {k : Nat} {x : List Int} : x ∈ reachTo Q k ↔ ∃ m ∈ Q, 1 ≤ m.1 ∧ m.1 ≤ k ∧ x = ptsOf m.1 := by
  unfold reachTo reachRow
  simp only [List.mem_flatMap, List.mem_range, List.mem_map, List.mem_filter, List.take_length, beq_iff_eq]
  constructor
  · rintro ⟨j, hj, m, ⟨hm, he⟩, rfl⟩
    exact ⟨m, hm, by omega, by omega, by rw [he]⟩
  · rintro ⟨m, hm, h1, h2, rfl⟩
    exact ⟨m.1 - 1, by omega, m, ⟨hm, by omega⟩, by rw [show m.1 - 1 + 1 = m.1 by omega]⟩
theorem pts_bits : ∀ S, S < 32 → bitsN (ptsOf S) = S := by decide
theorem pts_len (S : Nat) : (ptsOf S).length ≤ 5 := by
  unfold ptsOf
  rw [List.length_map]
  exact Nat.le_trans (List.length_filter_le _ _) (by simp)
theorem reachTo_asc {Q : List (Nat × List Int)} (hn : (Q.map Prod.fst).Nodup) (h32 : ∀ m ∈ Q, m.1 < 32) : ∀ k, (reachTo Q k).Pairwise fun x y => bitsN x < bitsN y
  | 0 => by simp [reachTo]
  | k + 1 => by
    rw [reachTo_succ]
    refine List.pairwise_append.2 ⟨reachTo_asc hn h32 k, ?_, fun x hx y hy => ?_⟩
    · have h1 : (Q.filter fun m => m.1 == k + 1).length ≤ 1 := by
        have h2 : ((Q.filter fun m => m.1 == k + 1).map Prod.fst).Nodup := hn.sublist ((List.filter_sublist).map _)
        have h3 : ∀ x ∈ (Q.filter fun m => m.1 == k + 1).map Prod.fst, x ∈ [k + 1] := fun x hx => by
          obtain ⟨m, hm, rfl⟩ := List.mem_map.1 hx
          have := (List.mem_filter.1 hm).2
          simpa using this
        have := h2.length_le_of_subset h3
        simpa using this
      unfold reachRow
      rw [List.take_length]
      generalize (Q.filter fun m => m.1 == k + 1) = F at h1 ⊢
      match F, h1 with
      | [], _ => exact List.Pairwise.nil
      | [a], _ => exact List.pairwise_singleton _ _
      | a :: b :: t, h1 => simp at h1
    · obtain ⟨m, hm, h1, h2, rfl⟩ := reachTo_mem.1 hx
      unfold reachRow at hy
      obtain ⟨m', hm', rfl⟩ := List.mem_map.1 hy
      rw [List.take_length] at hm'
      obtain ⟨h3, h4⟩ := List.mem_filter.1 hm'
      have h5 := h32 m' h3
      have e : m'.1 = k + 1 := by simpa using h4
      rw [pts_bits _ (h32 m hm), pts_bits _ (by omega)]
      omega
theorem gF_nodup {σ : Type} [DecidableEq σ] {st : Nat → σ → σ} {L : Nat} {start : σ} {U : List σ} (hU : Univ st L start U) : ((gF st L start).map Prod.fst).Nodup := by unfold gF; exact (gb_fine hU 1000).nodup
/-- an ascending order of the reached sets is this list -/
theorem reach_uniq {ms : List Mp} {n : Int} (hr : RightL ms n) {us ws : List (List Int)} (hw : ws = (gF (stp imgL ms) ms.length (ptsN n.toNat)).map Prod.fst) (hp : us.Perm ws) (ha : us.Pairwise fun x y => ¬ bitsN y < bitsN x) :
    us = reachTo (gF (stB ms) ms.length (2 ^ n.toNat - 1)) (2 ^ n.toNat - 1) := by
  have hb := hr.bounds
  have h0 : 0 ≤ n := by omega
  have hal := ptsN_AL h0
  have hp2 : 2 ^ n.toNat - 1 < 2 ^ n.toNat := by have := Nat.two_pow_pos n.toNat; omega
  have h32 := gF_lt hr hp2
  have hnd := gF_nodup (univB hr hp2)
  have hndw : ws.Nodup := by rw [hw]; exact gF_nodup (univI hr hal)
  have hAL : ∀ x ∈ ws, AL n x := fun x hx => by
    rw [hw] at hx
    obtain ⟨m, hm, rfl⟩ := List.mem_map.1 hx
    exact gF_AL hr hal m hm
  have hne : ∀ x ∈ ws, x ≠ [] := fun x hx e => by
    rw [hw] at hx
    obtain ⟨m, hm, rfl⟩ := List.mem_map.1 hx
    have hs := gF_snd hr.six hm
    have : ∀ (u : List Int) (s : List Int), InL ms.length u → AL n s → s ≠ [] → run (stp imgL ms) s u ≠ [] := by
      intro u
      induction u with
      | nil => exact fun s _ _ h => h
      | cons k u ih =>
        intro s hu hs h
        have hk := hu k (by simp)
        have hf := MpN.getD hr hk.1 hk.2
        refine ih (imgL (ms.getD k.toNat Mp.z) s) (fun j hj => hu j (by simp [hj])) (imgL_in hf hs.2) ?_
        obtain ⟨x, xs, rfl⟩ := List.exists_cons_of_ne_nil h
        exact List.ne_nil_of_mem (imgL_mem.2 (List.mem_map_of_mem (List.mem_cons_self)))
    refine this m.2 (ptsN n.toNat) hs.2 hal ?_ (hs.1.symm.trans e)
    intro e2
    have := ptsN_length n.toNat
    rw [e2] at this
    simp at this
    omega
  have hmap : (gF (stB ms) ms.length (2 ^ n.toNat - 1)).map Prod.fst = ws.map bitsN := by
    rw [← ptsN_bits hb.1 hb.2, gF_img hr hal, hw, List.map_map, List.map_map]
    rfl
  have hasc := reachTo_asc hnd h32 (2 ^ n.toNat - 1)
  have hperm : us.Perm (reachTo (gF (stB ms) ms.length (2 ^ n.toNat - 1)) (2 ^ n.toNat - 1)) := by
    refine hp.trans ((List.perm_ext_iff_of_nodup hndw (List.Pairwise.imp (fun h e => by subst e; exact Nat.lt_irrefl _ h) hasc)).2 fun x => ?_)
    rw [reachTo_mem]
    constructor
    · intro hx
      have hbx : bitsN x ∈ (gF (stB ms) ms.length (2 ^ n.toNat - 1)).map Prod.fst := by rw [hmap]; exact List.mem_map_of_mem hx
      obtain ⟨m, hm, e⟩ := List.mem_map.1 hbx
      have hlt := (hAL x hx).bits_lt hb.2
      have hp := (hAL x hx).pts hb.2
      refine ⟨m, hm, ?_, by omega, by rw [e, hp]⟩
      rcases Nat.eq_zero_or_pos m.1 with h | h
      · rw [e] at h
        rw [h] at hp
        exact absurd hp.symm (hne x hx)
      · exact h
    · rintro ⟨m, hm, h1, h2, rfl⟩
      have : m.1 ∈ ws.map bitsN := by rw [← hmap]; exact List.mem_map_of_mem hm
      obtain ⟨x, hx, e⟩ := List.mem_map.1 this
      rw [← e, (hAL x hx).pts hb.2]
      exact hx
  refine hperm.eq_of_pairwise (le := fun x y => ¬ bitsN y < bitsN x) (fun a b h1 h2 h3 h4 => ?_) ha (hasc.imp fun h => by omega)
  have hA := hAL a ((hp.mem_iff).1 h1)
  have hB := hAL b ((hp.mem_iff).1 (hperm.mem_iff.2 h2))
  rw [← hA.pts hb.2, ← hB.pts hb.2, show bitsN a = bitsN b by omega]
def RReachedSets (ms : List Mp) : List (List Int) × Int := if lcode ms [] = 0 then (reachTo (gF (stB ms) ms.length (2 ^ (ms.headD Mp.z).p.toNat - 1)) (2 ^ (ms.headD Mp.z).p.toNat - 1), 0) else ([], lcode ms [])
theorem RReachedSets_len (ms : List Mp) : (RReachedSets ms).1.length ≤ 100000 ∧ (∀ x ∈ (RReachedSets ms).1, x.length ≤ 2097152) ∧ total (RReachedSets ms).1 ≤ 4294967296 := by
  unfold RReachedSets
  split
  · rename_i hc
    have hr := rightL_of hc
    have hb := hr.bounds
    generalize (ms.headD Mp.z).p = n at *
    have hp2 : 2 ^ n.toNat - 1 < 2 ^ n.toNat := by have := Nat.two_pow_pos n.toNat; omega
    have hlen := gF_length (univB hr hp2)
    have h32 : 2 ^ n.toNat ≤ 2 ^ 5 := Nat.pow_le_pow_right (by decide) (by omega)
    have h1 := reachTo_len (gF (stB ms) ms.length (2 ^ n.toNat - 1)) (2 ^ n.toNat - 1)
    have h2 : (2 ^ n.toNat - 1) * (gF (stB ms) ms.length (2 ^ n.toNat - 1)).length ≤ 31 * 1000 := Nat.mul_le_mul (by omega) hlen
    have h3 : ∀ x ∈ reachTo (gF (stB ms) ms.length (2 ^ n.toNat - 1)) (2 ^ n.toNat - 1), x.length ≤ 5 := fun x hx => by
      obtain ⟨m, _, _, _, rfl⟩ := reachTo_mem.1 hx
      exact pts_len _
    have h4 := total_le _ h3
    refine ⟨?_, fun x hx => Nat.le_trans (h3 x hx) (by decide), ?_⟩
    · show (reachTo _ _).length ≤ _
      omega
    · show total (reachTo _ _) ≤ _
      omega
  · simp [total]
end Go.Proofs.Ythadgdmooacccaa
