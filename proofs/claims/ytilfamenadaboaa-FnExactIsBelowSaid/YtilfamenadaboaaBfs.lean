/- The plain side of 'search': from a list of points on by maps, in the order of words. No condition. -/
import Derived.Test.YtilfamenadaboaaPure
namespace Go.Proofs.Ytilfamenadaboaa
set_option linter.unusedSimpArgs false
set_option linter.unusedVariables false
set_option linter.unusedSectionVars false
/-- a list of points with its first word -/
abbrev Pw := List Int × List Int
/-- one map's step: the next list behind the queue, if it is not met yet -/
def grow1 (by_ : Mp → List Int → List Int) (now : Pw) (q : List Pw) (kf : Nat × Mp) : List Pw :=
  if q.any (fun m => decide (m.1 = by_ kf.2 now.1)) then q else q ++ [(by_ kf.2 now.1, now.2 ++ [(kf.1 : Int)])]
/-- the queue when the first k maps have been taken from 'now' -/
def growTo (by_ : Mp → List Int → List Int) (ms : List Mp) (now : Pw) (q : List Pw) : Nat → List Pw
  | 0 => q
  | k + 1 => match ms[k]? with
    | some f => grow1 by_ now (growTo by_ ms now q k) (k, f)
    | none => growTo by_ ms now q k
/-- the queue ahead of round i -/
def bfs (by_ : Mp → List Int → List Int) (ms : List Mp) (start : List Int) : Nat → List Pw
  | 0 => [(start, [])]
  | i + 1 => match (bfs by_ ms start i)[i]? with
    | some now => growTo by_ ms now (bfs by_ ms start i) ms.length
    | none => bfs by_ ms start i
section
variable {by_ : Mp → List Int → List Int} {ms : List Mp} {start : List Int}
theorem grow1_prefix (now : Pw) (q : List Pw) (kf : Nat × Mp) : ∃ t, grow1 by_ now q kf = q ++ t := by
  unfold grow1
  split
  · exact ⟨[], by simp⟩
  · exact ⟨_, rfl⟩
theorem growTo_prefix (now : Pw) (q : List Pw) : ∀ k, ∃ t, growTo by_ ms now q k = q ++ t
  | 0 => ⟨[], by simp [growTo]⟩
  | k + 1 => by
    obtain ⟨t, ht⟩ := growTo_prefix now q k
    unfold growTo
    split
    · obtain ⟨t', ht'⟩ := grow1_prefix (by_ := by_) now (growTo by_ ms now q k) (k, ‹Mp›)
      exact ⟨t ++ t', by rw [ht', ht, List.append_assoc]⟩
    · exact ⟨t, ht⟩
theorem bfs_prefix (i : Nat) : ∃ t, bfs by_ ms start (i + 1) = bfs by_ ms start i ++ t := by
  show ∃ t, (match (bfs by_ ms start i)[i]? with
    | some now => growTo by_ ms now (bfs by_ ms start i) ms.length
    | none => bfs by_ ms start i) = _
  split
  · exact growTo_prefix _ _ _
  · exact ⟨[], by simp⟩
theorem bfs_prefix_le {i j : Nat} (h : i ≤ j) : ∃ t, bfs by_ ms start j = bfs by_ ms start i ++ t := by
  induction j with
  | zero => obtain rfl : i = 0 := by omega
            exact ⟨[], by simp⟩
  | succ j ih =>
    rcases Nat.lt_or_ge j i with hlt | hge
    · obtain rfl : i = j + 1 := by omega
      exact ⟨[], by simp⟩
    · obtain ⟨t, ht⟩ := ih hge
      obtain ⟨t', ht'⟩ := bfs_prefix (by_ := by_) (ms := ms) (start := start) j
      exact ⟨t ++ t', by rw [ht', ht, List.append_assoc]⟩
theorem bfs_get {i j k : Nat} (h : i ≤ j) {x : Pw} (hk : (bfs by_ ms start i)[k]? = some x) : (bfs by_ ms start j)[k]? = some x := by
  obtain ⟨t, ht⟩ := bfs_prefix_le (by_ := by_) (ms := ms) (start := start) h
  rw [ht, List.getElem?_append_left (List.getElem?_eq_some_iff.1 hk).1]
  exact hk
theorem bfs_take {i j : Nat} (h : i ≤ j) : (bfs by_ ms start j).take (bfs by_ ms start i).length = bfs by_ ms start i := by
  obtain ⟨t, ht⟩ := bfs_prefix_le (by_ := by_) (ms := ms) (start := start) h
  rw [ht, List.take_left']
  rfl
/-! ### What the queue holds -/
/-- lists of a finite universe, each once -/
structure Fine (U : List (List Int)) (q : List Pw) : Prop where
  mem : ∀ m ∈ q, m.1 ∈ U
  nodup : (q.map Prod.fst).Nodup
theorem Fine.length {U : List (List Int)} {q : List Pw} (h : Fine U q) : q.length ≤ U.length := by
  have := h.nodup.length_le_of_subset (fun x hx => by
    obtain ⟨m, hm, rfl⟩ := List.mem_map.1 hx
    exact h.mem m hm)
  simpa using this
/-- the words of a queue are no longer than the queue -/
def Short (q : List Pw) : Prop := ∀ m ∈ q, m.2.length ≤ q.length
theorem grow1_fine {U : List (List Int)} {now : Pw} {q : List Pw} {kf : Nat × Mp} (h : Fine U q) (hn : by_ kf.2 now.1 ∈ U) : Fine U (grow1 by_ now q kf) := by
  unfold grow1
  split
  · exact h
  · rename_i hno
    refine ⟨fun m hm => ?_, ?_⟩
    · rcases List.mem_append.1 hm with hm | hm
      · exact h.mem m hm
      · rw [List.mem_singleton.1 hm]; exact hn
    · rw [List.map_append, List.nodup_append]
      refine ⟨h.nodup, by simp, fun a ha b hb => ?_⟩
      rw [List.map_cons, List.map_nil, List.mem_singleton] at hb
      subst hb
      intro e
      obtain ⟨m, hm, rfl⟩ := List.mem_map.1 ha
      exact hno (List.any_eq_true.2 ⟨m, hm, by simpa using e⟩)
theorem growTo_fine {U : List (List Int)} {now : Pw} {q : List Pw} (h : Fine U q) (hn : ∀ f ∈ ms, by_ f now.1 ∈ U) : ∀ k, Fine U (growTo by_ ms now q k)
  | 0 => h
  | k + 1 => by
    unfold growTo
    split
    · rename_i f hf
      exact grow1_fine (growTo_fine h hn k) (hn f (List.mem_of_getElem? hf))
    · exact growTo_fine h hn k
theorem bfs_fine {U : List (List Int)} (h0 : start ∈ U) (hU : ∀ f ∈ ms, ∀ p ∈ U, by_ f p ∈ U) : ∀ i, Fine U (bfs by_ ms start i)
  | 0 => ⟨fun m hm => by rw [List.mem_singleton.1 hm]; exact h0, by simp [bfs]⟩
  | i + 1 => by
    have ih := bfs_fine h0 hU i
    unfold bfs
    split
    · rename_i now hnow
      exact growTo_fine ih (fun f hf => hU f hf _ (ih.mem now (List.mem_of_getElem? hnow))) _
    · exact ih
theorem grow1_words {now : Pw} {q : List Pw} {kf : Nat × Mp} {L : Nat} (h : ∀ m ∈ q, m.2.length ≤ L) (hn : now.2.length < L) : ∀ m ∈ grow1 by_ now q kf, m.2.length ≤ L := by
  unfold grow1
  split
  · exact h
  · intro m hm
    rcases List.mem_append.1 hm with hm | hm
    · exact h m hm
    · rw [List.mem_singleton.1 hm]; simp; omega
theorem growTo_words {now : Pw} {q : List Pw} {L : Nat} (h : ∀ m ∈ q, m.2.length ≤ L) (hn : now.2.length < L) : ∀ k, ∀ m ∈ growTo by_ ms now q k, m.2.length ≤ L
  | 0 => h
  | k + 1 => by
    unfold growTo
    split
    · exact grow1_words (growTo_words h hn k) hn
    · exact growTo_words h hn k
theorem bfs_words : ∀ i, ∀ m ∈ bfs by_ ms start i, m.2.length ≤ i
  | 0 => fun m hm => by rw [List.mem_singleton.1 hm]; simp
  | i + 1 => by
    have ih := bfs_words i
    unfold bfs
    split
    · rename_i now hnow
      exact growTo_words (fun m hm => Nat.le_succ_of_le (ih m hm)) (Nat.lt_succ_of_le (ih now (List.mem_of_getElem? hnow))) _
    · exact fun m hm => Nat.le_succ_of_le (ih m hm)
theorem growTo_succ {now : Pw} {q : List Pw} {k : Nat} {f : Mp} (hf : ms[k]? = some f) : growTo by_ ms now q (k + 1) = grow1 by_ now (growTo by_ ms now q k) (k, f) := by
  show (match ms[k]? with
    | some f => grow1 by_ now (growTo by_ ms now q k) (k, f)
    | none => growTo by_ ms now q k) = _
  rw [hf]
theorem bfs_succ {i : Nat} {now : Pw} (h : (bfs by_ ms start i)[i]? = some now) : bfs by_ ms start (i + 1) = growTo by_ ms now (bfs by_ ms start i) ms.length := by
  show (match (bfs by_ ms start i)[i]? with
    | some now => growTo by_ ms now (bfs by_ ms start i) ms.length
    | none => bfs by_ ms start i) = _
  rw [h]
end
end Go.Proofs.Ytilfamenadaboaa
