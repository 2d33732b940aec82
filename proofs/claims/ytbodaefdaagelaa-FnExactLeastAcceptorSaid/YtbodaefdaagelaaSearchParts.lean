/- What 'search' keeps between its rounds. No condition. -/
import Derived.Test.YtbodaefdaagelaaMet
namespace Go.Proofs.Ytbodaefdaagelaa
set_option linter.unusedSimpArgs false
set_option linter.unusedVariables false
set_option linter.unusedSectionVars false
open Go.RowKit
/-- the state between rounds: w the world at the start; S the blocks that 'each' may turn; v the queue -/
structure St (w : World) (S0 S : Nat → Prop) (v : Value) (mts : List Mt) (wr : World) : Prop where
  own : OwnMets wr w.heap.size v mts
  inS : ∀ k, S k → k < wr.heap.size ∧ (S0 k ∨ w.heap.size ≤ k)
  qS : ∀ k, v.ownBlock = some k → ¬ S k
  el : ∀ m ∈ mts, SeeInts wr m.A m.pts ∧ OwnInts wr w.heap.size m.w m.word ∧ InS (fun k => k < wr.heap.size ∧ ¬ S k ∧ v.ownBlock ≠ some k) m.A ∧ InS (fun k => k < wr.heap.size ∧ ¬ S k ∧ v.ownBlock ≠ some k) m.B
  keep : Keep (fun k => k < w.heap.size ∧ ¬ S0 k) w wr
section
variable {w wr wr' : World} {S0 S S' : Nat → Prop} {v v' : Value} {mts : List Mt}
theorem St.step (h : St w S0 S v mts wr) (hk : Keep (fun k => ¬ S k) wr wr') (hS : ∀ k, S' k → k < wr'.heap.size ∧ (S k ∨ wr.heap.size ≤ k)) : St w S0 S' v mts wr' := by
  have hz := hk.size
  have hw := h.keep.size
  have sub : ∀ k, (k < wr.heap.size ∧ ¬ S k ∧ v.ownBlock ≠ some k) → (k < wr'.heap.size ∧ ¬ S' k ∧ v.ownBlock ≠ some k) := fun k hk' => ⟨by omega, fun hs => by rcases (hS k hs).2 with h1 | h1; exact hk'.2.1 h1; omega, hk'.2.2⟩
  refine ⟨h.own.keep h.qS hk, fun k hs => ⟨(hS k hs).1, ?_⟩, fun k hv hs => ?_, fun m hm => ?_, h.keep.trans (hk.mono fun k hk' hs hS0 => ?_)⟩
  · rcases (hS k hs).2 with h1 | h1
    · exact (h.inS k h1).2
    · right; omega
  · rcases (hS k hs).2 with h1 | h1
    · exact h.qS k hv h1
    · have := (h.own.lt k hv).2; omega
  · obtain ⟨e1, e2, e3, e4⟩ := h.el m hm
    refine ⟨e1.keep (e3.mono fun k hk' => hk'.2.1) hk, e2.keep (fun k hv => ?_) hk, e3.mono sub, e4.mono sub⟩
    cases hB : m.B with
    | none => rw [Mt.w, hB] at hv; simp [Value.ownBlock] at hv
    | some a => rw [Mt.w, hB] at hv; simp [Value.ownBlock] at hv; rw [← hv]; exact (e4 a hB).2.1
  · rcases (h.inS k hS0).2 with h1 | h1
    · exact hs.2 h1
    · omega
theorem St.below (h : St w S0 S v mts wr) (hb : Below wr.heap.size wr wr') : St w S0 S v mts wr' := h.step (kb hb) fun k hs => ⟨Nat.lt_of_lt_of_le (h.inS k hs).1 hb.size, .inl hs⟩
theorem St.push (h : St w S0 S v mts wr) (m : Mt) (hg : wr.grownBy wr' v.ownBlock) (own' : OwnMets wr' w.heap.size v' (mts ++ [m])) (hv' : v'.ownBlock = v.ownBlock ∨ v'.ownBlock = some wr.heap.size)
    (s1 : SeeInts wr m.A m.pts) (s2 : OwnInts wr w.heap.size m.w m.word) (s3 : InS (fun k => k < wr.heap.size ∧ ¬ S k ∧ v.ownBlock ≠ some k) m.A) (s4 : InS (fun k => k < wr.heap.size ∧ ¬ S k ∧ v.ownBlock ≠ some k) m.B) : St w S0 S v' (mts ++ [m]) wr' := by
  have hz := hg.size
  have hw := h.keep.size
  have hK : Keep (fun k => v.ownBlock ≠ some k) wr wr' := keep_grown hg fun k hk hn => hn hk
  have sub : ∀ k, (k < wr.heap.size ∧ ¬ S k ∧ v.ownBlock ≠ some k) → (k < wr'.heap.size ∧ ¬ S k ∧ v'.ownBlock ≠ some k) := fun k hk' => ⟨by omega, hk'.2.1, fun e => by
    rcases hv' with h1 | h1
    · exact hk'.2.2 (h1 ▸ e)
    · rw [h1] at e; have := Option.some.inj e; omega⟩
  have word : ∀ m : Mt, OwnInts wr w.heap.size m.w m.word → InS (fun k => k < wr.heap.size ∧ ¬ S k ∧ v.ownBlock ≠ some k) m.B → OwnInts wr' w.heap.size m.w m.word := fun m e2 e4 => e2.keep (fun k hv => by
    cases hB : m.B with
    | none => rw [Mt.w, hB] at hv; simp [Value.ownBlock] at hv
    | some a => rw [Mt.w, hB] at hv; simp [Value.ownBlock] at hv; rw [← hv]; exact (e4 a hB).2.2) hK
  refine ⟨own', fun k hs => ⟨Nat.lt_of_lt_of_le (h.inS k hs).1 hz, (h.inS k hs).2⟩, fun k hv hs => ?_, fun x hx => ?_, h.keep.trans (hK.mono fun k hk' hs hvk => ?_)⟩
  · rcases hv' with h1 | h1
    · exact h.qS k (h1 ▸ hv) hs
    · rw [h1] at hv
      have := Option.some.inj hv
      have := (h.inS k hs).1
      omega
  · rcases List.mem_append.1 hx with hx | hx
    · obtain ⟨e1, e2, e3, e4⟩ := h.el x hx
      exact ⟨e1.keep (e3.mono fun k hk' => hk'.2.2) hK, word x e2 e4, e3.mono sub, e4.mono sub⟩
    · rw [List.mem_singleton.1 hx]
      exact ⟨s1.keep (s3.mono fun k hk' => hk'.2.2) hK, word m s2 s4, s3.mono sub, s4.mono sub⟩
  · have := (h.own.lt k hvk).1
    omega
/-- a cell of a block that is neither the queue's nor one of S -/
theorem St.cellStep {p : Addr} {u : Value} (hq : wr.cell? p = some u) (hk : Keep (fun k => ¬ S k) wr wr') (hp : ¬ S p.block) : wr'.cell? p = some u := hk.cell hp hq
theorem cellPush {p : Addr} {u : Value} (hq : wr.cell? p = some u) (hg : wr.grownBy wr' v.ownBlock) (hp : v.ownBlock ≠ some p.block) : wr'.cell? p = some u := hg.cell hq (Ne.symm hp)
end
theorem any_pw (mts : List Mt) (nx : List Int) : (mts.map Mt.pw).any (fun x => decide (x.1 = nx)) = mts.any (fun m => decide (m.pts = nx)) := by
  rw [List.any_map]
  rfl
theorem grow1_hit {by_ : Mp → List Int → List Int} {now : Pw} {mts : List Mt} {kf : Nat × Mp} {nx : List Int} (hn : nx = by_ kf.2 now.1) (h : mts.any (fun m => decide (m.pts = nx)) = true) : grow1 by_ now (mts.map Mt.pw) kf = mts.map Mt.pw := by
  unfold grow1
  rw [← hn, any_pw, h]
  rfl
theorem grow1_new {by_ : Mp → List Int → List Int} {now : Pw} {mts : List Mt} {kf : Nat × Mp} {nx : List Int} (hn : nx = by_ kf.2 now.1) (h : mts.any (fun m => decide (m.pts = nx)) = false) (m : Mt) (h1 : m.pts = nx) (h2 : m.word = now.2 ++ [(kf.1 : Int)]) : grow1 by_ now (mts.map Mt.pw) kf = (mts ++ [m]).map Mt.pw := by
  unfold grow1
  rw [← hn, any_pw, h, List.map_append]
  subst h1
  simp [Mt.pw, h2]
/-- queue = append(queue, m) -/
theorem wpList_push_met (w : World) {ops : Array Oper} {rest : List Oper} {o : Oper} {a : Act} {Q : Exit → Act → World → Prop} (hgd : o.guard = none) (s x : Operand)
    (ho : o.op = .call { callee := .builtin .append, args := #[s, x], argTypes := #[136, 136] })
    (base : Nat) (v : Value) (xs : List Mt) (hs : a.eval s = v) (hown : OwnMets w base v xs) (b : Nat) (m : Mt) (hx : a.eval x = .slice (some ⟨b, 0, none⟩) 1 1) (h0 : w.cell? ⟨b, 0, none⟩ = some (.slice m.A m.pts.length m.c)) (h1 : w.cell? ⟨b, 1, none⟩ = some (.slice m.B m.word.length m.d))
    (hn : xs.length ≤ 4294967296) (hbase : base ≤ w.heap.size)
    (hK : ∀ v' w', OwnMets w' base v' (xs ++ [m]) → w.grownBy w' v.ownBlock → (v'.ownBlock = v.ownBlock ∨ v'.ownBlock = some w.heap.size) → wpList Try.prog ops Q rest (a.put o.dst v') w') : wpList Try.prog ops Q (o :: rest) a w := by
  obtain ⟨i0, hi, hz0, hz1, hz2⟩ := info_parts info_met
  refine wpList_append_see w hgd s x 136 ho base 119 i0 (.agg #[.slice none 0 0, .slice none 0 0]) 2 48 Try.underlying136 hi hz0 hz1 hz2 rfl (by decide) v xs.length (xs.flatMap Mt.cells) hs hown (some ⟨b, 0, none⟩) 1 1 m.cells hx rfl
    (.inr ⟨⟨b, 0, none⟩, rfl, fun j u hj => ?_⟩) (fun u hu => by simp [Mt.cells] at hu; rcases hu with rfl | rfl <;> rfl) (by unfold maxLen; omega) (by omega) hbase (fun v' w' k1 k2 k3 => hK v' w' ?_ k2 k3)
  · rw [add_lit, Nat.zero_add]
    match j, hj with
    | 0, hj => simp [Mt.cells] at hj; subst hj; exact h0
    | 1, hj => simp [Mt.cells] at hj; subst hj; exact h1
  · show w'.ownsRow base 119 2 v' (xs ++ [m]).length ((xs ++ [m]).flatMap Mt.cells)
    rw [List.length_append, List.flatMap_append]
    simpa using k1
end Go.Proofs.Ytbodaefdaagelaa
