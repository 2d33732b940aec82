/- What 'search' keeps between its rounds. No condition. -/
import Derived.Test.YthadgdmooacccaaMet
import Derived.Test.YthadgdmooacccaaStep
namespace Go.Proofs.Ythadgdmooacccaa
set_option linter.unusedSimpArgs false
set_option linter.unusedVariables false
set_option linter.unusedSectionVars false
open Go.RowKit
/-- the state between rounds: w the world at the start; S the blocks that 'each' may turn; v the queue -/
structure St (w : World) (S0 S : Nat → Prop) (v : Value) (mts : List Mt) (wr : World) : Prop where
  own : OwnMets wr w.heap.size v mts
  inS : ∀ k, S k → k < wr.heap.size ∧ (S0 k ∨ w.heap.size ≤ k)
  qS : ∀ k, v.ownBlock = some k → ¬ S k
  el : ∀ m ∈ mts, SeeInts wr m.A m.pts ∧ OwnInts wr w.heap.size m.w m.word ∧ InS (fun k => k < wr.heap.size ∧ ¬ S k ∧ v.ownBlock ≠ some k) m.A ∧ InS (fun k => k < wr.heap.size ∧ ¬ S k ∧ v.ownBlock ≠ some k) m.B
  keep : Keep (fun k => k < w.heap.size ∧ ¬ S0 k) w wr
section
variable {w wr wr' : World} {S0 S S' : Nat → Prop} {v v' : Value} {mts : List Mt}
theorem St.step (h : St w S0 S v mts wr) (hk : Keep (fun k => ¬ S k) wr wr') (hS : ∀ k, S' k → k < wr'.heap.size ∧ (S k ∨ wr.heap.size ≤ k)) : St w S0 S' v mts wr' := by
  have hz := hk.size
  have hw := h.keep.size
  have sub : ∀ k, (k < wr.heap.size ∧ ¬ S k ∧ v.ownBlock ≠ some k) → (k < wr'.heap.size ∧ ¬ S' k ∧ v.ownBlock ≠ some k) := fun k hk' => ⟨by omega, fun hs => by rcases (hS k hs).2 with h1 | h1; exact hk'.2.1 h1; omega, hk'.2.2⟩
  refine ⟨h.own.keep h.qS hk, fun k hs => ⟨(hS k hs).1, ?_⟩, fun k hv hs => ?_, fun m hm => ?_, h.keep.trans (hk.mono fun k hk' hs hS0 => ?_)⟩
  · rcases (hS k hs).2 with h1 | h1
    · exact (h.inS k h1).2
    · right; omega
  · rcases (hS k hs).2 with h1 | h1
    · exact h.qS k hv h1
    · have := (h.own.lt k hv).2; omega
  · obtain ⟨e1, e2, e3, e4⟩ := h.el m hm
    refine ⟨e1.keep (e3.mono fun k hk' => hk'.2.1) hk, e2.keep (fun k hv => ?_) hk, e3.mono sub, e4.mono sub⟩
    cases hB : m.B with
    | none => rw [Mt.w, hB] at hv; simp [Value.ownBlock] at hv
    | some a => rw [Mt.w, hB] at hv; simp [Value.ownBlock] at hv; rw [← hv]; exact (e4 a hB).2.1
  · rcases (h.inS k hS0).2 with h1 | h1
    · exact hs.2 h1
    · omega
theorem St.below (h : St w S0 S v mts wr) (hb : Below wr.heap.size wr wr') : St w S0 S v mts wr' := h.step (kb hb) fun k hs => ⟨Nat.lt_of_lt_of_le (h.inS k hs).1 hb.size, .inl hs⟩
theorem St.push (h : St w S0 S v mts wr) (m : Mt) (hg : wr.grownBy wr' v.ownBlock) (own' : OwnMets wr' w.heap.size v' (mts ++ [m])) (hv' : v'.ownBlock = v.ownBlock ∨ v'.ownBlock = some wr.heap.size)
    (s1 : SeeInts wr m.A m.pts) (s2 : OwnInts wr w.heap.size m.w m.word) (s3 : InS (fun k => k < wr.heap.size ∧ ¬ S k ∧ v.ownBlock ≠ some k) m.A) (s4 : InS (fun k => k < wr.heap.size ∧ ¬ S k ∧ v.ownBlock ≠ some k) m.B) : St w S0 S v' (mts ++ [m]) wr' := by
  have hz := hg.size
  have hw := h.keep.size
  have hK : Keep (fun k => v.ownBlock ≠ some k) wr wr' := keep_grown hg fun k hk hn => hn hk
  have sub : ∀ k, (k < wr.heap.size ∧ ¬ S k ∧ v.ownBlock ≠ some k) → (k < wr'.heap.size ∧ ¬ S k ∧ v'.ownBlock ≠ some k) := fun k hk' => ⟨by omega, hk'.2.1, fun e => by
    rcases hv' with h1 | h1
    · exact hk'.2.2 (h1 ▸ e)
    · rw [h1] at e; have := Option.some.inj e; omega⟩
  have word : ∀ m : Mt, OwnInts wr w.heap.size m.w m.word → InS (fun k => k < wr.heap.size ∧ ¬ S k ∧ v.ownBlock ≠ some k) m.B → OwnInts wr' w.heap.size m.w m.word := fun m e2 e4 => e2.keep (fun k hv => by
    cases hB : m.B with
    | none => rw [Mt.w, hB] at hv; simp [Value.ownBlock] at hv
    | some a => rw [Mt.w, hB] at hv; simp [Value.ownBlock] at hv; rw [← hv]; exact (e4 a hB).2.2) hK
  refine ⟨own', fun k hs => ⟨Nat.lt_of_lt_of_le (h.inS k hs).1 hz, (h.inS k hs).2⟩, fun k hv hs => ?_, fun x hx => ?_, h.keep.trans (hK.mono fun k hk' hs hvk => ?_)⟩
  · rcases hv' with h1 | h1
    · exact h.qS k (h1 ▸ hv) hs
    · rw [h1] at hv
      have := Option.some.inj hv
      have := (h.inS k hs).1
      omega
  · rcases List.mem_append.1 hx with hx | hx
    · obtain ⟨e1, e2, e3, e4⟩ := h.el x hx
      exact ⟨e1.keep (e3.mono fun k hk' => hk'.2.2) hK, word x e2 e4, e3.mono sub, e4.mono sub⟩
    · rw [List.mem_singleton.1 hx]
      exact ⟨s1.keep (s3.mono fun k hk' => hk'.2.2) hK, word m s2 s4, s3.mono sub, s4.mono sub⟩
  · have := (h.own.lt k hvk).1
    omega
/-- a cell of a block that is neither the queue's nor one of S -/
theorem St.cellStep {p : Addr} {u : Value} (hq : wr.cell? p = some u) (hk : Keep (fun k => ¬ S k) wr wr') (hp : ¬ S p.block) : wr'.cell? p = some u := hk.cell hp hq
theorem cellPush {p : Addr} {u : Value} (hq : wr.cell? p = some u) (hg : wr.grownBy wr' v.ownBlock) (hp : v.ownBlock ≠ some p.block) : wr'.cell? p = some u := hg.cell hq (Ne.symm hp)
end
theorem any_pw (mts : List Mt) (nx : List Int) : (mts.map Mt.pw).any (fun x => decide (x.1 = nx)) = mts.any (fun m => decide (m.pts = nx)) := by
  rw [List.any_map]
  rfl
theorem grow1_hit {by_ : Mp → List Int → List Int} {now : Pw} {mts : List Mt} {kf : Nat × Mp} {nx : List Int} (hn : nx = by_ kf.2 now.1) (h : mts.any (fun m => decide (m.pts = nx)) = true) : grow1 by_ now (mts.map Mt.pw) kf = mts.map Mt.pw := by
  unfold grow1
  rw [← hn, any_pw, h]
  rfl
theorem grow1_new {by_ : Mp → List Int → List Int} {now : Pw} {mts : List Mt} {kf : Nat × Mp} {nx : List Int} (hn : nx = by_ kf.2 now.1) (h : mts.any (fun m => decide (m.pts = nx)) = false) (m : Mt) (h1 : m.pts = nx) (h2 : m.word = now.2 ++ [(kf.1 : Int)]) : grow1 by_ now (mts.map Mt.pw) kf = (mts ++ [m]).map Mt.pw := by
  unfold grow1
  rw [← hn, any_pw, h, List.map_append]
  subst h1
  simp [Mt.pw, h2]
/-- queue = append(queue, m) -/
theorem wpList_push_met (w : World) {ops : Array Oper} {rest : List Oper} {o : Oper} {a : Act} {Q : Exit → Act → World → Prop} (hgd : o.guard = none) (s x : Operand)
    (ho : o.op = .call { callee := .builtin .append, args := #[s, x], argTypes := #[137, 137] })
    (base : Nat) (v : Value) (xs : List Mt) (hs : a.eval s = v) (hown : OwnMets w base v xs) (b : Nat) (m : Mt) (hx : a.eval x = .slice (some ⟨b, 0, none⟩) 1 1) (h0 : w.cell? ⟨b, 0, none⟩ = some (.slice m.A m.pts.length m.c)) (h1 : w.cell? ⟨b, 1, none⟩ = some (.slice m.B m.word.length m.d))
    (hn : xs.length ≤ 4294967296) (hbase : base ≤ w.heap.size)
    (hK : ∀ v' w', OwnMets w' base v' (xs ++ [m]) → w.grownBy w' v.ownBlock → (v'.ownBlock = v.ownBlock ∨ v'.ownBlock = some w.heap.size) → wpList Try.prog ops Q rest (a.put o.dst v') w') : wpList Try.prog ops Q (o :: rest) a w := by
  obtain ⟨i0, hi, hz0, hz1, hz2⟩ := info_parts info_met
  refine wpList_append_see w hgd s x 137 ho base 124 i0 (.agg #[.slice none 0 0, .slice none 0 0]) 2 48 Try.underlying137 hi hz0 hz1 hz2 rfl (by decide) v xs.length (xs.flatMap Mt.cells) hs hown (some ⟨b, 0, none⟩) 1 1 m.cells hx rfl
    (.inr ⟨⟨b, 0, none⟩, rfl, fun j u hj => ?_⟩) (fun u hu => by simp [Mt.cells] at hu; rcases hu with rfl | rfl <;> rfl) (by unfold maxLen; omega) (by omega) hbase (fun v' w' k1 k2 k3 => hK v' w' ?_ k2 k3)
  · rw [add_lit, Nat.zero_add]
    match j, hj with
    | 0, hj => simp [Mt.cells] at hj; subst hj; exact h0
    | 1, hj => simp [Mt.cells] at hj; subst hj; exact h1
  · show w'.ownsRow base 124 2 v' (xs ++ [m]).length ((xs ++ [m]).flatMap Mt.cells)
    rw [List.length_append, List.flatMap_append]
    simpa using k1
/-! The pushes as steps of a region that draws its order. -/
theorem step_push_met (w : World) {ops : Array Oper} {o : Oper} {a : Act} {K : Act → World → Prop} {Q : Exit → Act → World → Prop} {E : Prop} (hgd : o.guard = none) (s x : Operand)
    (ho : o.op = .call { callee := .builtin .append, args := #[s, x], argTypes := #[137, 137] })
    (base : Nat) (v : Value) (xs : List Mt) (hs : a.eval s = v) (hown : OwnMets w base v xs) (b : Nat) (m : Mt) (hx : a.eval x = .slice (some ⟨b, 0, none⟩) 1 1) (h0 : w.cell? ⟨b, 0, none⟩ = some (.slice m.A m.pts.length m.c)) (h1 : w.cell? ⟨b, 1, none⟩ = some (.slice m.B m.word.length m.d))
    (hn : xs.length ≤ 4294967296) (hbase : base ≤ w.heap.size)
    (hK : ∀ v' w', OwnMets w' base v' (xs ++ [m]) → w.grownBy w' v.ownBlock → (v'.ownBlock = v.ownBlock ∨ v'.ownBlock = some w.heap.size) → K (a.put o.dst v') w') : if Region.wanted o (yielded ops a.tmps) = true then Oper.wp Try.prog o a w K Q else E := by
  obtain ⟨i0, hi, hz0, hz1, hz2⟩ := info_parts info_met
  refine step_append_see w hgd s x 137 ho base 124 i0 (.agg #[.slice none 0 0, .slice none 0 0]) 2 48 Try.underlying137 hi hz0 hz1 hz2 rfl (by decide) v xs.length (xs.flatMap Mt.cells) hs hown (some ⟨b, 0, none⟩) 1 1 m.cells hx rfl
    (.inr ⟨⟨b, 0, none⟩, rfl, fun j u hj => ?_⟩) (fun u hu => by simp [Mt.cells] at hu; rcases hu with rfl | rfl <;> rfl) (by unfold maxLen; omega) (by omega) hbase (fun v' w' k1 k2 k3 => hK v' w' ?_ k2 k3)
  · rw [add_lit, Nat.zero_add]
    match j, hj with
    | 0, hj => simp [Mt.cells] at hj; subst hj; exact h0
    | 1, hj => simp [Mt.cells] at hj; subst hj; exact h1
  · show w'.ownsRow base 124 2 v' (xs ++ [m]).length ((xs ++ [m]).flatMap Mt.cells)
    rw [List.length_append, List.flatMap_append]
    simpa using k1
/-! 'search' goes through the queue in the order of words. -/
/-- what 'by' makes of a list of points -/
def ByOk (gB : Nat) (lbB : Array Value) (by_ : Mp → List Int → List Int) (ms : List Mp) (U : List (List Int)) : Prop :=
  ∀ (W : World) (f : Mp) (A : Option Addr) (c : Nat) (p : List Int), f ∈ ms → p ∈ U → SeeInts W A p →
    Calls Try.prog gB (#[.agg #[.int .i64 f.p, .int .i64 f.a, .int .i64 f.b, .int .i64 f.c, .int .i64 f.d, .int .i64 f.e], .slice A p.length c] ++ lbB) W fun e w' => ∃ v, e = .returned v ∧ OwnInts w' W.heap.size v (by_ f p) ∧ Below W.heap.size W w'
/-- what 'each' does at its call number i -/
def EachOk (gE : Nat) (lbE : Array Value) (by_ : Mp → List Int → List Int) (ms : List Mp) (start : List Int) (cont : Pw → Bool) (I : Nat → (Nat → Prop) → World → Prop) (Fin : Nat → World → Prop) (S0 : Nat → Prop) (w : World) : Prop :=
  ∀ (i : Nat) (S : Nat → Prop) (W : World) (m : Mt), (bfs by_ ms start i)[i]? = some m.pw → I i S W → (∀ k, S k → k < W.heap.size ∧ (S0 k ∨ w.heap.size ≤ k)) → Keep (fun k => k < w.heap.size ∧ ¬ S0 k) w W → SeeInts W m.A m.pts → OwnInts W w.heap.size m.w m.word →
    InS (fun k => ¬ S k) m.A → InS (fun k => ¬ S k) m.B →
    Calls Try.prog gE (#[.agg #[.slice m.A m.pts.length m.c, .slice m.B m.word.length m.d]] ++ lbE) W fun e w' => e = .returned (.bool (cont m.pw)) ∧ Keep (fun k => ¬ S k) W w' ∧
      (cont m.pw = true → ∃ S', I (i + 1) S' w' ∧ ∀ k, S' k → k < w'.heap.size ∧ (S k ∨ W.heap.size ≤ k)) ∧ (cont m.pw = false → Fin i w')
/-- how it ends -/
def SearchEnd (by_ : Mp → List Int → List Int) (ms : List Mp) (start : List Int) (cont : Pw → Bool) (I : Nat → (Nat → Prop) → World → Prop) (Fin : Nat → World → Prop) (w' : World) : Prop :=
  (∃ N S, (bfs by_ ms start N)[N]? = none ∧ (∀ i m, i < N → (bfs by_ ms start i)[i]? = some m → cont m = true) ∧ I N S w' ∧ ∀ k, S k → k < w'.heap.size) ∨
  (∃ N m, (bfs by_ ms start N)[N]? = some m ∧ (∀ i m, i < N → (bfs by_ ms start i)[i]? = some m → cont m = true) ∧ cont m = false ∧ Fin N w')
set_option maxHeartbeats 8000000 in
set_option maxRecDepth 100000 in
theorem search_c {A F : Option Addr} {c fc : Nat} {ms : List Mp} {start : List Int} {gB gE : Nat} {lbB lbE : Array Value} {U : List (List Int)} {by_ : Mp → List Int → List Int} {cont : Pw → Bool} {I : Nat → (Nat → Prop) → World → Prop} {Fin : Nat → World → Prop} {S0 : Nat → Prop} (w : World)
    (hA : SeeMaps w A ms) (hAS : InS (fun k => k < w.heap.size ∧ ¬ S0 k) A) (hms : ms.length ≤ 6) (hF : SeeInts w F start) (hFS : InS (fun k => k < w.heap.size ∧ ¬ S0 k) F) (h0 : start ∈ U) (hU : ∀ f ∈ ms, ∀ p ∈ U, by_ f p ∈ U) (hUl : U.length ≤ 1000) (hUp : ∀ p ∈ U, p.length ≤ 1000)
    (eB : Enters Try.prog gB) (eE : Enters Try.prog gE) (hBy : ByOk gB lbB by_ ms U) (hI0 : I 0 S0 w) (hS0 : ∀ k, S0 k → k < w.heap.size)
    (hStab : ∀ i S W W', I i S W → Keep (fun k => S k ∨ k < w.heap.size) W W' → I i S W') (hEach : EachOk gE lbE by_ ms start cont I Fin S0 w) :
    Calls Try.prog 109 #[.slice A ms.length c, .slice F start.length fc, .func (.func gB) #[] lbB, .func (.func gE) #[] lbE] w fun e w' => e = .returned (.tuple #[]) ∧ SearchEnd by_ ms start cont I Fin w' ∧ Keep (fun k => k < w.heap.size ∧ ¬ S0 k) w w' := by
  unfold Enters at eB eE
  have hfine := fun i => bfs_fine (by_ := by_) (ms := ms) (start := start) h0 hU i
  have hlen : ∀ i, (bfs by_ ms start i).length ≤ 1000 := fun i => Nat.le_trans (hfine i).length hUl
  have HFine := Lib.hid hfine
  have HLen := Lib.hid hlen
  have HUp := Lib.hid hUp
  have HU := Lib.hid hU
  have HStab := Lib.hid hStab
  have HI0 := Lib.hid hI0
  have HS0 := Lib.hid hS0
  have HF := Lib.hid hF
  have HFS := Lib.hid hFS
  have hAS2 := Lib.hid hAS
  clear hfine hlen hUp hU hStab hI0 hS0 hF hFS hAS
  go_enter Try.func109, Try.ntmps109
  go_wp2
  go_loopw [9, 8] (fun i q wr => ∃ (k : Nat) (S : Nat → Prop) (mts : List Mt), i = .int .i64 k ∧ k ≤ mts.length ∧ Hid (mts.map Mt.pw = bfs by_ ms start k) ∧ Hid (∀ i m, i < k → (bfs by_ ms start i)[i]? = some m → cont m = true) ∧ Hid (I k S wr) ∧ St w S0 S q mts wr) (fun i _ _ => 1001 - (intOf i).toNat)
  case atStart =>
    have g0 : Below w.heap.size w (w.alloc (.cells #[.slice F start.length fc, .slice none ([] : List Int).length 0] 124)) := by go_grown
    refine ⟨0, S0, [⟨F, fc, start, none, 0, []⟩], rfl, by simp, rfl, fun i m h _ => absurd h (Nat.not_lt_zero _), HStab.out _ _ _ _ HI0.out (kb g0), ?_⟩
    refine ⟨OwnMets.one w w.heap.size (Nat.le_refl _) ⟨F, fc, start, none, 0, []⟩, fun k hs => ⟨by have := HS0.out k hs; simp; omega, .inl hs⟩, fun k hv hs => ?_, fun m hm => ?_, kb g0⟩
    · have := HS0.out k hs
      simp [Value.ownBlock] at hv
      omega
    · rw [List.mem_singleton.1 hm]
      exact ⟨HF.out.below g0, OwnInts.nil _ _, HFS.out.mono fun k hk => ⟨by simp; omega, hk.2, by simp [Value.ownBlock]; omega⟩, fun a ha => by cases ha⟩
  case round =>
    obtain ⟨k, S, mts, rfl, hk, hq, hc, hI, st⟩ := hrel
    have hl : (bfs by_ ms start k).length = mts.length := by rw [← hq.out, List.length_map]
    have hle := HLen.out k
    rw [hl] at hle
    have HL := Lib.hid hl
    clear hl
    obtain ⟨vA, vc, rfl, hsee⟩ := st.own.see
    by_cases hlt : k < mts.length
    · obtain ⟨b, o, m, rfl, hm, q0, q1⟩ := hsee.at_ hlt
      have hbm : (bfs by_ ms start k)[k]? = some m.pw := by rw [← hq.out, List.getElem?_map, hm]; rfl
      obtain ⟨e1, e2, e3, e4⟩ := st.el m (List.mem_of_getElem? hm)
      have hl0 : (0 : Int) ≤ k := by omega
      have hl' : (k : Int) < mts.length := by omega
      have k1 : Below wr.heap.size wr (wr.alloc (.cells #[.slice m.A m.pts.length m.c, .slice m.B m.word.length m.d] 124)) := by go_grown
      have st1 := st.below k1
      have hcall := hEach k S _ m hbm (HStab.out _ _ _ _ hI.out (kb k1)) st1.inS st1.keep (e1.below k1) (e2.below k1) (e3.mono fun k hk => hk.2.1) (e4.mono fun k hk => hk.2.1)
      have x0 : (wr.alloc (.cells #[.slice m.A m.pts.length m.c, .slice m.B m.word.length m.d] 124)).cell? ⟨wr.heap.size, 0, none⟩ = some m.p := by simp [go_sem, Mt.p]
      have x1 : (wr.alloc (.cells #[.slice m.A m.pts.length m.c, .slice m.B m.word.length m.d] 124)).cell? ⟨wr.heap.size, 1, none⟩ = some m.w := by simp [go_sem, Mt.w]
      have hzz := st.keep.size
      have hSx : ¬ S wr.heap.size := fun hs => by have := (st.inS _ hs).1; omega
      have hbl : b < wr.heap.size := World.block_lt_of_cell? wr ⟨b, o + k * 2, none⟩ q0
      have HS := Lib.hid hSx
      have HM := Lib.hid hm
      have HB := Lib.hid hbm
      clear hsee e1 e2 e3 e4 hSx hm hbm
      have Hx0 := Lib.hid x0
      have Hx1 := Lib.hid x1
      clear x0 x1
      cases hct : cont m.pw
      · rw [hct] at hcall
        have Hct := Lib.hid hct
        clear hct
        go_wp2_with (go_at_fn gE; refine hcall.mono ?_; rintro e w1 ⟨rfl, hK1, _, hFin⟩)
        go_returns
        refine ⟨rfl, .inr ⟨k, m.pw, HB.out, hc.out, Hct.out, hFin trivial⟩, (st1.step hK1 (S' := fun k => S k ∧ k < w1.heap.size) fun k hs => ⟨hs.2, .inl hs.1⟩).keep⟩
      · rw [hct] at hcall
        have Hct := Lib.hid hct
        clear hct
        go_wp2_with (go_at_fn gE; refine hcall.mono ?_; rintro e w1 ⟨rfl, hK1, hgo, _⟩)
        obtain ⟨S', hI', hS'⟩ := hgo trivial
        have st2 := st1.step hK1 hS'
        have y0 := hK1.cell (p := ⟨wr.heap.size, 0, none⟩) HS.out Hx0.out
        have y1 := hK1.cell (p := ⟨wr.heap.size, 1, none⟩) HS.out Hx1.out
        have hSx' : ¬ S' wr.heap.size := fun hs => by
          rcases (hS' _ hs).2 with h1 | h1
          · exact HS.out h1
          · exact absurd h1 (by simp)
        have hm2 := HM.out
        clear Hx0 Hx1 hcall hK1 hgo hI st st1 q0 q1 k1
        have HC := hc
        have HQ := hq
        clear hc hq
        have Hnow : Hid (m.pts ∈ U) := (HFine.out k).mem _ (List.mem_of_getElem? HB.out)
        have hz2 : wr.heap.size < w1.heap.size := World.block_lt_of_cell? w1 ⟨wr.heap.size, 0, none⟩ y0
        have hqx : ∀ n, (Value.slice (some ⟨b, o, none⟩) n vc).ownBlock ≠ some wr.heap.size := fun n e => by
          simp [Value.ownBlock] at e
          omega
        generalize wr.heap.size = Bx at *
        go_wp2
        go_loopw [33, 8] (fun i q w2 => ∃ (j : Nat) (mts2 : List Mt), i = .int .i64 j ∧ j ≤ ms.length ∧ Hid (mts2.map Mt.pw = growTo by_ ms m.pw (bfs by_ ms start k) j) ∧ Hid (I (k + 1) S' w2) ∧ St w S0 S' q mts2 w2 ∧ w2.cell? ⟨Bx, 0, none⟩ = some m.p ∧ w2.cell? ⟨Bx, 1, none⟩ = some m.w ∧ q.ownBlock ≠ some Bx ∧ Hid (mts2[k]? = some m)) (fun i _ _ => ms.length - (intOf i).toNat)
        case atStart =>
          exact ⟨0, mts, rfl, by omega, HQ, hI', st2, y0, y1, hqx _, hm2⟩
        case round =>
          clear y0 y1 hI' st2
          obtain ⟨j, mts2, rfl, hj, hq2, hI2, st2, y0, y1, hqx2, hm3⟩ := hrel
          obtain ⟨vA2, vc2, rfl, hsee2⟩ := st2.own.see
          by_cases hlj : j < ms.length
          · obtain ⟨bl, ol, f, rfl, hf, g⟩ := (hA.keep hAS2.out st2.keep).at_ hlj
            have hfm := List.mem_of_getElem? hf
            obtain ⟨g0, g1, g2, g3, g4, g5⟩ := g
            have lj0 : (0 : Int) ≤ j := by omega
            have lj1 : (j : Int) < ms.length := by omega
            obtain ⟨e1, e2, e3, e4⟩ := st2.el m (List.mem_of_getElem? hm3.out)
            have k1 : Below wr.heap.size wr (wr.alloc (.cells #[.int .i64 f.p, .int .i64 f.a, .int .i64 f.b, .int .i64 f.c, .int .i64 f.d, .int .i64 f.e] 61)) := by go_grown
            have hby := hBy _ f m.A m.c m.pts hfm Hnow.out (e1.below k1)
            have y0k := bcell k1 y0
            have y1k := bcell k1 y1
            unfold Mt.p at y0 y0k
            obtain ⟨nx, hnx⟩ : ∃ nx, nx = by_ f m.pts := ⟨_, rfl⟩
            rw [← hnx] at hby
            have hnU : nx ∈ U := by rw [hnx]; exact HU.out f hfm _ Hnow.out
            have hnl := HUp.out nx hnU
            have hsz2 := st2.keep.size
            have HNX := Lib.hid hnx
            have HF2 := Lib.hid hf
            have HNU := Lib.hid hnU
            clear hnx hf hnU hfm e1 e2 e3 e4
            go_wp2_with (go_at_fn gB; refine hby.mono ?_; rintro e w3 ⟨v3, rfl, hown3, hb3⟩; obtain ⟨N, nc, rfl, hsN⟩ := hown3.see)
            have k3 : Below wr.heap.size wr (w3.alloc (.cells #[.slice N nx.length nc] 23)) := btrans (btrans k1 hb3) (kbelow _ _)
            have st4 := st2.below k3
            have hI4 := HStab.out _ _ _ _ hI2.out (kb k3)
            have hfin2 : Fine U (mts2.map Mt.pw) := by rw [hq2.out]; exact growTo_fine (HFine.out k) (fun f hf => HU.out f hf _ Hnow.out) j
            have hl2 : mts2.length ≤ 1000 := by have := hfin2.length; rw [List.length_map] at this; omega
            have hcf := ContainsFuncMt_c 125 #[.pointer (some ⟨w3.heap.size, 0, none⟩)] (fun m => decide (m.pts = nx)) (enters_of Try.func125 (by kernel_rfl) rfl) vA2 vc2 mts2 _ (hsee2.below k3) (by omega)
              (search1_p N nc w3.heap.size nx mts2 _ (by simp [go_sem]) (hsN.below (kbelow _ _)) (fun m hm => ⟨(st4.el m hm).1, by have := HUp.out m.pts (hfin2.mem m.pw (List.mem_map_of_mem hm)); omega⟩))
            have y0k := bcell k3 y0
            have y1k := bcell k3 y1
            have n0k : (w3.alloc (.cells #[.slice N nx.length nc] 23)).cell? ⟨w3.heap.size, 0, none⟩ = some (.slice N nx.length nc) := by simp [go_sem]
            have hown4 := hown3.below (kbelow w3 (.cells #[.slice N nx.length nc] 23))
            have z3 := (btrans k1 hb3).size
            have z1 := k1.size
            cases hany : mts2.any (fun m => decide (m.pts = nx))
            · have hcf2 := valB hcf hany
              clear hcf
              go_wp2_with (go_at_call 124; go_must (refine hcf2.mono ?_); rintro e w5 ⟨rfl, hb5⟩)
              replace y1k := bcell hb5 y1k
              unfold Mt.w at y1k
              have n0 := bcell hb5 n0k
              have st5 := st4.below hb5
              have hown5 := hown4.below hb5
              have hI5 := HStab.out _ _ _ _ hI4 (kb hb5)
              have hw5 := (st5.el m (List.mem_of_getElem? hm3.out)).2.1
              have hwl : m.word.length ≤ 1000 := by
                have h1 := bfs_words (by_ := by_) (ms := ms) (start := start) k m.pw (List.mem_of_getElem? HB.out)
                have h2 : k < (bfs by_ ms start k).length := (List.getElem?_eq_some_iff.1 HB.out).1
                have h3 := HLen.out k
                show m.pw.2.length ≤ 1000
                omega
              have z5 := hb5.size
              have hsz5 := st5.keep.size
              have hSlt : ∀ k, S' k → k < wr.heap.size := fun k hs => (st2.inS k hs).1
              have hQlt : ∀ k, (Value.slice vA2 mts2.length vc2).ownBlock = some k → k < wr.heap.size := fun k hk => (st2.own.lt k hk).2
              have hown5' : OwnInts w5 wr.heap.size (.slice N nx.length nc) nx := hown5.mono z1
              clear hcf2 hsee2 hby k1 k3 hb3 st2 hI2 hI4 st4 hown3 hown4 hown5 hsN n0k
              refine wp_region_held_drew (S := fun w' => w'.cell? ⟨w3.heap.size, 0, none⟩ = some (.slice N nx.length nc) ∧ w'.cell? ⟨Bx, 1, none⟩ = some (.slice m.B m.word.length m.d)) (by kernel_rfl) ⟨bcell (bdr (Below.refl _ _)) n0, bcell (bdr (Below.refl _ _)) y1k⟩ (fun hHeld => ?_)
              refine wpAnyH_take (i := 0) (v := .slice vA2 mts2.length vc2) rfl (by kernel_rfl) (by kernel_rfl) (by kernel_rfl) (fun _ _ _ h => h) (Or.inl ⟨by rfl, fun w hSw => ?_⟩) hHeld ?_
              · obtain ⟨q1, q2⟩ := hSw
                go_simp
              simp only [Act.put, List.setIfInBounds_toArray, List.set_cons_zero, List.set_cons_succ]
              refine wpAnyH_take (i := 1) (v := .slice N nx.length nc) rfl (by kernel_rfl) (by kernel_rfl) (by kernel_rfl) (fun _ _ _ h => h) (Or.inl ⟨by rfl, fun w hSw => ?_⟩) hHeld ?_
              · obtain ⟨q1, q2⟩ := hSw
                go_simp
              simp only [Act.put, List.setIfInBounds_toArray, List.set_cons_zero, List.set_cons_succ]
              refine wpAnyH_take (i := 2) (v := .pointer (some ⟨Bx, 1, none⟩)) rfl (by kernel_rfl) (by kernel_rfl) (by kernel_rfl) (fun _ _ _ h => h) (Or.inl ⟨by rfl, fun w hSw => ?_⟩) hHeld ?_
              · obtain ⟨q1, q2⟩ := hSw
                go_simp
              simp only [Act.put, List.setIfInBounds_toArray, List.set_cons_zero, List.set_cons_succ]
              refine wpAnyH_take (i := 3) (v := .slice m.B m.word.length m.d) rfl (by kernel_rfl) (by kernel_rfl) (by kernel_rfl) (fun _ _ _ h => h) (Or.inl ⟨by rfl, fun w hSw => ?_⟩) hHeld ?_
              · obtain ⟨q1, q2⟩ := hSw
                go_simp
              simp only [Act.put, List.setIfInBounds_toArray, List.set_cons_zero, List.set_cons_succ]
              refine wpAnyH_take (i := 5) (v := .int .i64 j) rfl (by kernel_rfl) (by kernel_rfl) (by kernel_rfl) (fun _ _ _ h => h) (Or.inl ⟨by rfl, fun w hSw => ?_⟩) hHeld ?_
              · obtain ⟨q1, q2⟩ := hSw
                go_simp
              simp only [Act.put, List.setIfInBounds_toArray, List.set_cons_zero, List.set_cons_succ]
              have E0 := Lib.hid hHeld
              clear hHeld
              refine wpAnyH_ready (rs := [4, 6]) (by kernel_rfl) (by simp) ?_
              refine AllReadyH.cons rfl (fun K hK => ?_) (AllReadyH.cons rfl (fun K hK => ?_) AllReadyH.nil)
              go_simp
              go_at_call 126
              refine (CloneI_c m.B m.d m.word _ (hw5.see'.below (bdr (Below.refl _ _))) hw5.nilok (by omega)).mono ?_
              rintro e w6 ⟨v6, rfl, hown6, hb6⟩
              obtain ⟨A6, c6, rfl, _⟩ := hown6.see
              try go_simp
              replace hb6 := bdr hb6
              refine hK.out _ _ ⟨bcell hb6 n0, bcell hb6 y1k⟩ (fun hHeld => ?_)
              clear hHeld hK K
              try simp only [Act.put, List.setIfInBounds_toArray, List.set_cons_zero, List.set_cons_succ]
              refine wpAnyH_ready (rs := [6]) (by kernel_rfl) (by simp) ?_
              refine AllReadyH.cons rfl (fun K hK => ?_) AllReadyH.nil
              go_simp
              have hb6x := btrans hb6 (kbelow w6 (.cells #[.int .i64 (j : Int)] 2))
              refine hK.out _ _ ⟨bcell hb6x n0, bcell hb6x y1k⟩ (fun hHeld => ?_)
              clear hHeld hK K
              try simp only [Act.put, List.setIfInBounds_toArray, List.set_cons_zero, List.set_cons_succ]
              have hoX : OwnInts (w6.alloc (.cells #[.int .i64 (j : Int)] 2)) w5.heap.size _ m.word := OwnInts.mono (hown6.below (kbelow w6 (.cells #[.int .i64 (j : Int)] 2))) (by first | exact Nat.le_refl _ | (simp; omega) | simp)
              have hbX := hb6x
              have hjX : World.cell? (w6.alloc (.cells #[.int .i64 (j : Int)] 2)) ⟨w6.heap.size, 0, none⟩ = some (.int .i64 (j : Int)) := (by simp [go_sem])
              rotate_left
              go_simp
              have hb4 : Below w5.heap.size w5 (w5.drew.alloc (.cells #[.int .i64 (j : Int)] 2)) := bdr (kbelow _ _)
              refine hK.out _ _ ⟨bcell hb4 n0, bcell hb4 y1k⟩ (fun hHeld => ?_)
              clear hHeld hK K
              try simp only [Act.put, List.setIfInBounds_toArray, List.set_cons_zero, List.set_cons_succ]
              refine wpAnyH_ready (rs := [4]) (by kernel_rfl) (by simp) ?_
              refine AllReadyH.cons rfl (fun K hK => ?_) AllReadyH.nil
              go_simp
              go_at_call 126
              refine (CloneI_c m.B m.d m.word _ (hw5.see'.below hb4) hw5.nilok (by omega)).mono ?_
              rintro e w6 ⟨v6, rfl, hown6, hb6⟩
              obtain ⟨A6, c6, rfl, _⟩ := hown6.see
              try go_simp
              have hb6a := hb6
              replace hb6 := btrans hb4 hb6
              refine hK.out _ _ ⟨bcell hb6 n0, bcell hb6 y1k⟩ (fun hHeld => ?_)
              clear hHeld hK K
              try simp only [Act.put, List.setIfInBounds_toArray, List.set_cons_zero, List.set_cons_succ]
              have hoX : OwnInts (w6) w5.heap.size _ m.word := OwnInts.mono hown6 (by first | exact Nat.le_refl _ | (simp; omega) | simp)
              have hbX := hb6
              have hjX : World.cell? (w6) ⟨w5.heap.size, 0, none⟩ = some (.int .i64 (j : Int)) := (bcell hb6a (by simp [go_sem]))
              all_goals
                refine wpAnyH_ready (rs := [7]) (by kernel_rfl) (by simp) ?_
                refine AllReadyH.cons rfl (fun K hK => ?_) AllReadyH.nil
                refine step_push_int _ rfl (.tmp 51) (.tmp 53) rfl w5.heap.size _ m.word rfl hoX _ (j : Int) rfl hjX (by omega) hbX.size ?_
                intro v7 w7 hown7 hgrow7 hv7
                have hb7 : Below w5.heap.size w5 w7 := Below.grown hbX hgrow7 hbX.size (fun k hk => (hoX.lt k hk).1)
                obtain ⟨wd, hwd⟩ : ∃ wd, wd = m.word ++ [(j : Int)] := ⟨_, rfl⟩
                rw [← hwd] at hown7
                have HWD := Lib.hid hwd
                clear hwd
                obtain ⟨A7, c7, rfl, _⟩ := hown7.see
                refine hK.out _ _ ⟨bcell hb7 n0, bcell hb7 y1k⟩ (fun hHeld => ?_)
                clear hHeld hK K
                try simp only [Act.put, List.setIfInBounds_toArray, List.set_cons_zero, List.set_cons_succ]
                refine wpAnyH_ready (rs := [8]) (by kernel_rfl) (by simp) ?_
                refine AllReadyH.cons rfl (fun K hK => ?_) AllReadyH.nil
                go_simp
                refine hK.out _ _ ⟨bcell hb7 n0, bcell hb7 y1k⟩ (fun hHeld => ?_)
                clear hHeld hK K
                try simp only [Act.put, List.setIfInBounds_toArray, List.set_cons_zero, List.set_cons_succ]
                refine wpAnyH_ready (rs := [9]) (by kernel_rfl) (by simp) ?_
                refine AllReadyH.cons rfl (fun K hK => ?_) AllReadyH.nil
                go_simp
                have hb8 := btrans hb7 (kbelow w7 (.cells #[.slice N nx.length nc, .slice A7 wd.length c7] 124))
                refine hK.out _ _ ⟨bcell hb8 n0, bcell hb8 y1k⟩ (fun hHeld => ?_)
                clear hHeld hK K
                try simp only [Act.put, List.setIfInBounds_toArray, List.set_cons_zero, List.set_cons_succ]
                refine wpAnyH_ready (rs := [10]) (by kernel_rfl) (by simp) ?_
                refine AllReadyH.cons rfl (fun K hK => ?_) AllReadyH.nil
                refine step_push_met _ rfl (.tmp 47) (.tmp 56) rfl w.heap.size _ mts2 rfl ((st5.below hb8).own) _ ⟨N, nc, nx, A7, c7, wd⟩ rfl (by simp [go_sem]) (by simp [go_sem]) (by omega) (Nat.le_trans hsz5 hb8.size) ?_
                intro v8 w8 hown8 hgrow8 hv8
                have n08 := cellPush (p := ⟨w3.heap.size, 0, none⟩) (bcell hb8 n0) hgrow8 (fun e => absurd (hQlt w3.heap.size e) (by omega))
                have y18 := cellPush (p := ⟨Bx, 1, none⟩) (bcell hb8 y1k) hgrow8 hqx2
                refine hK.out _ _ ⟨n08, y18⟩ (fun hHeld => ?_)
                clear hHeld hK K
                try simp only [Act.put, List.setIfInBounds_toArray, List.set_cons_zero, List.set_cons_succ]
                refine wpAnyH_ready (rs := [11]) (by kernel_rfl) (by simp) ?_
                refine AllReadyH.cons rfl (fun K hK => ?_) AllReadyH.nil
                go_simp
                refine hK.out _ _ ⟨n08, y18⟩ (fun hHeld => ?_)
                clear hHeld hK K
                try simp only [Act.put, List.setIfInBounds_toArray, List.set_cons_zero, List.set_cons_succ]
                refine wpAnyH_done (by kernel_rfl) ?_ _
                go_wp2
                go_roundw
                case rel =>
                  have zw5 : wr.heap.size < w5.heap.size := by simp at z5; omega
                  have hst8 : St w S0 S' v8 (mts2 ++ [⟨N, nc, nx, A7, c7, wd⟩]) w8 := (st5.below hb8).push ⟨N, nc, nx, A7, c7, wd⟩ hgrow8 hown8 hv8 (hown5'.below hb8).see' ((hown7.below (kbelow w7 _)).mono hsz5) ((own_block hown5').mono fun k hk => ⟨Nat.lt_of_lt_of_le hk.2 hb8.size, fun hs => by have := hSlt k hs; have h1 : wr.heap.size ≤ k := hk.1; omega, fun e => by have := hQlt k e; have h1 : wr.heap.size ≤ k := hk.1; omega⟩)
                    ((own_block hown7).mono fun k hk => ⟨Nat.lt_of_lt_of_le hk.2 (kbelow w7 _).size, fun hs => by have := hSlt k hs; have h1 : w5.heap.size ≤ k := hk.1; omega, fun e => by have := hQlt k e; have h1 : w5.heap.size ≤ k := hk.1; omega⟩)
                  refine ⟨j + 1, mts2 ++ [⟨N, nc, nx, A7, c7, wd⟩], by go_num, by omega, ?_, HStab.out _ _ _ _ hI5 ((kb hb8).trans (keep_grown hgrow8 fun k hk hs => ?_)), hst8, cellPush (p := ⟨Bx, 0, none⟩) (bcell hb8 (bcell hb5 y0k)) hgrow8 hqx2, y18, fun e => ?_, ?_⟩
                  · show Hid _
                    rw [growTo_succ HF2.out, ← hq2.out]
                    exact (grow1_new HNX.out hany ⟨N, nc, nx, A7, c7, wd⟩ rfl HWD.out).symm
                  · rcases hs with hs | hs
                    · exact st5.qS k hk hs
                    · have := (st5.own.lt k hk).1; omega
                  · rcases hv8 with h1 | h1
                    · exact hqx2 (h1 ▸ e)
                    · rw [h1] at e
                      have e2 := Option.some.inj e
                      have e3 := hb8.size
                      have e4 := World.block_lt_of_cell? w5 ⟨Bx, 1, none⟩ y1k
                      simp only at e4
                      omega
                  · show Hid _
                    exact (List.getElem?_append_left (List.getElem?_eq_some_iff.1 hm3.out).1).trans hm3.out
                case measure => simp [intOf]; omega
            · have hcf2 := valB hcf hany
              have HA := Lib.hid hany
              clear hcf hany
              go_wp2_with (go_at_call 124; go_must (refine hcf2.mono ?_); rintro e w5 ⟨rfl, hb5⟩)
              go_roundw
              case rel =>
                refine ⟨j + 1, mts2, by go_num, by omega, ?_, HStab.out _ _ _ _ hI4 (kb hb5), st4.below hb5, bcell hb5 y0k, bcell hb5 y1k, hqx2, hm3⟩
                show Hid _
                rw [growTo_succ HF2.out, ← hq2.out, grow1_hit HNX.out HA.out]
                exact rfl
              case measure => simp [intOf]; omega
          · obtain rfl : j = ms.length := by omega
            have hb2 : bfs by_ ms start (k + 1) = growTo by_ ms m.pw (bfs by_ ms start k) ms.length := bfs_succ HB.out
            have hl2 : mts2.length ≤ 1000 := by have := HLen.out (k + 1); rw [hb2, ← hq2.out, List.length_map] at this; exact this
            go_wp2
            go_roundw
            case rel =>
              refine ⟨k + 1, S', mts2, by go_num, ?_, by show Hid _; rw [hb2]; exact hq2, fun i x hi hx => ?_, hI2, st2⟩
              · have := (List.getElem?_eq_some_iff.1 hm3.out).1; omega
              · rcases Nat.lt_succ_iff_lt_or_eq.1 hi with hi | rfl
                · exact HC.out i x hi hx
                · rw [HB.out] at hx; obtain rfl := Option.some.inj hx; exact Hct.out
            case measure => simp [intOf]; omega
    · obtain rfl : k = mts.length := by omega
      go_wp2
      go_returns
      exact ⟨rfl, .inl ⟨mts.length, S, List.getElem?_eq_none (by rw [HL.out]; exact Nat.le_refl _), hc.out, hI.out, fun k hs => (st.inS k hs).1⟩, st.keep⟩
end Go.Proofs.Ythadgdmooacccaa
