/- A region's operations that make memory, in whatever order: what each leaves holds in all later worlds, so that one proof for each operation serves every order. No condition. -/
import Derived.Test.YthadgdmooacccaaBase
namespace Go.Proofs.Ythadgdmooacccaa
set_option linter.unusedSimpArgs false
set_option linter.unusedVariables false
set_option linter.unusedSectionVars false
open Go.RowKit
section
variable {P : Program} {ops : Array Oper} {md : Region.Mode} {S : World → Prop} {Q : Exit → Act → World → Prop}
def dstOf (ops : Array Oper) (i : Nat) : Option Tmp := (ops[i]?).bind (·.dst)
/-- the values of some operations, put into their slots -/
def putsM (ops : Array Oper) (vs : Nat → Value) : List Nat → Act → Act
  | [], a => a
  | i :: l, a => putsM ops vs l (a.put (dstOf ops i) (vs i))
def setAll : List Nat → Array Bool → Array Bool
  | [], l => l
  | i :: r, l => setAll r (l.setIfInBounds i true)
theorem putsM_snoc (vs : Nat → Value) (i : Nat) : ∀ (l : List Nat) (a : Act), putsM ops vs (l ++ [i]) a = (putsM ops vs l a).put (dstOf ops i) (vs i)
  | [], _ => rfl
  | j :: l, a => putsM_snoc vs i l (a.put (dstOf ops j) (vs j))
theorem setAll_snoc (i : Nat) : ∀ (r : List Nat) (l : Array Bool), setAll (r ++ [i]) l = (setAll r l).setIfInBounds i true
  | [], _ => rfl
  | j :: r, l => setAll_snoc i r (l.setIfInBounds j true)
theorem putsM_size (vs : Nat → Value) : ∀ (l : List Nat) (a : Act), (putsM ops vs l a).tmps.size = a.tmps.size
  | [], _ => rfl
  | i :: l, a => by
    show (putsM ops vs l (a.put (dstOf ops i) (vs i))).tmps.size = _
    rw [putsM_size vs l]
    cases h : dstOf ops i <;> simp [Act.put]
/-- the slots are different ones -/
def Apart (ops : Array Oper) (l : List Nat) : Prop := ∀ i ∈ l, ∀ j ∈ l, i ≠ j → ∀ d, dstOf ops i = some d → dstOf ops j ≠ some d
theorem putsM_perm (vs : Nat → Value) {l l' : List Nat} (h : l.Perm l') : (∀ i ∈ l, ∀ j ∈ l, i ≠ j → ∀ d, dstOf ops i = some d → dstOf ops j ≠ some d) → ∀ a, putsM ops vs l a = putsM ops vs l' a := by
  induction h with
  | nil => intro _ _; rfl
  | cons x h ih => intro hd a; exact ih (fun i hi j hj => hd i (by simp [hi]) j (by simp [hj])) _
  | swap x y l =>
    intro hd a
    show putsM ops vs l ((a.put _ _).put _ _) = putsM ops vs l ((a.put _ _).put _ _)
    by_cases e : y = x
    · subst e; rfl
    · rw [Act.put_comm a _ _ (fun d hdd => hd y (by simp) x (by simp) e d hdd)]
  | trans h1 h2 ih1 ih2 => intro hd a; rw [ih1 hd, ih2 (fun i hi j hj => hd i (h1.mem_iff.2 hi) j (h1.mem_iff.2 hj))]
theorem setAll_perm {l l' : List Nat} (h : l.Perm l') : ∀ a, setAll l a = setAll l' a := by
  induction h with
  | nil => intro _; rfl
  | cons x h ih => intro a; exact ih _
  | swap x y l =>
    intro a
    show setAll l ((a.setIfInBounds _ _).setIfInBounds _ _) = setAll l ((a.setIfInBounds _ _).setIfInBounds _ _)
    by_cases e : x = y
    · subst e; rfl
    · rw [Array.setIfInBounds_comm _ _ e]
  | trans h1 h2 ih1 ih2 => intro a; rw [ih1, ih2]
theorem putsM_eval_no (vs : Nat → Value) (x : Operand) : ∀ (l : List Nat) (a : Act), (∀ i ∈ l, ∀ d, dstOf ops i = some d → x ≠ .tmp d) → (putsM ops vs l a).eval x = a.eval x
  | [], _, _ => rfl
  | i :: l, a, h => by
    show (putsM ops vs l (a.put _ _)).eval x = _
    rw [putsM_eval_no vs x l _ (fun j hj => h j (by simp [hj])), Act.eval_put (h i (by simp))]
theorem putsM_eval_yes (vs : Nat → Value) {i : Nat} {d : Tmp} (hd : dstOf ops i = some d) : ∀ (l : List Nat) (a : Act), i ∈ l → Apart ops l → (putsM ops vs l a).eval (.tmp d) = if d < a.tmps.size then vs i else undef
  | [], _, h, _ => by cases h
  | j :: l, a, h, hp => by
    show (putsM ops vs l (a.put _ _)).eval (.tmp d) = _
    by_cases hi : i ∈ l
    · rw [putsM_eval_yes vs hd l _ hi (fun i hi j hj => hp i (by simp [hi]) j (by simp [hj]))]
      congr 1
      cases hj : dstOf ops j <;> simp [Act.put]
    · have e : i = j := by
        rcases List.mem_cons.1 h with h | h
        · exact h
        · exact absurd h hi
      subst e
      rw [putsM_eval_no vs _ l _ (fun k hk d' hd' e => by
        have e2 : d = d' := by simpa using e
        subst e2
        exact hp i (by simp) k (by simp [hk]) (fun e => hi (e ▸ hk)) d hd hd'), hd]
      show (a.tmps.setIfInBounds d (vs i)).getD d undef = _
      by_cases hl : d < a.tmps.size
      · simp [hl]
      · simp [hl]
theorem setAll_mem {i : Nat} : ∀ (r : List Nat) (l : Array Bool) (b : Bool), i ∉ r → (setAll r l).getD i b = l.getD i b
  | [], _, _, _ => rfl
  | j :: r, l, b, h => by
    show (setAll r (l.setIfInBounds j true)).getD i b = _
    rw [setAll_mem r _ b (fun hh => h (by simp [hh])), getD_set_ne b (fun e => h (by simp [e]))]
theorem setAll_true {i : Nat} : ∀ (r : List Nat) (l : Array Bool), (l.getD i false = true ∨ (i ∈ r ∧ i < l.size)) → (setAll r l).getD i false = true
  | [], l, h => by
    rcases h with h | h
    · exact h
    · cases h.1
  | j :: r, l, h => by
    show (setAll r (l.setIfInBounds j true)).getD i false = true
    refine setAll_true r _ ?_
    rcases h with h | ⟨h, hl⟩
    · exact .inl (getD_set_true h)
    · rcases List.mem_cons.1 h with rfl | h
      · exact .inl (by simp [hl])
      · exact .inr ⟨h, by simpa using hl⟩
theorem Oper.wp_transfer {o : Oper} {a b : Act} {W : World} {X : Value → World → Prop} (he : execOp a.eval o = execOp b.eval o) (hs : a.tmps.size = b.tmps.size)
    (h : o.wp P a W (fun a' W' => ∃ v, a' = a.put o.dst v ∧ X v W') (fun _ _ _ => False)) {K : Act → World → Prop} (hK : ∀ v W', X v W' → K (b.put o.dst v) W') : o.wp P b W K Q := by
  have same : ∀ u v, a.put o.dst u = a.put o.dst v → b.put o.dst u = b.put o.dst v := fun u v e => by
    cases hd : o.dst with
    | none => rfl
    | some d =>
      rw [hd] at e
      by_cases hl : d < a.tmps.size
      · have e2 : u = v := by
          have := congrArg (fun x : Act => x.tmps[d]?) e
          simpa [Act.put, hl] using this
        rw [e2]
      · have hl' : ¬ d < b.tmps.size := hs ▸ hl
        simp [Act.put, Array.setIfInBounds, hl']
  unfold Oper.wp at *
  rw [he] at h
  generalize (execOp b.eval o).run P W = r at *
  cases r with
  | ok n w' =>
    cases n <;> simp only [Oper.upon] at h ⊢
    case value u => obtain ⟨v, e, hx⟩ := h; rw [same u v e]; exact hK v w' hx
    case skip => obtain ⟨v, e, hx⟩ := h; rw [same undef v e]; exact hK v w' hx
    case defer d =>
      obtain ⟨v, e, _⟩ := h
      have := congrArg (fun x : Act => x.defers.length) e
      exfalso
      have l1 : ∀ (x : Act) u, (x.put o.dst u).defers = x.defers := fun x u => by cases o.dst <;> rfl
      simp only [l1] at this
      simp at this
    case enter f args =>
      refine Calls.mono h fun e w'' he => ?_
      cases e with
      | returned u => obtain ⟨v, e, hx⟩ := he; show K _ _; rw [same u v e]; exact hK v w'' hx
      | panicked c => exact he.elim
      | outgrown => obtain ⟨_, _, hF⟩ := he; exact hF.elim
    case row row args => exact Rows.mono h fun u w'' he => by obtain ⟨v, e, hx⟩ := he; rw [same u v e]; exact hK v w'' hx
  | halt x w' =>
    cases x <;> simp only [Oper.upon] at h ⊢
/-- the side conditions: l0 what came up before, M the operations that make memory (in the text's order), dp what each of them looks at -/
def mkB (md : Region.Mode) (ops : Array Oper) (n : Nat) (l0 : Array Bool) (dp : Nat → List Nat) : List Nat → List Nat → Bool
  | _, [] => true
  | pre, i :: rest =>
    (match ops[i]? with
     | none => false
     | some o => decide (i < n) && !l0.getD i true && !pre.contains i && !rest.contains i && o.guard.isNone
        && (o.after.all fun e => !Region.binds md e || l0.getD e.on false || pre.contains e.on)
        && ((dp i).all fun d => (pre.contains d) && Region.waitsFor md ops i d)
        && ((pre ++ rest).all fun j => match dstOf ops j with
            | none => true
            | some d => !(o.looksAt ops).contains d || (dp i).contains j)
        && (rest.all fun j => match dstOf ops i with
            | none => true
            | some d => dstOf ops j != some d)
        && (match dstOf ops i with
            | none => true
            | some d => !(o.looksAt ops).contains d)) && mkB md ops n l0 dp (pre ++ [i]) rest
structure MkOne (md : Region.Mode) (ops : Array Oper) (n : Nat) (l0 : Array Bool) (dp : Nat → List Nat) (pre : List Nat) (i : Nat) (rest : List Nat) (o : Oper) : Prop where
  get : ops[i]? = some o
  lt : i < n
  un : l0.getD i true = false
  npre : i ∉ pre
  nrest : i ∉ rest
  guard : o.guard = none
  edges : ∀ e ∈ o.after, Region.binds md e = true → l0.getD e.on false = true ∨ e.on ∈ pre
  deps : ∀ d ∈ dp i, d ∈ pre ∧ Region.waitsFor md ops i d = true
  looks : ∀ j ∈ pre ++ rest, ∀ d, dstOf ops j = some d → d ∈ o.looksAt ops → j ∈ dp i
  dsts : ∀ j ∈ rest, ∀ d, dstOf ops i = some d → dstOf ops j ≠ some d
  self : ∀ d, dstOf ops i = some d → d ∉ o.looksAt ops
theorem mkB_one {n : Nat} {l0 : Array Bool} {dp : Nat → List Nat} : ∀ (M pre : List Nat), mkB md ops n l0 dp pre M = true → ∀ (p : List Nat) (i : Nat) (r : List Nat), M = p ++ i :: r → ∃ o, MkOne md ops n l0 dp (pre ++ p) i r o
  | [], pre, _, p, i, r, h => by cases p <;> simp at h
  | x :: M, pre, hB, p, i, r, h => by
    unfold mkB at hB
    rw [Bool.and_eq_true] at hB
    obtain ⟨h1, h2⟩ := hB
    cases p with
    | cons y p =>
      simp only [List.cons_append, List.cons.injEq] at h
      obtain ⟨rfl, h⟩ := h
      have := mkB_one M (pre ++ [x]) h2 p i r h
      simpa using this
    | nil =>
      simp only [List.nil_append, List.cons.injEq] at h
      obtain ⟨rfl, rfl⟩ := h
      rw [List.append_nil]
      cases ho : ops[x]? with
      | none => rw [ho] at h1; cases h1
      | some o =>
        rw [ho] at h1
        simp only [Bool.and_eq_true, decide_eq_true_eq, Bool.not_eq_true', List.all_eq_true, Bool.or_eq_true, Array.all_eq_true_iff_forall_mem, List.contains_eq_mem, decide_eq_false_iff_not, Option.isNone_iff_eq_none] at h1
        obtain ⟨⟨⟨⟨⟨⟨⟨⟨⟨a1, a2⟩, a3⟩, a4⟩, a5⟩, a6⟩, a7⟩, a8⟩, a9⟩, a10⟩ := h1
        refine ⟨o, ho, a1, a2, a3, a4, a5, fun e he hb => ?_, a7, fun j hj d hd hl => ?_, fun j hj d hd => ?_, fun d hd => ?_⟩
        · rcases a6 e he with (h | h) | h
          · rw [hb] at h; cases h
          · exact .inl h
          · exact .inr h
        · have := a8 j hj
          rw [hd] at this
          simp only [Bool.or_eq_true, Bool.not_eq_true', List.contains_eq_mem, decide_eq_false_iff_not, decide_eq_true_eq] at this
          exact this.resolve_left (fun h => h hl)
        · have := a9 j hj
          rw [hd] at this
          simpa using this
        · rw [hd] at a10
          simpa using a10
theorem nodup_split {M : List Nat} (h : ∀ p i r, M = p ++ i :: r → i ∉ r) : M.Nodup := by
  induction M with
  | nil => exact List.nodup_nil
  | cons x M ih => exact List.nodup_cons.2 ⟨h [] x M rfl, ih fun p i r e => h (x :: p) i r (by rw [e]; rfl)⟩
theorem putsM_congr {vs vs' : Nat → Value} : ∀ (l : List Nat) (a : Act), (∀ i ∈ l, vs i = vs' i) → putsM ops vs l a = putsM ops vs' l a
  | [], _, _ => rfl
  | i :: l, a, h => by
    show putsM ops vs l (a.put _ (vs i)) = putsM ops vs' l (a.put _ (vs' i))
    rw [h i (by simp)]
    exact putsM_congr l _ fun j hj => h j (by simp [hj])
theorem getD_tf {l : Array Bool} {i : Nat} (h : l.getD i false = true) : l.getD i true = true := by
  rcases Nat.lt_or_ge i l.size with h' | h'
  · simp [h'] at h ⊢; exact h
  · simp [Array.getElem?_eq_none h'] at h
/-- **the memory of a region's head is made in whatever order** -/
theorem headH_mk {n g : Nat} {L : Array Bool → Act → World → Prop} {l0 : Array Bool} {a1 : Act} {w : World} (M : List Nat) (dp : Nat → List Nat) (R : Nat → Value → List Value → World → Prop)
    (hB : (Region.noSelect ops && Region.sinkB md ops n && Region.chainB md ops n && decide (n < ops.size) && Region.headB md ops n l0 && mkB md ops n l0 dp [] M && (List.range n).all fun i => l0.getD i false || M.contains i) = true)
    (hst : ∀ i v ds W W', R i v ds W → Below W.heap.size W W' → R i v ds W') (hS : ∀ W, Below w.heap.size w W → S W)
    (step : ∀ i ∈ M, ∀ vs W o, ops[i]? = some o → Below w.heap.size w W → (∀ d ∈ dp i, R d (vs d) ((dp d).map vs) W) → o.wp P (putsM ops vs (dp i) a1) W (fun a' W' => ∃ v, a' = (putsM ops vs (dp i) a1).put o.dst v ∧ Below W.heap.size W W' ∧ R i v ((dp i).map vs) W') (fun _ _ _ => False))
    (fin : ∀ vs W, Below w.heap.size w W → (∀ i ∈ M, R i (vs i) ((dp i).map vs) W) → headH P md ops Q S n L g (setAll M l0) (putsM ops vs M a1) W) :
    headH P md ops Q S n L (M.length + g) l0 a1 w := by
  simp only [Bool.and_eq_true, decide_eq_true_eq] at hB
  obtain ⟨⟨⟨⟨⟨⟨b1, b2⟩, b3⟩, b4⟩, b5⟩, b6⟩, b7⟩ := hB
  have hsel := Region.noSelect_spec b1
  have one := mkB_one M [] b6
  have inv0 := headB_inv b5
  have hnd : M.Nodup := nodup_split fun p i r e => (one p i r e).elim fun o h => h.nrest
  have at_ : ∀ i ∈ M, ∃ p r o, M = p ++ i :: r ∧ MkOne md ops n l0 dp p i r o := fun i hi => by
    obtain ⟨p, r, e⟩ := List.append_of_mem hi
    obtain ⟨o, h⟩ := one p i r e
    exact ⟨p, r, o, e, by simpa using h⟩
  have hsz : ∀ i ∈ M, i < l0.size := fun i hi => by
    obtain ⟨p, r, o, _, h⟩ := at_ i hi
    have := h.lt
    rw [inv0.size]
    omega
  have apartM : ∀ i ∈ M, ∀ j ∈ M, i ≠ j → ∀ d, dstOf ops i = some d → dstOf ops j ≠ some d := fun i hi j hj hne d hd hd' => by
    obtain ⟨p, r, o, e, h⟩ := at_ i hi
    rw [e] at hj
    rcases List.mem_append.1 hj with hj | hj
    · obtain ⟨p1, r1, e1⟩ := List.append_of_mem hj
      obtain ⟨o', h'⟩ := one p1 j (r1 ++ i :: r) (by rw [e, e1]; simp)
      exact h'.dsts i (by simp) d hd' hd
    · rcases List.mem_cons.1 hj with hj | hj
      · exact hne hj.symm
      · exact h.dsts j hj d hd hd'
  have depM : ∀ i ∈ M, ∀ d ∈ dp i, d ∈ M := fun i hi d hd => by
    obtain ⟨p, r, o, e, h⟩ := at_ i hi
    rw [e]
    exact List.mem_append_left _ (h.deps d hd).1
  have main : ∀ r D vs W, D.length + r = M.length → D.Nodup → (∀ x ∈ D, x ∈ M) → (∀ i ∈ D, ∀ d ∈ dp i, d ∈ D) → Below w.heap.size w W → (∀ j ∈ D, R j (vs j) ((dp j).map vs) W) → HeadInv md ops n (setAll D l0) →
      headH P md ops Q S n L (r + g) (setAll D l0) (putsM ops vs D a1) W := by
    intro r
    induction r with
    | zero =>
      intro D vs W hl hD hDM hcl hb hR _
      have hsub : ∀ x ∈ M, x ∈ D := fun x hx => Classical.byContradiction fun hn => by
        have := (List.nodup_cons.2 ⟨hn, hD⟩).length_le_of_subset (l₂ := M) (fun y hy => by
          rcases List.mem_cons.1 hy with rfl | hy
          · exact hx
          · exact hDM y hy)
        simp at this
        omega
      have hperm : D.Perm M := (List.perm_ext_iff_of_nodup hD hnd).2 fun x => ⟨hDM x, hsub x⟩
      rw [Nat.zero_add, setAll_perm hperm, putsM_perm vs hperm (fun i hi j hj => apartM i (hDM i hi) j (hDM j hj))]
      exact fin vs W hb fun i hi => hR i (hsub i hi)
    | succ r ih =>
      intro D vs W hl hD hDM hcl hb hR inv
      have hun : ∃ i p q, M = p ++ i :: q ∧ i ∉ D ∧ ∀ x ∈ p, x ∈ D := by
        cases hf : M.find? (fun i => !D.contains i) with
        | none =>
          exfalso
          have hall := List.find?_eq_none.1 hf
          have := hnd.length_le_of_subset (l₂ := D) (fun x hx => by simpa using hall x hx)
          omega
        | some i =>
          obtain ⟨h1, p, q, e, h2⟩ := List.find?_eq_some_iff_append.1 hf
          exact ⟨i, p, q, e, by simpa using h1, fun x hx => by simpa using h2 x hx⟩
      obtain ⟨i0, p0, q0, e0, hi0, hp0⟩ := hun
      obtain ⟨o0, m0⟩ := one p0 i0 q0 e0
      rw [List.nil_append] at m0
      have un0 : (setAll D l0).getD i0 true = false := by rw [setAll_mem D l0 true hi0]; exact m0.un
      rw [show r + 1 + g = (r + g) + 1 by omega]
      refine ⟨fun hnil => ?_, fun i hi => ?_⟩
      · have : i0 ∈ Region.ready md ops (setAll D l0) := mem_ready.2 ⟨un0, o0, m0.get, fun e he hb => by
          rcases m0.edges e he hb with h | h
          · exact setAll_true D l0 (.inl h)
          · exact setAll_true D l0 (.inr ⟨hp0 _ h, hsz _ (hDM _ (hp0 _ h))⟩)⟩
        rw [hnil] at this
        cases this
      · have hin : i < n := Nat.lt_of_not_le fun h => tail_waits b2 b3 b4 inv _ i0 rfl m0.lt un0 i h hi
        obtain ⟨hui, oi, hoi, hall⟩ := mem_ready.1 hi
        have hiD : i ∉ D := fun h => by
          have := getD_tf (setAll_true D l0 (.inr ⟨h, hsz i (hDM i h)⟩))
          rw [this] at hui
          cases hui
        have hiM : i ∈ M := by
          have h1 := List.all_eq_true.1 b7 i (List.mem_range.2 hin)
          rw [Bool.or_eq_true] at h1
          rcases h1 with h1 | h1
          · rw [setAll_mem D l0 true hiD] at hui
            rw [getD_tf h1] at hui
            cases hui
          · simpa using h1
        obtain ⟨p, q, o, e, m⟩ := at_ i hiM
        have : o = oi := Option.some.inj (m.get.symm.trans hoi)
        subst this
        have hdD : ∀ d ∈ dp i, d ∈ D := fun d hd => Classical.byContradiction fun hn => by
          obtain ⟨hdp, hw⟩ := m.deps d hd
          obtain ⟨o', ho', e', he', hb', hon⟩ := Region.waitsFor_spec hw
          have : o' = o := Option.some.inj (ho'.symm.trans hoi)
          subst this
          have h1 := hall e' he' hb'
          obtain ⟨_, _, _, _, md'⟩ := at_ d (depM i hiM d hd)
          rw [hon, setAll_mem D l0 false hn, getD_both md'.un] at h1
          cases h1
        refine ⟨hin, ?_⟩
        unfold wpOp
        simp only [hoi]
        have hw : Region.wanted o (yielded ops (putsM ops vs D a1).tmps) = true := by simp [Region.wanted, m.guard]
        rw [if_pos hw]
        have hdst : dstOf ops i = o.dst := by unfold dstOf; rw [hoi]; rfl
        refine .inl (Oper.wp_transfer (a := putsM ops vs (dp i) a1) (X := fun v W' => Below W.heap.size W W' ∧ R i v ((dp i).map vs) W') ?_ (by rw [putsM_size, putsM_size]) (step i hiM vs W o hoi hb fun d hd => hR d (hdD d hd)) fun v W' hX => ?_)
        · refine execOp_congr o (fun cs b => hsel i o cs b hoi) fun x hx => ?_
          by_cases hex : ∃ j d, j ∈ D ∧ dstOf ops j = some d ∧ x = .tmp d
          · obtain ⟨j, d, hjD, hjd, rfl⟩ := hex
            have hji : j ≠ i := fun e => hiD (e ▸ hjD)
            have hjdp : j ∈ dp i := m.looks j (by
              have := hDM j hjD
              rw [e] at this
              rcases List.mem_append.1 this with h | h
              · exact List.mem_append_left _ h
              · rcases List.mem_cons.1 h with h | h
                · exact absurd h hji
                · exact List.mem_append_right _ h) d hjd (List.mem_append_left _ (List.mem_filterMap.2 ⟨.tmp d, by simpa using hx, rfl⟩))
            rw [putsM_eval_yes vs hjd (dp i) a1 hjdp (fun a ha b hb => apartM a (depM i hiM a ha) b (depM i hiM b hb)), putsM_eval_yes vs hjd D a1 hjD (fun a ha b hb => apartM a (hDM a ha) b (hDM b hb))]
          · rw [putsM_eval_no vs x (dp i) a1 (fun j hj d hd hxd => hex ⟨j, d, hdD j hj, hd, hxd⟩), putsM_eval_no vs x D a1 (fun j hj d hd hxd => hex ⟨j, d, hj, hd, hxd⟩)]
        · have hbW : Below w.heap.size w W' := btrans hb hX.1
          refine ⟨hS W' hbW, ?_⟩
          have hne : ∀ j ∈ D, j ≠ i := fun j hj e => hiD (e ▸ hj)
          have e1 : (putsM ops vs D a1).put o.dst v = putsM ops (fun k => if k = i then v else vs k) (D ++ [i]) a1 := by
            rw [putsM_snoc, hdst, if_pos rfl, putsM_congr D a1 (fun j hj => (if_neg (hne j hj)).symm)]
          rw [e1, ← setAll_snoc]
          have mapD : ∀ l : List Nat, (∀ d ∈ l, d ∈ D) → l.map (fun k => if k = i then v else vs k) = l.map vs := fun l hl => List.map_congr_left fun d hd => if_neg (hne d (hl d hd))
          refine ih (D ++ [i]) _ W' (by simp; omega) ?_ ?_ ?_ hbW ?_ ?_
          · rw [List.nodup_append]
            exact ⟨hD, by simp, fun a ha b hb => by rw [List.mem_singleton.1 hb]; exact hne a ha⟩
          · intro x hx
            rcases List.mem_append.1 hx with hx | hx
            · exact hDM x hx
            · rw [List.mem_singleton.1 hx]; exact hiM
          · intro j hj d hd
            rcases List.mem_append.1 hj with hj | hj
            · exact List.mem_append_left _ (hcl j hj d hd)
            · rw [List.mem_singleton.1 hj] at hd
              exact List.mem_append_left _ (hdD d hd)
          · intro j hj
            rcases List.mem_append.1 hj with hj | hj
            · rw [if_neg (hne j hj), mapD _ (hcl j hj)]
              exact hst _ _ _ _ _ (hR j hj) hX.1
            · rw [List.mem_singleton.1 hj, if_pos rfl, mapD _ hdD]
              exact hX.2
          · rw [setAll_snoc]
            exact inv.set hi hin
  exact main M.length [] (fun _ => undef) w (by simp) List.nodup_nil (fun x hx => by cases hx) (fun x hx => by cases hx) (Below.refl _ _) (fun x hx => by cases hx) inv0
/-- the same puts, the slots told by a plain function -/
def putsD (ds : Nat → Option Tmp) (vs : Nat → Value) : List Nat → Act → Act
  | [], a => a
  | i :: l, a => putsD ds vs l (a.put (ds i) (vs i))
theorem putsD_eq {ds : Nat → Option Tmp} (vs : Nat → Value) : ∀ (l : List Nat) (a : Act), (∀ i ∈ l, dstOf ops i = ds i) → putsM ops vs l a = putsD ds vs l a
  | [], _, _ => rfl
  | i :: l, a, h => by
    show putsM ops vs l (a.put (dstOf ops i) (vs i)) = putsD ds vs l (a.put (ds i) (vs i))
    rw [h i (by simp)]
    exact putsD_eq vs l _ fun j hj => h j (by simp [hj])
/-- one such operation: from what it looks at to what it leaves -/
def MkStep (P : Program) (R : Nat → Value → List Value → World → Prop) (dp : Nat → List Nat) (ds : Nat → Option Tmp) (a1 : Act) (w : World) (i : Nat) (o : Oper) : Prop :=
  ∀ (vs : Nat → Value) (W : World) (K : Act → World → Prop), Below w.heap.size w W → (∀ d ∈ dp i, R d (vs d) ((dp d).map vs) W) →
    Hid (∀ v W', Below W.heap.size W W' → R i v ((dp i).map vs) W' → K ((putsD ds vs (dp i) a1).put (ds i) v) W') → o.wp P (putsD ds vs (dp i) a1) W K (fun _ _ _ => False)
def AllMk (P : Program) (ops : Array Oper) (R : Nat → Value → List Value → World → Prop) (dp : Nat → List Nat) (ds : Nat → Option Tmp) (a1 : Act) (w : World) (M : List Nat) : Prop := ∀ i ∈ M, ∀ o, ops[i]? = some o → MkStep P R dp ds a1 w i o
section
variable {R : Nat → Value → List Value → World → Prop} {dp : Nat → List Nat} {ds : Nat → Option Tmp} {a1 : Act} {w : World}
theorem AllMk.nil : AllMk P ops R dp ds a1 w [] := fun i hi => by cases hi
theorem AllMk.cons {i : Nat} {o : Oper} {M : List Nat} (ho : ops[i]? = some o) (h : MkStep P R dp ds a1 w i o) (hs : AllMk P ops R dp ds a1 w M) : AllMk P ops R dp ds a1 w (i :: M) := fun j hj o' ho' => by
  rcases List.mem_cons.1 hj with rfl | hj
  · have : o' = o := Option.some.inj (ho'.symm.trans ho)
    subst this
    exact h
  · exact hs j hj o' ho'
theorem headH_mks {n g : Nat} {L : Array Bool → Act → World → Prop} {l0 : Array Bool} (M : List Nat) (dp : Nat → List Nat) (ds : Nat → Option Tmp) (R : Nat → Value → List Value → World → Prop)
    (hB : (Region.noSelect ops && Region.sinkB md ops n && Region.chainB md ops n && decide (n < ops.size) && Region.headB md ops n l0 && mkB md ops n l0 dp [] M && (List.range n).all fun i => l0.getD i false || M.contains i) = true)
    (hD : (M.all fun i => (dstOf ops i == ds i) && (dp i).all fun j => M.contains j) = true)
    (hst : ∀ i v ds W W', R i v ds W → Below W.heap.size W W' → R i v ds W') (hS : ∀ W, Below w.heap.size w W → S W)
    (step : AllMk P ops R dp ds a1 w M)
    (fin : ∀ vs W, Below w.heap.size w W → (∀ i ∈ M, R i (vs i) ((dp i).map vs) W) → headH P md ops Q S n L g (setAll M l0) (putsD ds vs M a1) W) :
    headH P md ops Q S n L (M.length + g) l0 a1 w := by
  simp only [List.all_eq_true, Bool.and_eq_true, beq_iff_eq, List.contains_eq_mem, decide_eq_true_eq] at hD
  refine headH_mk M dp R hB hst hS (fun i hi vs W o ho hb hR => ?_) (fun vs W hb hR => by rw [putsD_eq vs M a1 fun j hj => (hD j hj).1]; exact fin vs W hb hR)
  rw [putsD_eq vs (dp i) a1 fun j hj => (hD j ((hD i hi).2 j hj)).1]
  have hdst : o.dst = ds i := by have := (hD i hi).1; unfold dstOf at this; rw [ho] at this; exact this
  exact step i hi o ho vs W _ hb hR fun v W' h1 h2 => ⟨v, by rw [hdst], h1, h2⟩
end
end
end Go.Proofs.Ythadgdmooacccaa
