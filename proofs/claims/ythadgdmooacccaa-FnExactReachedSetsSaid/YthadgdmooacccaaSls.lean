/- Rows of the call's own whose elements are slices of numbers, or truth values; rows of different types are different rows; 'l01Own'. No condition. -/
import Derived.Test.YthadgdmooacccaaStep
import Derived.Test.YthadgdmooacccaaLawKit
namespace Go.Proofs.Ythadgdmooacccaa
set_option linter.unusedSimpArgs false
set_option linter.unusedVariables false
set_option linter.unusedSectionVars false
open Go.RowKit
/-- rows of different types lie in different blocks -/
theorem own_ne {w : World} {base base' : Nat} {e e' : TypeId} {s s' : Nat} {v v' : Value} {l l' : Nat} {xs xs' : List Value} (h : w.ownsRow base e s v l xs) (h' : w.ownsRow base' e' s' v' l' xs') (he : e ≠ e') : ∀ k, v.ownBlock = some k → v'.ownBlock ≠ some k := fun k hk hk' => by
  rcases h.2 with ⟨h1, _⟩ | ⟨g, cap, cur, h1, _, hg, _⟩
  · rw [h1] at hk; simp [Value.ownBlock] at hk
  · rcases h'.2 with ⟨h2, _⟩ | ⟨g', cap', cur', h2, _, hg', _⟩
    · rw [h2] at hk'; simp [Value.ownBlock] at hk'
    · rw [h1] at hk
      rw [h2] at hk'
      simp [Value.ownBlock] at hk hk'
      subst hk
      subst hk'
      rw [hg] at hg'
      simp at hg'
      exact he hg'.2
theorem own_grow {w w' : World} {base : Nat} {e : TypeId} {s : Nat} {v : Value} {l : Nat} {xs : List Value} {row : Option Nat} (h : w.ownsRow base e s v l xs) (hg : w.grownBy w' row) (hr : ∀ k, v.ownBlock = some k → row ≠ some k) : w'.ownsRow base e s v l xs :=
  own_keep h (S := fun k => row ≠ some k) hr (keep_grown hg fun _ hk hs => hs hk)
theorem OwnInts.grow {w w' : World} {base : Nat} {v : Value} {xs : List Int} {row : Option Nat} (h : OwnInts w base v xs) (hg : w.grownBy w' row) (hr : ∀ k, v.ownBlock = some k → row ≠ some k) : OwnInts w' base v xs := own_grow h hg hr
/-- a slice of numbers, as a value -/
structure Sl where
  A : Option Addr
  c : Nat
  xs : List Int
instance : Inhabited Sl := ⟨⟨none, 0, []⟩⟩
def Sl.v (s : Sl) : Value := .slice s.A s.xs.length s.c
def OwnSls (w : World) (base : Nat) (v : Value) (qs : List Sl) : Prop := w.ownsRow base 23 1 v qs.length (qs.map Sl.v)
def ElsOk (w : World) (base : Nat) (qs : List Sl) : Prop := ∀ s ∈ qs, OwnInts w base s.v s.xs
theorem OwnSls.keep {S : Nat → Prop} {w w' : World} {base : Nat} {v : Value} {qs : List Sl} (h : OwnSls w base v qs) (hs : ∀ k, v.ownBlock = some k → S k) (hk : Keep S w w') : OwnSls w' base v qs := own_keep h hs hk
theorem OwnSls.below {w w1 : World} {base : Nat} {v : Value} {qs : List Sl} (h : OwnSls w base v qs) (hb : Below w.heap.size w w1) : OwnSls w1 base v qs := h.keep (S := fun _ => True) (fun _ _ => trivial) (kb hb)
theorem OwnSls.grow {w w' : World} {base : Nat} {v : Value} {xs : List Sl} {row : Option Nat} (h : OwnSls w base v xs) (hg : w.grownBy w' row) (hr : ∀ k, v.ownBlock = some k → row ≠ some k) : OwnSls w' base v xs := own_grow h hg hr
theorem OwnSls.lt {w : World} {base : Nat} {v : Value} {xs : List Sl} (h : OwnSls w base v xs) : ∀ k, v.ownBlock = some k → base ≤ k ∧ k < w.heap.size := World.ownsRow.lt h
theorem OwnSls.mono {w : World} {base base' : Nat} {v : Value} {xs : List Sl} (h : OwnSls w base v xs) (hb : base' ≤ base) : OwnSls w base' v xs := own_mono h hb
theorem ElsOk.below {w w1 : World} {base : Nat} {qs : List Sl} (h : ElsOk w base qs) (hb : Below w.heap.size w w1) : ElsOk w1 base qs := fun s hs => (h s hs).below hb
theorem ElsOk.keep {S : Nat → Prop} {w w1 : World} {base : Nat} {qs : List Sl} (h : ElsOk w base qs) (hs : ∀ k, base ≤ k → S k) (hk : Keep S w w1) : ElsOk w1 base qs := fun s hm => (h s hm).keep (fun k hv => hs k ((h s hm).lt k hv).1) hk
/-- rows of numbers stay when a row of another type grows -/
theorem ElsOk.growSl {w w' : World} {base base' : Nat} {qs : List Sl} {v : Value} {ps : List Sl} (h : ElsOk w base qs) (h' : OwnSls w base' v ps) (hg : w.grownBy w' v.ownBlock) : ElsOk w' base qs := fun s hs => (h s hs).grow hg (own_ne (h s hs) h' (by decide))
theorem ElsOk.snoc {w : World} {base : Nat} {qs : List Sl} {s : Sl} (h : ElsOk w base qs) (hs : OwnInts w base s.v s.xs) : ElsOk w base (qs ++ [s]) := fun x hx => by
  rcases List.mem_append.1 hx with hx | hx
  · exact h x hx
  · rw [List.mem_singleton.1 hx]; exact hs
theorem ElsOk.nil (w : World) (base : Nat) : ElsOk w base [] := fun s hs => by cases hs
theorem OwnSls.at_ {w : World} {base : Nat} {v : Value} {qs : List Sl} (h : OwnSls w base v qs) : ∃ A c, v = .slice A qs.length c ∧ ∀ k s, qs[k]? = some s → ∃ b, A = some ⟨b, 0, none⟩ ∧ w.cell? ⟨b, k, none⟩ = some s.v := by
  unfold OwnSls at h
  have h0 := h
  rcases h.2 with ⟨rfl, hn⟩ | ⟨g, cap, cur, rfl, _⟩
  · exact ⟨none, 0, by rw [hn], fun k s hk => by rw [List.eq_nil_of_length_eq_zero hn] at hk; simp at hk⟩
  · refine ⟨_, cap, rfl, fun k s hk => ⟨g, rfl, ?_⟩⟩
    have hl : k < qs.length := (List.getElem?_eq_some_iff.1 hk).1
    exact (h0.cellAt k (by omega)).trans (by rw [List.getElem?_map, hk]; rfl)
theorem OwnSls.cell {w : World} {base b n c : Nat} {qs : List Sl} (h : OwnSls w base (.slice (some ⟨b, 0, none⟩) n c) qs) {k : Nat} {s : Sl} (hk : qs[k]? = some s) : w.cell? ⟨b, k, none⟩ = some (.slice s.A s.xs.length s.c) := by
  obtain ⟨A, c', e, g⟩ := h.at_
  obtain ⟨b', rfl, q⟩ := g k s hk
  simp only [Value.slice.injEq, Option.some.injEq, Addr.mk.injEq, and_true] at e
  rw [e.1]
  exact q
theorem OwnSls.one (w : World) (base : Nat) (hb : base ≤ w.heap.size) (s : Sl) : OwnSls (w.alloc (.cells #[.slice s.A s.xs.length s.c] 23)) base (.slice (some ⟨w.heap.size, 0, none⟩) 1 1) [s] :=
  ⟨rfl, .inr ⟨w.heap.size, 1, #[.slice s.A s.xs.length s.c], rfl, hb, heap_alloc_new w _, Nat.le_refl _, by decide, rfl, rfl⟩⟩
theorem OwnSls.nil (w : World) (base : Nat) : OwnSls w base (.slice none 0 0) [] := World.ownsRow_nil _ _ _ _
theorem info_sl : (Try.prog.info? 23).map (fun i => (i.zero, i.size, i.bytes)) = some (some (.slice none 0 0), 1, 24) := by kernel_rfl
/-- out = append(out, s) -/
theorem wpList_push_sl (w : World) {ops : Array Oper} {rest : List Oper} {o : Oper} {a : Act} {Q : Exit → Act → World → Prop} (hgd : o.guard = none) (s x : Operand)
    (ho : o.op = .call { callee := .builtin .append, args := #[s, x], argTypes := #[47, 47] })
    (base : Nat) (v : Value) (xs : List Sl) (hs : a.eval s = v) (hown : OwnSls w base v xs) (ad : Addr) (y : Sl) (hx : a.eval x = .slice (some ad) 1 1) (hy : w.cell? ad = some (.slice y.A y.xs.length y.c))
    (hn : xs.length ≤ 4294967296) (hbase : base ≤ w.heap.size)
    (hK : ∀ v' w', OwnSls w' base v' (xs ++ [y]) → w.grownBy w' v.ownBlock → (v'.ownBlock = v.ownBlock ∨ v'.ownBlock = some w.heap.size) → wpList Try.prog ops Q rest (a.put o.dst v') w') : wpList Try.prog ops Q (o :: rest) a w := by
  obtain ⟨i0, hi, hz0, hz1, hz2⟩ := info_parts info_sl
  refine wpList_append_see w hgd s x 47 ho base 23 i0 (.slice none 0 0) 1 24 Try.underlying47 hi hz0 hz1 hz2 rfl (by decide) v xs.length (xs.map Sl.v) hs hown (some ad) 1 1 [y.v] hx rfl
    (.inr ⟨ad, rfl, fun j u hj => ?_⟩) (fun u hu => by simp at hu; subst hu; rfl) (by unfold maxLen; omega) (by omega) hbase (fun v' w' h1 h2 h3 => hK v' w' ?_ h2 h3)
  · match j, hj with
    | 0, hj => simp at hj; subst hj; rw [show ad.add 0 = ad by cases ad; unfold Addr.add; split <;> simp_all]; exact hy
  · show w'.ownsRow base 23 1 v' (xs ++ [y]).length ((xs ++ [y]).map Sl.v)
    rw [List.length_append, List.map_append]
    exact h1
/-! ### Truth values -/
def OwnBools (w : World) (base : Nat) (v : Value) (bs : List Bool) : Prop := w.ownsRow base 4 1 v bs.length (bs.map Value.bool)
theorem OwnBools.keep {S : Nat → Prop} {w w' : World} {base : Nat} {v : Value} {qs : List Bool} (h : OwnBools w base v qs) (hs : ∀ k, v.ownBlock = some k → S k) (hk : Keep S w w') : OwnBools w' base v qs := own_keep h hs hk
theorem OwnBools.below {w w1 : World} {base : Nat} {v : Value} {qs : List Bool} (h : OwnBools w base v qs) (hb : Below w.heap.size w w1) : OwnBools w1 base v qs := h.keep (S := fun _ => True) (fun _ _ => trivial) (kb hb)
theorem OwnBools.grow {w w' : World} {base : Nat} {v : Value} {xs : List Bool} {row : Option Nat} (h : OwnBools w base v xs) (hg : w.grownBy w' row) (hr : ∀ k, v.ownBlock = some k → row ≠ some k) : OwnBools w' base v xs := own_grow h hg hr
theorem OwnBools.lt {w : World} {base : Nat} {v : Value} {xs : List Bool} (h : OwnBools w base v xs) : ∀ k, v.ownBlock = some k → base ≤ k ∧ k < w.heap.size := World.ownsRow.lt h
theorem OwnBools.at_ {w : World} {base g n c : Nat} {xs : List Bool} (h : OwnBools w base (.slice (some ⟨g, 0, none⟩) n c) xs) {k : Nat} {x : Bool} (hk : xs[k]? = some x) : w.cell? ⟨g, k, none⟩ = some (.bool x) := by
  have hl : k < xs.length := (List.getElem?_eq_some_iff.1 hk).1
  unfold OwnBools at h
  obtain rfl := own_slice_len h
  exact (h.cellAt k (by omega)).trans (by rw [List.getElem?_map, hk]; rfl)
theorem OwnBools.free {w : World} {base g n c : Nat} {xs : List Bool} (h : OwnBools w base (.slice (some ⟨g, 0, none⟩) n c) xs) (j : Nat) : w.frozen? ⟨g, j, none⟩ = false := own_free h j
theorem OwnBools.put {w : World} {base g n c : Nat} {xs : List Bool} (h : OwnBools w base (.slice (some ⟨g, 0, none⟩) n c) xs) (k : Nat) (x : Bool) : OwnBools (w.setCell ⟨g, k, none⟩ (.bool x)) base (.slice (some ⟨g, 0, none⟩) n c) (xs.set k x) := by
  unfold OwnBools at h ⊢
  obtain rfl := own_slice_len h
  rw [List.length_set, List.map_set]
  exact (h.stored k _).1
theorem info_bool : (Try.prog.info? 4).map (fun i => (i.zero, i.size, i.bytes)) = some (some (.bool false), 1, 1) := by kernel_rfl
/-! ### A copy -/
set_option maxHeartbeats 1000000 in
theorem l01Own_c (A : Option Addr) (c : Nat) (xs : List Int) (w : World) (h : SeeInts w A xs) (hA : NilOk A c) (hn : xs.length ≤ 2097152) :
    Calls Try.prog 108 #[.slice A xs.length c] w fun e w' => ∃ v, e = .returned v ∧ OwnInts w' w.heap.size v xs ∧ Below w.heap.size w w' := by
  obtain ⟨i0, hi, hz0, hz1, hz2⟩ := info_parts info_int
  have k0 : Below w.heap.size w (w.alloc (.cells #[] 2)) := by go_grown
  have hs : SeeCells (w.alloc (.cells #[] 2)) A c (xs.map (Value.int .i64)) := by
    cases A with
    | none =>
      refine .inl ⟨rfl, hA rfl, ?_⟩
      cases xs with
      | nil => rfl
      | cons x xs => obtain ⟨b, o, e, _⟩ := h (by simp); cases e
    | some ad =>
      refine .inr ⟨ad, rfl, fun j u hu => ?_⟩
      have hj : j < xs.length := by simpa using (List.getElem?_eq_some_iff.1 hu).1
      obtain ⟨b, o, x, e, hx, q⟩ := (h.below k0).at_ hj
      obtain rfl := Option.some.inj e
      rw [List.getElem?_map, hx] at hu
      obtain rfl := Option.some.inj hu
      rw [add_lit]
      exact q
  have ho : OwnInts (w.alloc (.cells #[] 2)) w.heap.size (.slice (some ⟨w.heap.size, 0, none⟩) 0 0) [] := World.ownsRow_made w #[] 0 (Nat.le_refl _) (by decide) rfl
  go_enter Try.func108, Try.ntmps108
  go_wp2_with (at_builtin; refine wpList_append_see _ rfl (.tmp 3) (.tmp 4) 23 rfl w.heap.size 2 i0 (.int .i64 0) 1 8 Try.underlying23 hi hz0 hz1 hz2 rfl (by decide) _ 0 [] rfl ho A xs.length c (xs.map (Value.int .i64)) rfl (by simp) hs (by intro u hu; obtain ⟨x, _, rfl⟩ := List.mem_map.1 hu; rfl) (by unfold maxLen; omega) (by omega) (by go_size) ?_; intro v' w1 hown' hgrow hv')
  have hb1 : Below w.heap.size w w1 := k0.grown hgrow (by simp) (fun j hj => by obtain rfl := Option.some.inj hj; exact Nat.le_refl _)
  rw [Nat.zero_add, List.nil_append] at hown'
  go_wp2
  go_returns
  exact ⟨_, rfl, hown', hb1⟩
end Go.Proofs.Ythadgdmooacccaa
