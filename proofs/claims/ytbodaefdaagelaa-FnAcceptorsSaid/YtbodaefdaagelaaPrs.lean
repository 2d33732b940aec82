/- The queue of 'differ': pairs of points with words, as they lie in memory. No condition. -/
import Derived.Test.YtbodaefdaagelaaSearch
import Derived.Test.YtbodaefdaagelaaFirst
namespace Go.Proofs.Ytbodaefdaagelaa
set_option linter.unusedSimpArgs false
set_option linter.unusedVariables false
set_option linter.unusedSectionVars false
open Go.RowKit
/-- an element as it lies -/
structure Pr where
  p : Int
  q : Int
  B : Option Addr
  d : Nat
  word : List Int
instance : Inhabited Pr := ⟨⟨0, 0, none, 0, []⟩⟩
def Pr.w (m : Pr) : Value := .slice m.B m.word.length m.d
def Pr.cells (m : Pr) : List Value := [.int .i64 m.p, .int .i64 m.q, m.w]
def Pr.pw (m : Pr) : (Int × Int) × List Int := ((m.p, m.q), m.word)
def encPr (m : Pr) : Value := .agg #[.int .i64 m.p, .int .i64 m.q, .slice m.B m.word.length m.d]
theorem flat3 : ∀ (qs : List Pr) (k : Nat) (m : Pr), qs[k]? = some m → (qs.flatMap Pr.cells)[k * 3]? = some (.int .i64 m.p) ∧ (qs.flatMap Pr.cells)[k * 3 + 1]? = some (.int .i64 m.q) ∧ (qs.flatMap Pr.cells)[k * 3 + 2]? = some m.w
  | [], k, m, h => by simp at h
  | x :: qs, 0, m, h => by simp at h; subst h; exact ⟨rfl, rfl, rfl⟩
  | x :: qs, k + 1, m, h => by
    have := flat3 qs k m (by simpa using h)
    rw [List.flatMap_cons, show (k + 1) * 3 = k * 3 + 3 by omega]
    exact ⟨by simpa [Pr.cells] using this.1, by simpa [Pr.cells, show k * 3 + 3 + 1 = k * 3 + 1 + 3 by omega] using this.2.1, by simpa [Pr.cells, show k * 3 + 3 + 2 = k * 3 + 2 + 3 by omega] using this.2.2⟩
theorem flat3_length : ∀ qs : List Pr, (qs.flatMap Pr.cells).length = qs.length * 3
  | [] => rfl
  | x :: qs => by rw [List.flatMap_cons, List.length_append, flat3_length qs]; simp [Pr.cells]; omega
def OwnPrs (w : World) (base : Nat) (v : Value) (qs : List Pr) : Prop := w.ownsRow base 113 3 v qs.length (qs.flatMap Pr.cells)
def SeePrs (w : World) (A : Option Addr) (qs : List Pr) : Prop := qs ≠ [] → ∃ b o, A = some ⟨b, o, none⟩ ∧ ∀ k m, qs[k]? = some m → w.cell? ⟨b, o + k * 3, none⟩ = some (.int .i64 m.p) ∧ w.cell? ⟨b, o + k * 3 + 1, none⟩ = some (.int .i64 m.q) ∧ w.cell? ⟨b, o + k * 3 + 2, none⟩ = some (.slice m.B m.word.length m.d)
theorem SeePrs.below {w w1 : World} {A : Option Addr} {ms : List Pr} (h : SeePrs w A ms) (hb : Below w.heap.size w w1) : SeePrs w1 A ms := fun hn => by
  obtain ⟨b, o, e, g⟩ := h hn
  exact ⟨b, o, e, fun k m hk => ⟨bcell hb (g k m hk).1, bcell hb (g k m hk).2.1, bcell hb (g k m hk).2.2⟩⟩
theorem SeePrs.at_ {w : World} {A : Option Addr} {qs : List Pr} (h : SeePrs w A qs) {k : Nat} (hk : k < qs.length) : ∃ b o m, A = some ⟨b, o, none⟩ ∧ qs[k]? = some m ∧ w.cell? ⟨b, o + k * 3, none⟩ = some (.int .i64 m.p) ∧ w.cell? ⟨b, o + k * 3 + 1, none⟩ = some (.int .i64 m.q) ∧ w.cell? ⟨b, o + k * 3 + 2, none⟩ = some (.slice m.B m.word.length m.d) := by
  obtain ⟨b, o, e, g⟩ := h (ne_of_lt hk)
  obtain ⟨x, hx⟩ := el hk
  exact ⟨b, o, x, e, hx, (g k x hx).1, (g k x hx).2.1, (g k x hx).2.2⟩
theorem OwnPrs.see {w : World} {base : Nat} {v : Value} {qs : List Pr} (h : OwnPrs w base v qs) : ∃ A c, v = .slice A qs.length c ∧ SeePrs w A qs := by
  unfold OwnPrs at h
  have h0 := h
  rcases h.2 with ⟨rfl, hn⟩ | ⟨g, cap, cur, rfl, _⟩
  · exact ⟨none, 0, by rw [hn], fun hne => absurd (List.eq_nil_of_length_eq_zero hn) hne⟩
  · refine ⟨_, cap, rfl, fun _ => ⟨g, 0, rfl, fun k m hk => ?_⟩⟩
    have hl : k < qs.length := (List.getElem?_eq_some_iff.1 hk).1
    obtain ⟨e1, e2, e3⟩ := flat3 qs k m hk
    rw [Nat.zero_add]
    exact ⟨(h0.cellAt (k * 3) (by omega)).trans e1, (h0.cellAt (k * 3 + 1) (by omega)).trans e2, (h0.cellAt (k * 3 + 2) (by omega)).trans e3⟩
theorem OwnPrs.lt {w : World} {base : Nat} {v : Value} {xs : List Pr} (h : OwnPrs w base v xs) : ∀ k, v.ownBlock = some k → base ≤ k ∧ k < w.heap.size := World.ownsRow.lt h
theorem OwnPrs.keep {S : Nat → Prop} {w w' : World} {base : Nat} {v : Value} {xs : List Pr} (h : OwnPrs w base v xs) (hs : ∀ k, v.ownBlock = some k → S k) (hk : Keep S w w') : OwnPrs w' base v xs := own_keep h hs hk
theorem OwnPrs.below {w w1 : World} {base : Nat} {v : Value} {xs : List Pr} (h : OwnPrs w base v xs) (hb : Below w.heap.size w w1) : OwnPrs w1 base v xs := h.keep (S := fun _ => True) (fun _ _ => trivial) (kb hb)
theorem info_pr : (Try.prog.info? 113).map (fun i => (i.zero, i.size, i.bytes)) = some (some (.agg #[.int .i64 0, .int .i64 0, .slice none 0 0]), 3, 40) := by kernel_rfl
theorem OwnPrs.one (w : World) (base : Nat) (hb : base ≤ w.heap.size) (m : Pr) : OwnPrs (w.alloc (.cells #[.int .i64 m.p, .int .i64 m.q, .slice m.B m.word.length m.d] 113)) base (.slice (some ⟨w.heap.size, 0, none⟩) 1 1) [m] :=
  ⟨rfl, .inr ⟨w.heap.size, 1, #[.int .i64 m.p, .int .i64 m.q, .slice m.B m.word.length m.d], rfl, hb, heap_alloc_new w _, Nat.le_refl _, by decide, rfl, rfl⟩⟩
set_option maxHeartbeats 1000000 in
theorem IndexFuncPr_c (g : Nat) (lb : Array Value) (p : Pr → Bool) (eg : Enters Try.prog g) (A : Option Addr) (c : Nat) (xs : List Pr) (w : World) (h : SeePrs w A xs) (hn : xs.length ≤ 2097152) (hp : PredB g lb encPr p xs w) :
    Calls Try.prog 131 #[.slice A xs.length c, .func (.func g) #[] lb] w fun e w' => e = .returned (.int .i64 (fidx p xs)) ∧ Below w.heap.size w w' := by
  unfold Enters at eg
  go_enter Try.func131, Try.ntmps131
  go_wp2
  go_loopw [8] (fun i wr => ∃ k : Nat, k ≤ xs.length ∧ i = .int .i64 k ∧ AllTo (fun x => p x = false) xs k ∧ Below w.heap.size w wr) (fun i _ => xs.length - (intOf i).toNat)
  case atStart => exact ⟨0, Nat.zero_le _, rfl, AllTo.zero _ _, Below.refl _ _⟩
  case round =>
    obtain ⟨k, hk, rfl, hj, hb⟩ := hrel
    by_cases hlt : k < xs.length
    · obtain ⟨b, o, x, rfl, hx, q0, q1, q2⟩ := (h.below hb).at_ hlt
      have hl : (0 : Int) ≤ k := by omega
      have hl' : (k : Int) < xs.length := by omega
      have hcall := hp wr x (List.mem_of_getElem? hx) hb
      unfold encPr at hcall
      have HJ := Lib.hid hj
      have HX := Lib.hid hx
      clear hj hx hp h
      cases e : p x
      · rw [e] at hcall
        have HE := Lib.hid e
        clear e
        go_wp2_with (go_at_fn g; refine hcall.mono ?_; rintro e w' ⟨rfl, hb'⟩)
        go_roundw
        case rel => exact ⟨k + 1, by omega, by go_num, HJ.out.snoc HX.out HE.out, btrans hb hb'⟩
        case measure => simp [intOf]; omega
      · rw [e] at hcall
        have HE := Lib.hid e
        clear e
        go_wp2_with (go_at_fn g; refine hcall.mono ?_; rintro e w' ⟨rfl, hb'⟩)
        go_returns
        exact ⟨ret_int (fidx_hit HX.out HE.out HJ.out).symm, btrans hb hb'⟩
    · obtain rfl : k = xs.length := by omega
      go_wp2
      go_returns
      exact ⟨ret_int (fidx_miss hj).symm, hb⟩
set_option maxHeartbeats 1000000 in
theorem ContainsFuncPr_c (g : Nat) (lb : Array Value) (p : Pr → Bool) (eg : Enters Try.prog g) (A : Option Addr) (c : Nat) (xs : List Pr) (w : World) (h : SeePrs w A xs) (hn : xs.length ≤ 2097152) (hp : PredB g lb encPr p xs w) :
    Calls Try.prog 111 #[.slice A xs.length c, .func (.func g) #[] lb] w fun e w' => e = .returned (.bool (xs.any p)) ∧ Below w.heap.size w w' := by
  rw [← fidx_any]
  go_enter Try.func111, Try.ntmps111
  go_wp2_with (go_at_call 131; go_must (refine (IndexFuncPr_c g lb p eg A c xs _ h hn hp).mono ?_); rintro e w2 ⟨rfl, hb2⟩)
  go_returns
  exact ⟨rfl, hb2⟩
/-- 'differ's own closure: is the pair this one? -/
theorem differ1_p (b10 b11 : Nat) (x y : Int) (qs : List Pr) (w : World) (hx : w.cell? ⟨b10, 0, none⟩ = some (.int .i64 x)) (hy : w.cell? ⟨b11, 0, none⟩ = some (.int .i64 y)) :
    PredB 112 #[.pointer (some ⟨b10, 0, none⟩), .pointer (some ⟨b11, 0, none⟩)] encPr (fun m => decide ((m.p, m.q) = (x, y))) qs w := fun W m _ hb => by
  have k0 : Below W.heap.size W (W.alloc (.cells #[.int .i64 m.p, .int .i64 m.q, .slice m.B m.word.length m.d] 113)) := by go_grown
  have qx := bcell k0 (bcell hb hx)
  have qy := bcell k0 (bcell hb hy)
  clear hx hy hb
  show Calls Try.prog 112 #[.agg #[.int .i64 m.p, .int .i64 m.q, .slice m.B m.word.length m.d], .pointer (some ⟨b10, 0, none⟩), .pointer (some ⟨b11, 0, none⟩)] W fun e w' => e = .returned (.bool (decide ((m.p, m.q) = (x, y)))) ∧ Below W.heap.size W w'
  obtain ⟨r, hr⟩ : ∃ r, r = decide ((m.p, m.q) = (x, y)) := ⟨_, rfl⟩
  rw [← hr]
  have HR := Lib.hid hr
  clear hr
  generalize m.p = a at *
  generalize m.q = b at *
  by_cases h1 : a = x
  · by_cases h2 : b = y
    · subst h1
      subst h2
      go_enter Try.func112, Try.ntmps112
      go_wp2
      go_returns
      exact ⟨ret_bool (by rw [HR.out]; simp), k0⟩
    · subst h1
      have d : (b == y) = false := beq_eq_false_iff_ne.2 h2
      go_enter Try.func112, Try.ntmps112
      go_wp2
      go_returns
      exact ⟨ret_bool (by rw [HR.out]; simp [h2]), k0⟩
  · have d : (a == x) = false := beq_eq_false_iff_ne.2 h1
    go_enter Try.func112, Try.ntmps112
    go_wp2
    go_returns
    exact ⟨ret_bool (by rw [HR.out]; simp [h1]), k0⟩
/-- queue = append(queue, m) -/
theorem wpList_push_pr (w : World) {ops : Array Oper} {rest : List Oper} {o : Oper} {a : Act} {Q : Exit → Act → World → Prop} (hgd : o.guard = none) (s x : Operand)
    (ho : o.op = .call { callee := .builtin .append, args := #[s, x], argTypes := #[114, 114] })
    (base : Nat) (v : Value) (xs : List Pr) (hs : a.eval s = v) (hown : OwnPrs w base v xs) (b : Nat) (m : Pr) (hx : a.eval x = .slice (some ⟨b, 0, none⟩) 1 1) (h0 : w.cell? ⟨b, 0, none⟩ = some (.int .i64 m.p)) (h1 : w.cell? ⟨b, 1, none⟩ = some (.int .i64 m.q)) (h2 : w.cell? ⟨b, 2, none⟩ = some (.slice m.B m.word.length m.d))
    (hn : xs.length ≤ 4294967296) (hbase : base ≤ w.heap.size)
    (hK : ∀ v' w', OwnPrs w' base v' (xs ++ [m]) → w.grownBy w' v.ownBlock → (v'.ownBlock = v.ownBlock ∨ v'.ownBlock = some w.heap.size) → wpList Try.prog ops Q rest (a.put o.dst v') w') : wpList Try.prog ops Q (o :: rest) a w := by
  obtain ⟨i0, hi, hz0, hz1, hz2⟩ := info_parts info_pr
  refine wpList_append_see w hgd s x 114 ho base 113 i0 (.agg #[.int .i64 0, .int .i64 0, .slice none 0 0]) 3 40 Try.underlying114 hi hz0 hz1 hz2 rfl (by decide) v xs.length (xs.flatMap Pr.cells) hs hown (some ⟨b, 0, none⟩) 1 1 m.cells hx rfl
    (.inr ⟨⟨b, 0, none⟩, rfl, fun j u hj => ?_⟩) (fun u hu => by simp [Pr.cells] at hu; rcases hu with rfl | rfl | rfl <;> rfl) (by unfold maxLen; omega) (by omega) hbase (fun v' w' k1 k2 k3 => hK v' w' ?_ k2 k3)
  · rw [add_lit, Nat.zero_add]
    match j, hj with
    | 0, hj => simp [Pr.cells] at hj; subst hj; exact h0
    | 1, hj => simp [Pr.cells] at hj; subst hj; exact h1
    | 2, hj => simp [Pr.cells] at hj; subst hj; exact h2
  · show w'.ownsRow base 113 3 v' (xs ++ [m]).length ((xs ++ [m]).flatMap Pr.cells)
    rw [List.length_append, List.flatMap_append]
    simpa using k1
end Go.Proofs.Ytbodaefdaagelaa
