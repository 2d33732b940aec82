/- The queue of 'search': its elements as they lie in memory; 'IndexFunc', 'ContainsFunc' over it. No condition. -/
import Derived.Test.YthadgdmooacccaaFuncs
import Derived.Test.YthadgdmooacccaaPure
namespace Go.Proofs.Ythadgdmooacccaa
set_option linter.unusedSimpArgs false
set_option linter.unusedVariables false
set_option linter.unusedSectionVars false
open Go.RowKit
/-- an element as it lies: the slice of its points, the slice of its word -/
structure Mt where
  A : Option Addr
  c : Nat
  pts : List Int
  B : Option Addr
  d : Nat
  word : List Int
instance : Inhabited Mt := ⟨⟨none, 0, [], none, 0, []⟩⟩
def Mt.p (m : Mt) : Value := .slice m.A m.pts.length m.c
def Mt.w (m : Mt) : Value := .slice m.B m.word.length m.d
def Mt.cells (m : Mt) : List Value := [m.p, m.w]
def Mt.pw (m : Mt) : Pw := (m.pts, m.word)
def encMt (m : Mt) : Value := .agg #[.slice m.A m.pts.length m.c, .slice m.B m.word.length m.d]
theorem flat2 : ∀ (qs : List Mt) (k : Nat) (m : Mt), qs[k]? = some m → (qs.flatMap Mt.cells)[k * 2]? = some m.p ∧ (qs.flatMap Mt.cells)[k * 2 + 1]? = some m.w
  | [], k, m, h => by simp at h
  | x :: qs, 0, m, h => by simp at h; subst h; exact ⟨rfl, rfl⟩
  | x :: qs, k + 1, m, h => by
    have := flat2 qs k m (by simpa using h)
    rw [List.flatMap_cons, show (k + 1) * 2 = k * 2 + 2 by omega]
    exact ⟨by simpa [Mt.cells] using this.1, by simpa [Mt.cells, show k * 2 + 2 + 1 = k * 2 + 1 + 2 by omega] using this.2⟩
theorem flat2_length : ∀ qs : List Mt, (qs.flatMap Mt.cells).length = qs.length * 2
  | [] => rfl
  | x :: qs => by rw [List.flatMap_cons, List.length_append, flat2_length qs]; simp [Mt.cells]; omega
def OwnMets (w : World) (base : Nat) (v : Value) (qs : List Mt) : Prop := w.ownsRow base 124 2 v qs.length (qs.flatMap Mt.cells)
def SeeMets (w : World) (A : Option Addr) (qs : List Mt) : Prop := qs ≠ [] → ∃ b o, A = some ⟨b, o, none⟩ ∧ ∀ k m, qs[k]? = some m → w.cell? ⟨b, o + k * 2, none⟩ = some (.slice m.A m.pts.length m.c) ∧ w.cell? ⟨b, o + k * 2 + 1, none⟩ = some (.slice m.B m.word.length m.d)
theorem SeeMets.below {w w1 : World} {A : Option Addr} {ms : List Mt} (h : SeeMets w A ms) (hb : Below w.heap.size w w1) : SeeMets w1 A ms := fun hn => by
  obtain ⟨b, o, e, g⟩ := h hn
  exact ⟨b, o, e, fun k m hk => ⟨bcell hb (g k m hk).1, bcell hb (g k m hk).2⟩⟩
theorem SeeMets.at_ {w : World} {A : Option Addr} {qs : List Mt} (h : SeeMets w A qs) {k : Nat} (hk : k < qs.length) : ∃ b o m, A = some ⟨b, o, none⟩ ∧ qs[k]? = some m ∧ w.cell? ⟨b, o + k * 2, none⟩ = some (.slice m.A m.pts.length m.c) ∧ w.cell? ⟨b, o + k * 2 + 1, none⟩ = some (.slice m.B m.word.length m.d) := by
  obtain ⟨b, o, e, g⟩ := h (ne_of_lt hk)
  obtain ⟨x, hx⟩ := el hk
  exact ⟨b, o, x, e, hx, (g k x hx).1, (g k x hx).2⟩
theorem OwnMets.see {w : World} {base : Nat} {v : Value} {qs : List Mt} (h : OwnMets w base v qs) : ∃ A c, v = .slice A qs.length c ∧ SeeMets w A qs := by
  unfold OwnMets at h
  have h0 := h
  rcases h.2 with ⟨rfl, hn⟩ | ⟨g, cap, cur, rfl, _⟩
  · exact ⟨none, 0, by rw [hn], fun hne => absurd (List.eq_nil_of_length_eq_zero hn) hne⟩
  · refine ⟨_, cap, rfl, fun _ => ⟨g, 0, rfl, fun k m hk => ?_⟩⟩
    have hl : k < qs.length := (List.getElem?_eq_some_iff.1 hk).1
    obtain ⟨e1, e2⟩ := flat2 qs k m hk
    rw [Nat.zero_add]
    exact ⟨(h0.cellAt (k * 2) (by omega)).trans e1, (h0.cellAt (k * 2 + 1) (by omega)).trans e2⟩
theorem OwnMets.lt {w : World} {base : Nat} {v : Value} {xs : List Mt} (h : OwnMets w base v xs) : ∀ k, v.ownBlock = some k → base ≤ k ∧ k < w.heap.size := World.ownsRow.lt h
theorem OwnMets.keep {S : Nat → Prop} {w w' : World} {base : Nat} {v : Value} {xs : List Mt} (h : OwnMets w base v xs) (hs : ∀ k, v.ownBlock = some k → S k) (hk : Keep S w w') : OwnMets w' base v xs := own_keep h hs hk
theorem OwnMets.below {w w1 : World} {base : Nat} {v : Value} {xs : List Mt} (h : OwnMets w base v xs) (hb : Below w.heap.size w w1) : OwnMets w1 base v xs := h.keep (S := fun _ => True) (fun _ _ => trivial) (kb hb)
theorem info_met : (Try.prog.info? 124).map (fun i => (i.zero, i.size, i.bytes)) = some (some (.agg #[.slice none 0 0, .slice none 0 0]), 2, 48) := by kernel_rfl
theorem OwnMets.one (w : World) (base : Nat) (hb : base ≤ w.heap.size) (m : Mt) : OwnMets (w.alloc (.cells #[.slice m.A m.pts.length m.c, .slice m.B m.word.length m.d] 124)) base (.slice (some ⟨w.heap.size, 0, none⟩) 1 1) [m] :=
  ⟨rfl, .inr ⟨w.heap.size, 1, #[.slice m.A m.pts.length m.c, .slice m.B m.word.length m.d], rfl, hb, heap_alloc_new w _, Nat.le_refl _, by decide, rfl, rfl⟩⟩
set_option maxHeartbeats 1000000 in
theorem IndexFuncMt_c (g : Nat) (lb : Array Value) (p : Mt → Bool) (eg : Enters Try.prog g) (A : Option Addr) (c : Nat) (xs : List Mt) (w : World) (h : SeeMets w A xs) (hn : xs.length ≤ 2097152) (hp : PredB g lb encMt p xs w) :
    Calls Try.prog 153 #[.slice A xs.length c, .func (.func g) #[] lb] w fun e w' => e = .returned (.int .i64 (fidx p xs)) ∧ Below w.heap.size w w' := by
  unfold Enters at eg
  go_enter Try.func153, Try.ntmps153
  go_wp2
  go_loopw [8] (fun i wr => ∃ k : Nat, k ≤ xs.length ∧ i = .int .i64 k ∧ AllTo (fun x => p x = false) xs k ∧ Below w.heap.size w wr) (fun i _ => xs.length - (intOf i).toNat)
  case atStart => exact ⟨0, Nat.zero_le _, rfl, AllTo.zero _ _, Below.refl _ _⟩
  case round =>
    obtain ⟨k, hk, rfl, hj, hb⟩ := hrel
    by_cases hlt : k < xs.length
    · obtain ⟨b, o, x, rfl, hx, q0, q1⟩ := (h.below hb).at_ hlt
      have hl : (0 : Int) ≤ k := by omega
      have hl' : (k : Int) < xs.length := by omega
      have hcall := hp wr x (List.mem_of_getElem? hx) hb
      unfold encMt at hcall
      have HJ := Lib.hid hj
      have HX := Lib.hid hx
      clear hj hx hp h
      cases e : p x
      · rw [e] at hcall
        have HE := Lib.hid e
        clear e
        go_wp2_with (go_at_fn g; refine hcall.mono ?_; rintro e w' ⟨rfl, hb'⟩)
        go_roundw
        case rel => exact ⟨k + 1, by omega, by go_num, HJ.out.snoc HX.out HE.out, btrans hb hb'⟩
        case measure => simp [intOf]; omega
      · rw [e] at hcall
        have HE := Lib.hid e
        clear e
        go_wp2_with (go_at_fn g; refine hcall.mono ?_; rintro e w' ⟨rfl, hb'⟩)
        go_returns
        exact ⟨ret_int (fidx_hit HX.out HE.out HJ.out).symm, btrans hb hb'⟩
    · obtain rfl : k = xs.length := by omega
      go_wp2
      go_returns
      exact ⟨ret_int (fidx_miss hj).symm, hb⟩
set_option maxHeartbeats 1000000 in
theorem ContainsFuncMt_c (g : Nat) (lb : Array Value) (p : Mt → Bool) (eg : Enters Try.prog g) (A : Option Addr) (c : Nat) (xs : List Mt) (w : World) (h : SeeMets w A xs) (hn : xs.length ≤ 2097152) (hp : PredB g lb encMt p xs w) :
    Calls Try.prog 124 #[.slice A xs.length c, .func (.func g) #[] lb] w fun e w' => e = .returned (.bool (xs.any p)) ∧ Below w.heap.size w w' := by
  rw [← fidx_any]
  go_enter Try.func124, Try.ntmps124
  go_wp2_with (go_at_call 153; go_must (refine (IndexFuncMt_c g lb p eg A c xs _ h hn hp).mono ?_); rintro e w2 ⟨rfl, hb2⟩)
  go_returns
  exact ⟨rfl, hb2⟩
/-- 'search's own closure: is the list of points this one? -/
theorem search1_p (N : Option Addr) (nc Bk : Nat) (nx : List Int) (qs : List Mt) (w : World) (hq : w.cell? ⟨Bk, 0, none⟩ = some (.slice N nx.length nc)) (hN : SeeInts w N nx) (hs : ∀ m ∈ qs, SeeInts w m.A m.pts ∧ m.pts.length ≤ 2097152) :
    PredB 125 #[.pointer (some ⟨Bk, 0, none⟩)] encMt (fun m => decide (m.pts = nx)) qs w := fun W m hm hb => by
  obtain ⟨s1, s2⟩ := hs m hm
  have q := bcell hb hq
  have k0 : Below W.heap.size W (W.alloc (.cells #[.slice m.A m.pts.length m.c, .slice m.B m.word.length m.d] 124)) := by go_grown
  have q' := bcell k0 q
  have s3 := (s1.below hb).below k0
  have s4 := (hN.below hb).below k0
  clear hq hb hN hs s1 hm
  show Calls Try.prog 125 #[.agg #[.slice m.A m.pts.length m.c, .slice m.B m.word.length m.d], .pointer (some ⟨Bk, 0, none⟩)] W _
  go_enter Try.func125, Try.ntmps125
  go_wp2_with (go_at_call 89; go_must (refine (EqualI_c m.A N m.c nc m.pts nx _ s3 s4 s2).mono ?_); rintro e w2 ⟨rfl, hb2⟩)
  go_returns
  exact ⟨rfl, btrans k0 hb2⟩
end Go.Proofs.Ythadgdmooacccaa
