/- How many classes there are: 'many'; the first place of a number. No condition. -/
import Derived.Test.YtjepmbjneccagaaGreatClsP
import Derived.Test.YtjepmbjneccagaaGreatContains
namespace Go.Proofs.YtjepmbjneccagaaGreat
set_option linter.unusedSimpArgs false
set_option linter.unusedVariables false
set_option linter.unusedSectionVars false
open Go.RowKit
theorem can_lt {cl : List Int} {n : Nat} (h : IsCan cl n) {i : Nat} (hi : i < n) : 0 ≤ cls cl i ∧ cls cl i < n := by
  have h1 := num_can h
  have h2 := nbTo_next_nonneg (fun k i => decide (cls cl k = cls cl i)) n
  have h3 : cls cl i ∈ cl := List.mem_of_getElem? (cls_get (by rw [h.1]; exact hi))
  have h4 : cl = (nbTo (fun k i => decide (cls cl k = cls cl i)) n).1 := h1.symm
  have h5 := h2.2.2 (cls cl i) (by rw [← h4]; exact h3)
  omega
/-- the greatest of the first k numbers, -1 of none -/
def Mx (cl : List Int) (k : Nat) (m : Int) : Prop := (k = 0 ∧ m = -1) ∨ (0 < k ∧ (∀ i, i < k → cls cl i ≤ m) ∧ ∃ i, i < k ∧ cls cl i = m)
theorem Mx.zero (cl : List Int) : Mx cl 0 (-1) := .inl ⟨rfl, rfl⟩
theorem Mx.one (cl : List Int) : Mx cl 1 (cls cl 0) := .inr ⟨by decide, fun i hi => (by
  obtain rfl : i = 0 := by omega
  exact Int.le_refl _), 0, by decide, rfl⟩
theorem Mx.keep {cl : List Int} {k : Nat} {m : Int} (h : Mx cl k m) (hk : 0 < k) (hx : cls cl k ≤ m) : Mx cl (k + 1) m := by
  rcases h with ⟨h, _⟩ | ⟨_, h1, i, h2, h3⟩
  · omega
  · exact .inr ⟨by omega, fun j hj => by
      rcases Nat.lt_or_ge j k with h | h
      · exact h1 j h
      · obtain rfl : j = k := by omega
        exact hx, i, by omega, h3⟩
theorem Mx.up {cl : List Int} {k : Nat} {m : Int} (h : Mx cl k m) (hx : m < cls cl k) : Mx cl (k + 1) (cls cl k) :=
  .inr ⟨by omega, fun j hj => by
    rcases Nat.lt_or_ge j k with h' | h'
    · rcases h with ⟨h, _⟩ | ⟨_, h1, _⟩
      · omega
      · have := h1 j h'; omega
    · obtain rfl : j = k := by omega
      exact Int.le_refl _, k, by omega, rfl⟩
theorem Mx.fin {cl : List Int} {N : Nat} {nx m : Int} (hc : CanTo cl N = some nx) (h0 : 0 < N) (h : Mx cl N m) : m + 1 = nx ∧ 1 ≤ nx ∧ nx ≤ N := by
  obtain ⟨h1, h2, h3, h4⟩ := canTo_spec hc
  rcases h with ⟨h, _⟩ | ⟨_, h5, i, h6, h7⟩
  · omega
  · have a := h3 i h6
    have b := h3 0 h0
    obtain ⟨j, hj, e⟩ := h4 (nx - 1) (by omega) (by omega)
    have := h5 j hj
    omega
theorem Mx.rng {cl : List Int} {N k : Nat} {m : Int} (hc : IsCan cl N) (hk : k ≤ N) (h : Mx cl k m) : -1 ≤ m ∧ m < N := by
  rcases h with ⟨h, e⟩ | ⟨_, _, i, h6, h7⟩
  · omega
  · have := can_lt hc (i := i) (by omega)
    omega
set_option maxHeartbeats 2000000 in
theorem many_c (A : Option Addr) (c N : Nat) (cl : List Int) (nx : Int) (w : World) (h : SeeInts w A cl) (hc : IsCan cl N) (hx : CanTo cl N = some nx) (h0 : 0 < N) (hN : N ≤ 300) :
    Calls Tryz.prog 88 #[.slice A N c] w fun e w' => e = .returned (.int .i64 nx) ∧ Below w.heap.size w w' := by
  have hmax : ∃ m, m + 1 = nx ∧ -1 ≤ m ∧ m ≤ 300 ∧ Calls Tryz.prog 118 #[.slice A N c] w fun e w' => e = .returned (.int .i64 m) ∧ Below w.heap.size w w' := by
    obtain ⟨b, o, rfl, g⟩ := h.cls (by rw [hc.1]; exact h0)
    rw [hc.1] at g
    refine ⟨nx - 1, by omega, by have := (canTo_spec hx).1; omega, by have := (canTo_spec hx).2.1; omega, ?_⟩
    have g0 := g 0 h0
    rw [Nat.add_zero] at g0
    have G := Lib.hid g
    have HC := Lib.hid hc
    have HX := Lib.hid hx
    have p0 : (0 : Int) < N := by omega
    have p1 : ¬ (N : Int) < 1 := by omega
    have M1 := Lib.hid (Mx.one cl)
    have HR := Lib.hid (show ∀ m, Mx cl N m → m = nx - 1 from fun m hm => by have := (Mx.fin hx h0 hm).1; omega)
    generalize hx0 : cls cl 0 = x0 at *
    clear hx0 g h hc hx
    go_enter Tryz.func118, Tryz.ntmps118
    go_wp2
    go_loopw [4, 3] (fun iv mv wr => ∃ (k : Nat) (m : Int), 0 < k ∧ k ≤ N ∧ iv = .int .i64 k ∧ mv = .int .i64 m ∧ Hid (Mx cl k m) ∧ Below w.heap.size w wr) (fun iv _ _ => N - (intOf iv).toNat)
    case atStart => exact ⟨1, _, by decide, h0, rfl, rfl, M1, Below.refl _ _⟩
    case round =>
      obtain ⟨k, m, hk0, hk, rfl, rfl, hM, hb⟩ := hrel
      have l0 : (0 : Int) ≤ k := by omega
      by_cases hlt : k < N
      · have l1 : (k : Int) < N := by omega
        have qk := bcell hb (G.out k hlt)
        have hrg := hM.out.rng HC.out hk
        have hck := can_lt HC.out hlt
        by_cases e : m < cls cl k
        · have HN := Lib.hid (hM.out.up e)
          generalize cls cl k = x at *
          go_wp2
          go_roundw
          case rel => exact ⟨k + 1, x, by omega, by omega, by go_num, congrArg (Value.int IntKind.i64) (by omega), HN, hb⟩
          case measure => simp [intOf]; omega
        · have HN := Lib.hid (hM.out.keep hk0 (by omega))
          generalize cls cl k = x at *
          go_wp2
          go_roundw
          case rel => exact ⟨k + 1, m, by omega, by omega, by go_num, congrArg (Value.int IntKind.i64) (by omega), HN, hb⟩
          case measure => simp [intOf]; omega
      · have ek : k = N := by omega
        subst ek
        have HE := Lib.hid (HR.out m hM.out)
        have nlt : ¬ (k : Int) < k := by omega
        clear hlt
        go_wp2
        go_returns
        exact ⟨ret_int HE.out, hb⟩
  obtain ⟨m, h1, h2, h3, h4⟩ := hmax
  have HM := Lib.hid h4
  have H1 := Lib.hid h1
  clear h4 h h1
  go_enter Tryz.func88, Tryz.ntmps88
  go_wp2_with fail
  refine HM.out.mono ?_
  rintro e w2 ⟨rfl, hb2⟩
  go_wp2
  go_returns
  exact ⟨ret_int H1.out, hb2⟩
/-- the first place of a number -/
def fxOf (cl : List Int) (v : Nat) : Nat := (fidx (fun x => decide ((v : Int) = x)) cl).toNat
theorem fx_spec {cl : List Int} {N : Nat} {nx : Int} (hl : cl.length = N) (hx : CanTo cl N = some nx) {v : Nat} (hv : (v : Int) < nx) : fidx (fun x => decide ((v : Int) = x)) cl = (fxOf cl v : Int) ∧ fxOf cl v < N ∧ cls cl (fxOf cl v) = (v : Int) := by
  obtain ⟨i, hi, e⟩ := (canTo_spec hx).2.2.2 (v : Int) (by omega) hv
  have key : ∃ j : Nat, fidx (fun x => decide ((v : Int) = x)) cl = (j : Int) ∧ j < N ∧ cls cl j = (v : Int) := by
    unfold fidx
    cases hf : cl.findIdx? (fun x => decide ((v : Int) = x)) with
    | none =>
      have := List.findIdx?_eq_none_iff.1 hf (cls cl i) (List.mem_of_getElem? (cls_get (by omega)))
      rw [e] at this
      simp at this
    | some j =>
      obtain ⟨h1, h2, _⟩ := List.findIdx?_eq_some_iff_getElem.1 hf
      refine ⟨j, rfl, by omega, ?_⟩
      have h3 := cls_get (cl := cl) (i := j) h1
      rw [List.getElem?_eq_getElem h1] at h3
      rw [Option.some.inj h3] at h2
      exact (of_decide_eq_true h2).symm
  obtain ⟨j, h1, h2, h3⟩ := key
  have e' : fxOf cl v = j := by unfold fxOf; rw [h1]; rfl
  rw [e']
  exact ⟨h1, h2, h3⟩
def qN (cl : List Int) (N : Nat) : Nat := ((CanTo cl N).getD 0).toNat
theorem qN_spec {cl : List Int} {N : Nat} (h : IsCan cl N) (h0 : 0 < N) : CanTo cl N = some (qN cl N : Int) ∧ qN cl N ≤ N ∧ 0 < qN cl N := by
  cases hx : CanTo cl N with
  | none => have := h.2; rw [hx] at this; cases this
  | some nx =>
    have hs := canTo_spec hx
    have h3 := hs.2.2.1 0 h0
    have e : qN cl N = nx.toNat := by unfold qN; rw [hx]; rfl
    rw [e]
    exact ⟨congrArg some (by omega), by omega, by omega⟩
theorem Mx.keep0 {cl : List Int} {N k : Nat} {m : Int} (hc : IsCan cl N) (hk : k < N) (h : Mx cl k m) (hx : ¬ m < cls cl k) : Mx cl (k + 1) m := by
  rcases Nat.eq_zero_or_pos k with rfl | h0
  · rcases h with ⟨_, e⟩ | ⟨h, _⟩
    · have := can_lt hc hk; omega
    · omega
  · exact h.keep h0 (by omega)
set_option maxHeartbeats 2000000 in
theorem l06Number_c (A : Option Addr) (c N : Nat) (cl : List Int) (nx : Int) (w : World) (h : SeeInts w A cl) (hc : IsCan cl N) (hx : CanTo cl N = some nx) (h0 : 0 < N) (hN : N ≤ 300) :
    Calls Tryz.prog 114 #[.slice A N c] w fun e w' => e = .returned (.int .i64 nx) ∧ Below w.heap.size w w' := by
  obtain ⟨b, o, rfl, g⟩ := h.cls (by rw [hc.1]; exact h0)
  rw [hc.1] at g
  have G := Lib.hid g
  have HC := Lib.hid hc
  have HR := Lib.hid (show ∀ m, Mx cl N m → m + 1 = nx from fun m hm => (Mx.fin hx h0 hm).1)
  have M0 := Lib.hid (Mx.zero cl)
  clear g h hc hx
  go_enter Tryz.func114, Tryz.ntmps114
  go_wp2
  go_loopw [4, 3] (fun iv mv wr => ∃ (k : Nat) (m : Int), k ≤ N ∧ iv = .int .i64 k ∧ mv = .int .i64 m ∧ Hid (Mx cl k m) ∧ Below w.heap.size w wr) (fun iv _ _ => N - (intOf iv).toNat)
  case atStart => exact ⟨0, -1, Nat.zero_le _, rfl, rfl, M0, Below.refl _ _⟩
  case round =>
    obtain ⟨k, m, hk, rfl, rfl, hM, hb⟩ := hrel
    have l0 : (0 : Int) ≤ k := by omega
    have hrg := hM.out.rng HC.out hk
    by_cases hlt : k < N
    · have l1 : (k : Int) < N := by omega
      have qk := bcell hb (G.out k hlt)
      have hck := can_lt HC.out hlt
      by_cases e : m < cls cl k
      · have HN := Lib.hid (hM.out.up e)
        generalize cls cl k = x at *
        go_wp2
        go_roundw
        case rel => exact ⟨k + 1, x, by omega, by go_num, congrArg (Value.int IntKind.i64) (by omega), HN, hb⟩
        case measure => simp [intOf]; omega
      · have HN := Lib.hid (hM.out.keep0 HC.out hlt e)
        generalize cls cl k = x at *
        go_wp2
        go_roundw
        case rel => exact ⟨k + 1, m, by omega, by go_num, congrArg (Value.int IntKind.i64) (by omega), HN, hb⟩
        case measure => simp [intOf]; omega
    · have ek : k = N := by omega
      subst ek
      have HE := Lib.hid (HR.out m hM.out)
      have nlt : ¬ (k : Int) < k := by omega
      clear hlt
      go_wp2
      go_returns
      exact ⟨ret_int HE.out, hb⟩
end Go.Proofs.YtjepmbjneccagaaGreat
