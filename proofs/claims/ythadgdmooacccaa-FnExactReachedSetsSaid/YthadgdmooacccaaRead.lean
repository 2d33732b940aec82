/- How what comes in reads: whole numbers, slices of them, maps, slices of maps. No condition. -/
import Derived.Test.YthadgdmooacccaaBase
import Derived.ProofKit
import Derived.Deep.Slices
import Derived.Lib.SmallJoins
import Derived.ChangeReads
namespace Go.Proofs.Ythadgdmooacccaa
set_option linter.unusedSimpArgs false
set_option linter.unusedVariables false
set_option linter.unusedSectionVars false
open Go.RowKit Go.Deep
section
variable {H : Type} {enc : TypeId × Value → H} {w : World} {base : Nat} {spare : Nat → Bool} {held : Bool}
theorem read_int {fuel : Nat} {cs : List Value} {x : DataW H × List MemPlace} (h : DataW.trod enc Try.prog w base spare held fuel 2 cs = some x) : ∃ n, cs = [.int .i64 n] ∧ (Lit.int .i64 n).wf = true := by
  cases fuel with
  | zero => simp [DataW.trod] at h
  | succ fuel =>
    rw [DataW.trod_step] at h
    unfold DataW.trodStep at h
    simp only [Try.underlying2] at h
    split at h <;> simp_all
theorem cells_int : Try.prog.cellsOf 2 = 1 := by kernel_rfl
theorem cells_arr : Try.prog.cellsOf 59 = 5 := by kernel_rfl
theorem cells_lmap : Try.prog.cellsOf 73 = 6 := by kernel_rfl
theorem list6 {cs : List Value} (h : cs.length = 6) : ∃ a b c d e f, cs = [a, b, c, d, e, f] := by
  match cs, h with
  | [a, b, c, d, e, f], _ => exact ⟨a, b, c, d, e, f, rfl⟩
theorem list5 {cs : List Value} (h : cs.length = 5) : ∃ a b c d e, cs = [a, b, c, d, e] := by
  match cs, h with
  | [a, b, c, d, e], _ => exact ⟨a, b, c, d, e, rfl⟩
theorem read_int1 {fuel : Nat} {v : Value} {x : DataW H × List MemPlace} (h : DataW.trod enc Try.prog w base spare held fuel 2 [v] = some x) : ∃ n, v = .int .i64 n := by
  obtain ⟨n, h, _⟩ := read_int h
  exact ⟨n, by simpa using h⟩
theorem read_arr {fuel : Nat} {a b c d e : Value} {x : DataW H × List MemPlace} (h : DataW.trod enc Try.prog w base spare held fuel 59 [a, b, c, d, e] = some x) : ∃ a' b' c' d' e', [a, b, c, d, e] = [.int .i64 a', .int .i64 b', .int .i64 c', .int .i64 d', .int .i64 e'] := by
  cases fuel with
  | zero => simp [DataW.trod] at h
  | succ fuel =>
    rw [DataW.trod_step] at h
    unfold DataW.trodStep at h
    simp only [Try.underlying59, cells_arr, cells_int] at h
    simp [List.range_succ, List.range_zero, Option.bind_eq_some_iff] at h
    obtain ⟨_, _, h0, _, ⟨_, _, h1, _, ⟨_, _, h2, _, ⟨_, _, h3, _, ⟨_, _, h4, _⟩, _⟩, _⟩, _⟩, _⟩ := h
    obtain ⟨n0, rfl⟩ := read_int1 h0
    obtain ⟨n1, rfl⟩ := read_int1 h1
    obtain ⟨n2, rfl⟩ := read_int1 h2
    obtain ⟨n3, rfl⟩ := read_int1 h3
    obtain ⟨n4, rfl⟩ := read_int1 h4
    exact ⟨_, _, _, _, _, rfl⟩
theorem read_map {fuel : Nat} {cs : List Value} {x : DataW H × List MemPlace} (h : DataW.trod enc Try.prog w base spare held fuel 73 cs = some x) : ∃ m : Mp, cs = [.int .i64 m.p, .int .i64 m.a, .int .i64 m.b, .int .i64 m.c, .int .i64 m.d, .int .i64 m.e] := by
  cases fuel with
  | zero => simp [DataW.trod] at h
  | succ fuel =>
    rw [DataW.trod_step] at h
    unfold DataW.trodStep at h
    simp only [Try.underlying73] at h
    split at h
    · rename_i hl
      rw [cells_lmap] at hl
      obtain ⟨a, b, c, d, e, f, rfl⟩ := list6 hl
      simp [cells_int, cells_arr, Option.bind_eq_some_iff] at h
      obtain ⟨_, _, h0, _, ⟨_, _, h1, _⟩, _⟩ := h
      obtain ⟨n, rfl⟩ := read_int1 h0
      obtain ⟨a', b', c', d', e', he⟩ := read_arr h1
      simp only [List.cons.injEq, and_true] at he
      obtain ⟨rfl, rfl, rfl, rfl, rfl⟩ := he
      exact ⟨⟨n, a', b', c', d', e'⟩, rfl⟩
    · cases h
theorem spot_of {a : Addr} {v : Value} (h : w.cell? (a.add 0) = some v) : ∃ b o, a = ⟨b, o, none⟩ := by
  obtain ⟨b, off, spot⟩ := a
  have hspot : spot = none := by simpa [Addr.add] using World.cell?_spot h
  subst hspot
  exact ⟨b, off, rfl⟩
theorem add_lit' (b o j : Nat) : (⟨b, o, none⟩ : Addr).add j = ⟨b, o + j, none⟩ := by unfold Addr.add; split <;> simp_all
/-- a slice of maps that came in, as it is read -/
theorem read_maps {fuel : Nat} {v : Value} {x : DataW H × List MemPlace} (h : DataW.trod enc Try.prog w base spare held fuel 22 [v] = some x) :
    ∃ (A : Option Addr) (c : Nat) (ms : List Mp), v = .slice A ms.length c ∧ SeeMaps w A ms ∧ ms.length ≤ 9223372036854775807 := by
  rcases open_slice Try.underlying22 h with ⟨h1, _⟩ | ⟨a, len, cap, m, n, D, Pl, h1, hb, hl, hm, rfl, _, hx⟩
  · refine ⟨none, 0, [], by simpa using h1, fun h => absurd rfl h, by decide⟩
  · have hx' : ∀ i, i < len → ∃ m : Mp, w.cells? base (a.add (i * 6)) 6 = some [.int .i64 m.p, .int .i64 m.a, .int .i64 m.b, .int .i64 m.c, .int .i64 m.d, .int .i64 m.e] := fun i hi => by
      obtain ⟨cs', e1, e2⟩ := hx i (by split <;> omega)
      obtain ⟨m, rfl⟩ := read_map e2
      rw [cells_lmap] at e1
      exact ⟨m, e1⟩
    obtain ⟨F, hF⟩ := choose_lt hx'
    have hlen : ((List.range len).map F).length = len := by simp
    refine ⟨some a, cap, (List.range len).map F, by rw [hlen]; simpa using h1, fun hne => ?_, by rw [hlen]; simp [maxLen] at hm; omega⟩
    have h0 : 0 < len := by
      rcases Nat.eq_zero_or_pos len with rfl | h
      · simp at hne
      · exact h
    obtain ⟨_, _, hc⟩ := World.cells?_some (hF 0 h0)
    obtain ⟨b, o, rfl⟩ := spot_of (v := .int .i64 (F 0).p) (a := a) (by have := hc 0 (by decide); simpa [Addr.add] using this)
    refine ⟨b, o, rfl, fun k m hk => ?_⟩
    have hkl : k < len := by have := (List.getElem?_eq_some_iff.1 hk).1; rwa [hlen] at this
    obtain rfl : F k = m := by simpa [hkl] using hk
    obtain ⟨_, _, hc⟩ := World.cells?_some (hF k hkl)
    simp only [add_lit'] at hc
    exact ⟨hc 0 (by decide), hc 1 (by decide), hc 2 (by decide), hc 3 (by decide), hc 4 (by decide), hc 5 (by decide)⟩
theorem read_ints {fuel : Nat} {v : Value} {x : DataW H × List MemPlace} (h : DataW.trod enc Try.prog w base spare held fuel 23 [v] = some x) :
    ∃ (A : Option Addr) (c : Nat) (xs : List Int), v = .slice A xs.length c ∧ SeeInts w A xs ∧ xs.length ≤ 9223372036854775807 ∧ ∀ n ∈ xs, (Lit.int .i64 n).wf = true := by
  rcases open_slice Try.underlying23 h with ⟨h1, _⟩ | ⟨a, len, cap, m, n, D, Pl, h1, hb, hl, hm, rfl, _, hx⟩
  · exact ⟨none, 0, [], by simpa using h1, fun h => absurd rfl h, by decide, by simp⟩
  · have hx' : ∀ i, i < len → ∃ m : Int, w.cells? base (a.add i) 1 = some [.int .i64 m] ∧ (Lit.int .i64 m).wf = true := fun i hi => by
      obtain ⟨cs', e1, e2⟩ := hx i (by split <;> omega)
      obtain ⟨m, rfl, hw⟩ := read_int e2
      rw [cells_int, Nat.mul_one] at e1
      exact ⟨m, e1, hw⟩
    obtain ⟨F, hF⟩ := choose_lt hx'
    have hlen : ((List.range len).map F).length = len := by simp
    refine ⟨some a, cap, (List.range len).map F, by rw [hlen]; simpa using h1, fun hne => ?_, by rw [hlen]; simp [maxLen] at hm; omega, fun n hn => ?_⟩
    · have h0 : 0 < len := by
        rcases Nat.eq_zero_or_pos len with rfl | h
        · simp at hne
        · exact h
      obtain ⟨_, _, hc⟩ := World.cells?_some (hF 0 h0).1
      obtain ⟨b, o, rfl⟩ := spot_of (v := .int .i64 (F 0)) (a := a) (by have := hc 0 (by decide); simpa [Addr.add] using this)
      refine ⟨b, o, rfl, fun k m hk => ?_⟩
      have hkl : k < len := by have := (List.getElem?_eq_some_iff.1 hk).1; rwa [hlen] at this
      obtain rfl : F k = m := by simpa [hkl] using hk
      obtain ⟨_, _, hc⟩ := World.cells?_some (hF k hkl).1
      simp only [add_lit'] at hc
      exact hc 0 (by decide)
    · obtain ⟨i, hi, rfl⟩ := List.mem_map.1 hn
      exact (hF i (List.mem_range.1 hi)).2
end
end Go.Proofs.Ythadgdmooacccaa
