/- How slices of slices of whole numbers read that come in. No condition. -/
import Derived.Test.YtjepmbjneccagaaRead
import Derived.Test.YtjepmbjneccagaaTab
namespace Go.Proofs.Ytjepmbjneccagaa
set_option linter.unusedSimpArgs false
set_option linter.unusedVariables false
set_option linter.unusedSectionVars false
open Go.RowKit Go.Deep
section
variable {H : Type} {enc : TypeId × Value → H} {w : World} {base : Nat} {spare : Nat → Bool} {held : Bool}
theorem read_intsN {fuel : Nat} {v : Value} {x : DataW H × List MemPlace} (h : DataW.trod enc Try.prog w base spare held fuel 23 [v] = some x) :
    ∃ (A : Option Addr) (c : Nat) (xs : List Int), v = .slice A xs.length c ∧ SeeInts w A xs ∧ xs.length ≤ 9223372036854775807 ∧ NilOk A c := by
  obtain ⟨A, c, xs, e, h1, h2, _⟩ := read_ints h
  refine ⟨A, c, xs, e, h1, h2, fun hA => ?_⟩
  subst hA
  rcases open_slice Try.underlying23 h with ⟨h3, _⟩ | ⟨a, len, cap, m, n, D, Pl, h3, _⟩
  · rw [e] at h3
    simp at h3
    omega
  · rw [e] at h3
    simp at h3
theorem cells_row : Try.prog.cellsOf 23 = 1 := by kernel_rfl
theorem one_slice {A : Option Addr} {n c : Nat} : (Value.slice A n c).cells.toList = [.slice A n c] := rfl
/-- a slice of slices of numbers that came in, as it is read -/
theorem read_intss {fuel : Nat} {v : Value} {x : DataW H × List MemPlace} (h : DataW.trod enc Try.prog w base spare held fuel 38 [v] = some x) :
    ∃ (A : Option Addr) (c : Nat) (rows : List (List Int)), v = .slice A rows.length c ∧ SeeTab w A rows ∧ rows.length ≤ 9223372036854775807 ∧ ∀ r ∈ rows, r.length ≤ 9223372036854775807 := by
  rcases open_slice Try.underlying38 h with ⟨h1, _⟩ | ⟨a, len, cap, m, n, D, Pl, h1, hb, hl, hm, rfl, _, hx⟩
  · exact ⟨none, 0, [], by simpa using h1, fun h => absurd rfl h, by decide, fun r hr => by cases hr⟩
  · have hx' : ∀ i, i < len → ∃ r : Option Addr × Nat × List Int, w.cells? base (a.add i) 1 = some [.slice r.1 r.2.2.length r.2.1] ∧ SeeInts w r.1 r.2.2 ∧ r.2.2.length ≤ 9223372036854775807 ∧ NilOk r.1 r.2.1 := fun i hi => by
      obtain ⟨cs', e1, e2⟩ := hx i (by split <;> omega)
      have e1' := e1
      rw [cells_row, Nat.mul_one] at e1'
      have hlen := (World.cells?_some e1').2.1
      match cs', hlen, e1', e2 with
      | [u], _, e1', e2 =>
        obtain ⟨A, c, xs, rfl, s1, s2, s3⟩ := read_intsN e2
        exact ⟨(A, c, xs), e1', s1, s2, s3⟩
    obtain ⟨F, hF⟩ := choose_lt hx'
    have hlen : ((List.range len).map (fun i => (F i).2.2)).length = len := by simp
    refine ⟨some a, cap, (List.range len).map (fun i => (F i).2.2), by rw [hlen]; simpa using h1, fun hne => ?_, by rw [hlen]; simp [maxLen] at hm; omega, fun n hn => ?_⟩
    · have h0 : 0 < len := by
        rcases Nat.eq_zero_or_pos len with rfl | h
        · simp at hne
        · exact h
      obtain ⟨_, _, hc⟩ := World.cells?_some (hF 0 h0).1
      obtain ⟨b, o, rfl⟩ := spot_of (a := a) (by have := hc 0 (by decide); simpa [Addr.add] using this)
      refine ⟨b, o, rfl, fun k xs hk => ?_⟩
      have hkl : k < len := by have := (List.getElem?_eq_some_iff.1 hk).1; rwa [hlen] at this
      obtain rfl : (F k).2.2 = xs := by simpa [hkl] using hk
      obtain ⟨_, _, hc⟩ := World.cells?_some (hF k hkl).1
      simp only [add_lit'] at hc
      exact ⟨_, _, hc 0 (by decide), (hF k hkl).2.1, (hF k hkl).2.2.2⟩
    · obtain ⟨i, hi, rfl⟩ := List.mem_map.1 hn
      exact (hF i (List.mem_range.1 hi)).2.2.1
end
end Go.Proofs.Ytjepmbjneccagaa
