/- How bytes that come in read. No condition. -/
import Derived.Test.YtilfamenadaboaaGreatRead
import Derived.Test.YtilfamenadaboaaGreatDrawM
namespace Go.Proofs.YtilfamenadaboaaGreat
set_option linter.unusedSimpArgs false
set_option linter.unusedVariables false
set_option linter.unusedSectionVars false
open Go.RowKit Go.Deep
section
variable {H : Type} {enc : TypeId × Value → H} {w : World} {base : Nat} {spare : Nat → Bool} {held : Bool}
theorem read_byte {fuel : Nat} {cs : List Value} {x : DataW H × List MemPlace} (h : DataW.trod enc Tryz.prog w base spare held fuel 5 cs = some x) : ∃ n, cs = [.int .u8 n] ∧ (Lit.int .u8 n).wf = true := by
  cases fuel with
  | zero => simp [DataW.trod] at h
  | succ fuel =>
    rw [DataW.trod_step] at h
    unfold DataW.trodStep at h
    simp only [Tryz.underlying5] at h
    split at h <;> simp_all
theorem cells_byte : Tryz.prog.cellsOf 5 = 1 := by kernel_rfl
theorem byte_rng {n : Int} (h : (Lit.int .u8 n).wf = true) : 0 ≤ n ∧ n < 256 := by
  have e : (decide (IntKind.u8.min ≤ n) && decide (n ≤ IntKind.u8.max)) = true := h
  simp only [Bool.and_eq_true, decide_eq_true_eq] at e
  have e1 : IntKind.u8.min = 0 := rfl
  have e2 : IntKind.u8.max = 255 := rfl
  omega
theorem read_bytes {fuel : Nat} {v : Value} {x : DataW H × List MemPlace} (h : DataW.trod enc Tryz.prog w base spare held fuel 22 [v] = some x) :
    ∃ (A : Option Addr) (c : Nat) (xs : List Int), v = .slice A xs.length c ∧ SeeBytes w A xs ∧ xs.length ≤ 9223372036854775807 := by
  rcases open_slice Tryz.underlying22 h with ⟨h1, _⟩ | ⟨a, len, cap, m, n, D, Pl, h1, hb, hl, hm, rfl, _, hx⟩
  · exact ⟨none, 0, [], by simpa using h1, fun h => absurd rfl h, by decide⟩
  · have hx' : ∀ i, i < len → ∃ m : Int, w.cells? base (a.add i) 1 = some [.int .u8 m] ∧ (Lit.int .u8 m).wf = true := fun i hi => by
      obtain ⟨cs', e1, e2⟩ := hx i (by split <;> omega)
      obtain ⟨m, rfl, hw⟩ := read_byte e2
      rw [cells_byte, Nat.mul_one] at e1
      exact ⟨m, e1, hw⟩
    obtain ⟨F, hF⟩ := choose_lt hx'
    have hlen : ((List.range len).map F).length = len := by simp
    refine ⟨some a, cap, (List.range len).map F, by rw [hlen]; simpa using h1, fun hne => ?_, by rw [hlen]; simp [maxLen] at hm; omega⟩
    have h0 : 0 < len := by
      rcases Nat.eq_zero_or_pos len with rfl | h
      · simp at hne
      · exact h
    obtain ⟨_, _, hc⟩ := World.cells?_some (hF 0 h0).1
    obtain ⟨b, o, rfl⟩ := spot_of (v := .int .u8 (F 0)) (a := a) (by have := hc 0 (by decide); simpa [Addr.add] using this)
    refine ⟨b, o, rfl, fun k m hk => ?_⟩
    have hkl : k < len := by have := (List.getElem?_eq_some_iff.1 hk).1; rwa [hlen] at this
    obtain rfl : F k = m := by simpa [hkl] using hk
    obtain ⟨_, _, hc⟩ := World.cells?_some (hF k hkl).1
    simp only [add_lit'] at hc
    exact ⟨byte_rng (hF k hkl).2, hc 0 (by decide)⟩
end
end Go.Proofs.YtilfamenadaboaaGreat
