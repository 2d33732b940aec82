/- 'markAcceptor' writes into what an acceptor's slices hold. No condition. -/
import Derived.Test.YtbodaefdaagelaaLawKit
import Derived.Test.YtbodaefdaagelaaIsAcc
namespace Go.Proofs.Ytbodaefdaagelaa
set_option linter.unusedSimpArgs false
set_option linter.unusedVariables false
set_option linter.unusedSectionVars false
open Go.RowKit
theorem own_types {w : World} {base base' : Nat} {e e' : TypeId} {s s' : Nat} {A A' : Option Addr} {n c n' c' l l' : Nat} {xs xs' : List Value} (h : w.ownsRow base e s (.slice A n c) l xs) (h' : w.ownsRow base' e' s' (.slice A' n' c') l' xs') (he : e ≠ e') : ∀ k, (Value.slice A' n' c').ownBlock = some k → NotOf A k := fun k hk a ha hka => by
  subst ha
  rcases h.2 with ⟨h1, _⟩ | ⟨g, cap, cur, h1, _, hg, _⟩
  · simp at h1
  · rcases h'.2 with ⟨h2, _⟩ | ⟨g', cap', cur', h2, _, hg', _⟩
    · rw [h2] at hk; simp [Value.ownBlock] at hk
    · rw [h2] at hk
      simp [Value.ownBlock] at hk
      simp only [Value.slice.injEq, Option.some.injEq] at h1
      obtain ⟨rfl, _, _⟩ := h1
      have e1 : g = k := hka.symm
      subst hk
      rw [e1, hg'] at hg
      simp at hg
      exact he hg.2.symm
set_option maxHeartbeats 1000000 in
theorem markAcceptor_r (A A' : Option Addr) (c c' : Nat) (ms : List Mp) (f : Int) (ls : List Int) (k0 : Int) (base base' : Nat) (w : World) (h : OwnMaps w base (.slice A ms.length c) ms) (hn : ms.length ≤ 2097152) (h' : OwnInts w base' (.slice A' ls.length c') ls) (hn' : ls.length ≤ 2097152) (h0 : 0 ≤ k0) (h1 : k0 ≤ 109951162777) :
    Calls Try.prog 26 #[.agg #[.slice A ms.length c, .int .i64 f, .slice A' ls.length c'], .int .i64 k0] w fun e w' => ∃ r : Int, e = .returned (.int .i64 r) ∧ k0 ≤ r ∧ r ≤ k0 + 41943040 ∧ Keep (fun k => NotOf A k ∧ NotOf A' k) w w' := by
  have k0' : Below w.heap.size w (w.alloc (Obj.cells #[Value.slice A ms.length c, .int .i64 f, Value.slice A' ls.length c'] 30)) := by go_grown
  have hA := h.below k0'
  have hA' := h'.below k0'
  have hsep : ∀ k, (Value.slice A' ls.length c').ownBlock = some k → NotOf A k := by
    obtain ⟨xs, g1, _⟩ := h
    exact own_types g1 h' (by decide)
  have nb : NotOf A w.heap.size := fun a ha e => by
    subst ha
    have := (h.lt a.block rfl).2
    omega
  have q2 : (w.alloc (Obj.cells #[Value.slice A ms.length c, .int .i64 f, Value.slice A' ls.length c'] 30)).cell? ⟨w.heap.size, 2, none⟩ = some (.slice A' ls.length c') := by simp [go_sem]
  have HS := Lib.hid hsep
  have NB := Lib.hid nb
  clear hsep nb h h'
  go_enter Try.func26, Try.ntmps26
  go_wp2_with fail
  refine (markMapS_r A c ms k0 base _ hA hn h0 (by omega)).mono ?_
  rintro e w1 ⟨r1, rfl, r10, r11, K1⟩
  have q2' := K1.cell (p := ⟨w.heap.size, 2, none⟩) NB.out q2
  have hA2 := OwnInts.keep hA' (fun k hk => HS.out k hk) K1
  have r00 : 0 ≤ r1 := by omega
  go_wp2_with fail
  refine (markInt64S_r A' c' ls r1 base' _ hA2 hn' r00 (by omega)).mono ?_
  rintro e w2 ⟨r2, rfl, r20, r21, K2⟩
  go_wp2
  go_returns
  exact ⟨r2, rfl, by omega, by omega, ((kb k0').trans (K1.mono fun k _ hk => hk.1)).trans (K2.mono fun k _ hk => hk.2)⟩
end Go.Proofs.Ytbodaefdaagelaa
