/- 'least', the program's side: the classes of the points that are reached. No condition. -/
import Derived.Test.YtbodaefdaagelaaLeastP
import Derived.Test.YtbodaefdaagelaaNum
namespace Go.Proofs.Ytbodaefdaagelaa
set_option linter.unusedSimpArgs false
set_option linter.unusedVariables false
set_option linter.unusedSectionVars false
open Go.RowKit
set_option maxHeartbeats 4000000 in
set_option maxRecDepth 100000 in
theorem least1_same {B b1 b3 cA c' co : Nat} {A A' Ao : Option Addr} {ms : List Mp} {f n : Int} {ls order : List Int} {w : World} (hr : RightL ms n) (ho : ∀ i, i < order.length → 0 ≤ cls order i ∧ cls order i < n)
    (acc : AccAt w B A A' cA c' ms f ls) (hl : ls.length ≤ 2097152) (v1 : VBox w b1 (.pointer (some ⟨B, 0, none⟩))) (v3 : VBox w b3 (.slice Ao order.length co)) (so : SeeInts w Ao order) :
    SameP 122 #[.pointer (some ⟨b1, 0, none⟩), .pointer (some ⟨b3, 0, none⟩)] (eqS ms ls order) order.length w := fun W k i hW hki hi => by
  have q1 := (v1.below hW).cell
  have q3 := (v3.below hW).cell
  obtain ⟨bo, oo, rfl, go⟩ := (so.below hW).cls (by omega)
  have qk := go k (by omega)
  have qi := go i hi
  have hk0 := ho k (by omega)
  have hi0 := ho i hi
  have hap := apart_c B A A' cA c' ms f ls n (cls order k) (cls order i) W.drew ((acc.below hW).below (Below.drew (Below.refl _ _))) hr hl hk0.1 hk0.2 hi0.1 hi0.2
  have HE := Lib.hid (show eqS ms ls order k i = decide ((fw (stP ms ms) ms.length (cls order k, cls order i) (isP ls ls)).2 = 4) from rfl)
  obtain ⟨r, hrr⟩ : ∃ r, r = eqS ms ls order k i := ⟨_, rfl⟩
  rw [← hrr] at HE
  show Calls Try.prog 122 #[.int .i64 (k : Int), .int .i64 (i : Int), .pointer (some ⟨b1, 0, none⟩), .pointer (some ⟨b3, 0, none⟩)] W fun e w' => e = .returned (.bool (eqS ms ls order k i)) ∧ Below W.heap.size W w'
  rw [← hrr]
  have k0 : (0 : Int) ≤ k := by omega
  have k1 : (k : Int) < order.length := by omega
  have i0 : (0 : Int) ≤ i := by omega
  have i1 : (i : Int) < order.length := by omega
  generalize cls order k = x at *
  generalize cls order i = y at *
  generalize fw (stP ms ms) ms.length (x, y) (isP ls ls) = res at *
  have HAP := Lib.hid hap
  clear hap hrr v1 v3 so acc go ho hr
  go_enter Try.func122, Try.ntmps122
  go_wp2
  go_region_held3 (fun w' => w'.cell? ⟨b1, 0, none⟩ = some (.pointer (some ⟨B, 0, none⟩)) ∧ w'.cell? ⟨b3, 0, none⟩ = some (.slice (some ⟨bo, oo, none⟩) order.length co) ∧ w'.cell? ⟨bo, oo + k, none⟩ = some (.int .i64 x) ∧ w'.cell? ⟨bo, oo + i, none⟩ = some (.int .i64 y)) (go_keep) (first | (go_at_call 80; refine HAP.out.mono ?_; rintro e w2 ⟨v2, rfl, own2, hb2⟩; obtain ⟨A2, c2, rfl, _⟩ := own2.see; replace hb2 := bdr hb2; have q1' := bcell hb2 q1; have q3' := bcell hb2 q3; have qk' := bcell hb2 qk; have qi' := bcell hb2 qi))
  have hb := hb2
  have hd : (res.2 == 4) = r := by
    rw [HE.out]
    by_cases e : res.2 = 4
    · rw [e]; rfl
    · rw [decide_eq_false e]; exact beq_eq_false_iff_ne.2 e
  generalize res.2 = code at *
  have HD := Lib.hid hd
  clear hd
  go_wp2
  go_returns
  exact ⟨ret_bool HD.out, hb⟩
end Go.Proofs.Ytbodaefdaagelaa
