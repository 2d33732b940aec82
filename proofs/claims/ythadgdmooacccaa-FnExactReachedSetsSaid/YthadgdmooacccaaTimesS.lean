/- 'l01Times': the reference's products. No condition. -/
import Derived.Test.YthadgdmooacccaaMul
import Derived.Test.YthadgdmooacccaaIdent
namespace Go.Proofs.Ythadgdmooacccaa
set_option linter.unusedSimpArgs false
set_option linter.unusedVariables false
set_option linter.unusedSectionVars false
open Go.RowKit
theorem newTo_succ (f g : Mp) {k : Nat} (h : k < 5) : (newTo f g k).set k (g.at (f.to k)) = newTo f g (k + 1) := Mp.ext' (Mp.set_p _ _ _) fun i hi => by
  rw [Mp.set_to _ h]
  unfold newTo
  rw [mkM_to _ _ hi, mkM_to _ _ hi]
  by_cases e : i = k
  · subst e; rw [if_pos rfl, if_pos (by omega)]
  · rw [if_neg e]
    by_cases hlt : i < k
    · rw [if_pos hlt, if_pos (by omega)]
    · rw [if_neg hlt, if_neg (by omega)]
theorem newTo_all {f g : Mp} (hf : IsMp f) {k : Nat} (hk : f.p.toNat = k) : newTo f g k = mulM f g := Mp.ext' rfl fun i hi => by
  unfold newTo mulM mulTo
  rw [mkM_to _ _ hi, mkM_to _ _ hi, hk]
  split
  · rfl
  · exact ((hf.2.2 i hi).2 (by omega)).symm
set_option maxHeartbeats 2000000 in
theorem l01Times_c (f g : Mp) (n : Int) (w : World) (hf : MpN f n) (hg : MpN g n) : Calls Try.prog 99 #[.agg #[.int .i64 f.p, .int .i64 f.a, .int .i64 f.b, .int .i64 f.c, .int .i64 f.d, .int .i64 f.e], .agg #[.int .i64 g.p, .int .i64 g.a, .int .i64 g.b, .int .i64 g.c, .int .i64 g.d, .int .i64 g.e]] w fun e w' => e = .returned (.agg #[.int .i64 (mulM f g).p, .int .i64 (mulM f g).a, .int .i64 (mulM f g).b, .int .i64 (mulM f g).c, .int .i64 (mulM f g).d, .int .i64 (mulM f g).e]) ∧ Below w.heap.size w w' := by
  have h1 := hf.1.1
  have h2 := hf.1.2.1
  go_enter Try.func99, Try.ntmps99
  go_wp2
  go_loopw [6] (fun i wr => ∃ k : Nat, (k : Int) ≤ f.p ∧ i = .int .i64 k ∧ MpBox wr w.heap.size f ∧ MpBox wr (w.heap.size + 1) g ∧ MpBox wr (w.heap.size + 1 + 1) Mp.z ∧ MpBox wr (w.heap.size + 1 + 1 + 1) (newTo f g k) ∧ Below w.heap.size w wr) (fun i _ => f.p.toNat - (intOf i).toNat)
  case atStart => exact ⟨0, by omega, rfl, (((MpBox.new f 61 rfl).keep _).keep _).keep _, ((MpBox.new g 61 (by go_size)).keep _).keep _, (MpBox.new Mp.z 61 (by go_size)).keep _, MpBox.new (newTo f g 0) 61 (by go_size), by go_grown⟩
  case round =>
    obtain ⟨k, hk, rfl, hm, hgb, hz, ho, hb⟩ := hrel
    have hsz := hb.size
    have qp := hm.at.h0
    by_cases hlt : (k : Int) < f.p
    · have hk5 : k < 5 := by omega
      have q := hm.at.to' hk5
      have hr := (hf.1.2.2 k hk5).1 hlt
      have r0 := hr.1
      have r1 : f.to k < 5 := by omega
      have p := hgb.at.to' (i := (f.to k).toNat) (by omega)
      have e : g.to (f.to k).toNat = g.at (f.to k) := rfl
      rw [e] at p
      clear e
      have fr := ho.free
      have qo := ho.at.to' hk5
      have l0 : (0 : Int) ≤ k := by omega
      have l5 : (k : Int) < 5 := by omega
      go_wp2
      go_roundw
      case rel => exact ⟨k + 1, by omega, by go_num, hm.far (by simp <;> omega) _, hgb.far (by simp <;> omega) _, hz.far (by simp <;> omega) _, by rw [← newTo_succ f g hk5]; exact ho.set hk5 _, by go_grown⟩
      case measure => simp [intOf]; omega
    · have hkp : f.p.toNat = k := by omega
      have HK := Lib.hid (newTo_all (g := g) hf.1 hkp)
      rw [HK.out] at ho
      obtain ⟨q0, q1, q2, q3, q4, q5⟩ := ho.at.cells0
      obtain ⟨z0, z1, z2, z3, z4, z5⟩ := hz.at.cells0
      have fr := hz.free
      clear hkp
      go_wp2
      refine bodyPost_ret (v := .agg #[.int .i64 (mulM f g).p, .int .i64 (mulM f g).a, .int .i64 (mulM f g).b, .int .i64 (mulM f g).c, .int .i64 (mulM f g).d, .int .i64 (mulM f g).e]) (by simp [results, Try.results99, go_sem, z0, z1, z2, z3, z4, z5]) rfl ⟨rfl, by go_grown⟩
end Go.Proofs.Ythadgdmooacccaa
