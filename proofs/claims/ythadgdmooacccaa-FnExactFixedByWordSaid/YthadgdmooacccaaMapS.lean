/- 'l01Identity', 'l01Times', 'l05Map': the reference's maps of words. No condition. -/
import Derived.Test.YthadgdmooacccaaMul
import Derived.Test.YthadgdmooacccaaWord
namespace Go.Proofs.Ythadgdmooacccaa
set_option linter.unusedSimpArgs false
set_option linter.unusedVariables false
set_option linter.unusedSectionVars false
open Go.RowKit
set_option maxHeartbeats 1000000 in
theorem l01Identity_c (n : Int) (w : World) (h1 : 1 ≤ n) (h2 : n ≤ 5) : Calls Try.prog 98 #[.int .i64 n] w fun e w' => e = .returned (.agg #[.int .i64 (idM n).p, .int .i64 (idM n).a, .int .i64 (idM n).b, .int .i64 (idM n).c, .int .i64 (idM n).d, .int .i64 (idM n).e]) ∧ Below w.heap.size w w' := by
  go_enter Try.func98, Try.ntmps98
  go_wp2
  go_loopw [4] (fun i wr => ∃ k : Nat, (k : Int) ≤ n ∧ i = .int .i64 k ∧ MpBox wr w.heap.size Mp.z ∧ MpBox wr (w.heap.size + 1) (idTo n k) ∧ Below w.heap.size w wr) (fun i _ => n.toNat - (intOf i).toNat)
  case atStart => exact ⟨0, by omega, rfl, (MpBox.new Mp.z 61 rfl).keep _, MpBox.new (idTo n 0) 61 (by go_size), by go_grown⟩
  case round =>
    obtain ⟨k, hk, rfl, hz, hm, hb⟩ := hrel
    have hsz := hb.size
    by_cases hlt : (k : Int) < n
    · have hk5 : k < 5 := by omega
      have q := hm.at.to' hk5
      have f := hm.free
      have l0 : (0 : Int) ≤ k := by omega
      have l5 : (k : Int) < 5 := by omega
      go_wp2
      go_roundw
      case rel => exact ⟨k + 1, by omega, by go_num, hz.far (by simp <;> omega) _, by rw [← idTo_succ n hk5]; exact hm.set hk5 _, by go_grown⟩
      case measure => simp [intOf]; omega
    · obtain rfl : n = (k : Int) := by omega
      obtain ⟨q0, q1, q2, q3, q4, q5⟩ := hm.at.cells0
      obtain ⟨z0, z1, z2, z3, z4, z5⟩ := hz.at.cells0
      have f := hz.free
      go_wp2
      refine bodyPost_ret (v := .agg #[.int .i64 (idM k).p, .int .i64 (idM k).a, .int .i64 (idM k).b, .int .i64 (idM k).c, .int .i64 (idM k).d, .int .i64 (idM k).e]) (by simp [results, Try.results98, go_sem, z0, z1, z2, z3, z4, z5, idM]) rfl ⟨rfl, by go_grown⟩
/-- the product f g, made up to k in a new map -/
def newTo (f g : Mp) (k : Nat) : Mp := mkM f.p fun i => if i < k then g.at (f.to i) else 0
theorem newTo_succ (f g : Mp) {k : Nat} (h : k < 5) : (newTo f g k).set k (g.at (f.to k)) = newTo f g (k + 1) := Mp.ext' (Mp.set_p _ _ _) fun i hi => by
  rw [Mp.set_to _ h]
  unfold newTo
  rw [mkM_to _ _ hi, mkM_to _ _ hi]
  by_cases e : i = k
  · subst e; rw [if_pos rfl, if_pos (by omega)]
  · rw [if_neg e]
    by_cases hlt : i < k
    · rw [if_pos hlt, if_pos (by omega)]
    · rw [if_neg hlt, if_neg (by omega)]
theorem newTo_all {f g : Mp} (hf : IsMp f) {k : Nat} (hk : f.p.toNat = k) : newTo f g k = mulM f g := Mp.ext' rfl fun i hi => by
  unfold newTo mulM mulTo
  rw [mkM_to _ _ hi, mkM_to _ _ hi, hk]
  split
  · rfl
  · exact ((hf.2.2 i hi).2 (by omega)).symm
set_option maxHeartbeats 2000000 in
theorem l01Times_c (f g : Mp) (n : Int) (w : World) (hf : MpN f n) (hg : MpN g n) : Calls Try.prog 99 #[.agg #[.int .i64 f.p, .int .i64 f.a, .int .i64 f.b, .int .i64 f.c, .int .i64 f.d, .int .i64 f.e], .agg #[.int .i64 g.p, .int .i64 g.a, .int .i64 g.b, .int .i64 g.c, .int .i64 g.d, .int .i64 g.e]] w fun e w' => e = .returned (.agg #[.int .i64 (mulM f g).p, .int .i64 (mulM f g).a, .int .i64 (mulM f g).b, .int .i64 (mulM f g).c, .int .i64 (mulM f g).d, .int .i64 (mulM f g).e]) ∧ Below w.heap.size w w' := by
  have h1 := hf.1.1
  have h2 := hf.1.2.1
  go_enter Try.func99, Try.ntmps99
  go_wp2
  go_loopw [6] (fun i wr => ∃ k : Nat, (k : Int) ≤ f.p ∧ i = .int .i64 k ∧ MpBox wr w.heap.size f ∧ MpBox wr (w.heap.size + 1) g ∧ MpBox wr (w.heap.size + 1 + 1) Mp.z ∧ MpBox wr (w.heap.size + 1 + 1 + 1) (newTo f g k) ∧ Below w.heap.size w wr) (fun i _ => f.p.toNat - (intOf i).toNat)
  case atStart => exact ⟨0, by omega, rfl, (((MpBox.new f 61 rfl).keep _).keep _).keep _, ((MpBox.new g 61 (by go_size)).keep _).keep _, (MpBox.new Mp.z 61 (by go_size)).keep _, MpBox.new (newTo f g 0) 61 (by go_size), by go_grown⟩
  case round =>
    obtain ⟨k, hk, rfl, hm, hgb, hz, ho, hb⟩ := hrel
    have hsz := hb.size
    have qp := hm.at.h0
    by_cases hlt : (k : Int) < f.p
    · have hk5 : k < 5 := by omega
      have q := hm.at.to' hk5
      have hr := (hf.1.2.2 k hk5).1 hlt
      have r0 := hr.1
      have r1 : f.to k < 5 := by omega
      have p := hgb.at.to' (i := (f.to k).toNat) (by omega)
      have e : g.to (f.to k).toNat = g.at (f.to k) := rfl
      rw [e] at p
      clear e
      have fr := ho.free
      have qo := ho.at.to' hk5
      have l0 : (0 : Int) ≤ k := by omega
      have l5 : (k : Int) < 5 := by omega
      go_wp2
      go_roundw
      case rel => exact ⟨k + 1, by omega, by go_num, hm.far (by simp <;> omega) _, hgb.far (by simp <;> omega) _, hz.far (by simp <;> omega) _, by rw [← newTo_succ f g hk5]; exact ho.set hk5 _, by go_grown⟩
      case measure => simp [intOf]; omega
    · have hkp : f.p.toNat = k := by omega
      have HK := Lib.hid (newTo_all (g := g) hf.1 hkp)
      rw [HK.out] at ho
      obtain ⟨q0, q1, q2, q3, q4, q5⟩ := ho.at.cells0
      obtain ⟨z0, z1, z2, z3, z4, z5⟩ := hz.at.cells0
      have fr := hz.free
      clear hkp
      go_wp2
      refine bodyPost_ret (v := .agg #[.int .i64 (mulM f g).p, .int .i64 (mulM f g).a, .int .i64 (mulM f g).b, .int .i64 (mulM f g).c, .int .i64 (mulM f g).d, .int .i64 (mulM f g).e]) (by simp [results, Try.results99, go_sem, z0, z1, z2, z3, z4, z5]) rfl ⟨rfl, by go_grown⟩
set_option maxHeartbeats 4000000 in
theorem l05Map_c (A A' : Option Addr) (c c' : Nat) (ms : List Mp) (word : List Int) (n : Int) (w : World) (h : SeeMaps w A ms) (h' : SeeInts w A' word) (hr : RightL ms n) (hw : InL ms.length word) (hn' : word.length ≤ 2097152) :
    Calls Try.prog 63 #[.slice A ms.length c, .slice A' word.length c'] w fun e w' => e = .returned (.agg #[.int .i64 (mapW ms word).p, .int .i64 (mapW ms word).a, .int .i64 (mapW ms word).b, .int .i64 (mapW ms word).c, .int .i64 (mapW ms word).d, .int .i64 (mapW ms word).e]) ∧ Below w.heap.size w w' := by
  obtain ⟨b0, o0, m0, rfl, hm0, g0⟩ := h.at_ hr.pos
  have hd : ms.headD Mp.z = m0 := by
    cases ms with
    | nil => simp at hm0
    | cons x xs => simp at hm0; simp [hm0]
  have hp : m0.p = n := (hr.all m0 (List.mem_of_getElem? hm0)).2
  have p0 : w.cell? ⟨b0, o0, none⟩ = some (.int .i64 n) := by rw [← hp]; simpa using g0.h0
  have lpos := hr.pos
  have n1 := hr.bounds.1
  have n5 := hr.bounds.2
  have HD := Lib.hid (show mapTo ms word 0 = idM n by unfold mapTo; rw [hd, hp]; rfl)
  have k0 : Below w.heap.size w (w.alloc (Obj.cells #[.int .i64 0, .int .i64 0, .int .i64 0, .int .i64 0, .int .i64 0, .int .i64 0] 61)) := by go_grown
  replace p0 := bcell k0 p0
  clear hm0 g0 hd hp
  go_enter Try.func63, Try.ntmps63
  go_wp2_with fail
  refine (l01Identity_c n _ n1 n5).mono ?_
  rintro e w1 ⟨rfl, hb1⟩
  have hz1 := hb1.size
  have hz1' : w.heap.size < w1.heap.size := by simp at hz1; omega
  have hbx0 : MpBox w1 w.heap.size Mp.z := (MpBox.new Mp.z 61 rfl).below hb1
  have hb2 : Below w.heap.size w w1 := btrans (by repeat' (first | (with_reducible exact Below.refl _ _) | (with_reducible assumption) | (with_reducible refine bdrewN ?_ _) | (with_reducible refine Below.alloc ?_ ?_ _) | (with_reducible refine Below.drew ?_) | (with_reducible refine Below.setCell ?_ ?_ _) | go_size)) hb1
  clear hb1 hz1
  go_wp2
  go_loopw [6] (fun i wr => ∃ k : Nat, k ≤ word.length ∧ i = .int .i64 k ∧ MpBox wr w.heap.size Mp.z ∧ MpBox wr w1.heap.size (mapTo ms word k) ∧ Below w.heap.size w wr) (fun i _ => word.length - (intOf i).toNat)
  case atStart =>
    refine ⟨0, Nat.zero_le _, rfl, hbx0.keep _, ?_, (by repeat' (first | (with_reducible exact Below.refl _ _) | (with_reducible assumption) | (with_reducible refine bdrewN ?_ _) | (with_reducible refine Below.alloc ?_ ?_ _) | (with_reducible refine Below.drew ?_) | (with_reducible refine Below.setCell ?_ ?_ _) | go_size))⟩
    rw [HD.out]
    exact MpBox.new (idM n) 61 rfl
  case round =>
    clear hbx0 hb2
    obtain ⟨k, hk, rfl, hz, hbox, hb⟩ := hrel
    by_cases hlt : k < word.length
    · obtain ⟨b', o', x, rfl, hx, q⟩ := (h'.below hb).at_ hlt
      have hxr := hw x (List.mem_of_getElem? hx)
      obtain ⟨b2, o2, e2, gx⟩ := (h.below hb).nthAt hxr.1 (by omega)
      simp only [Option.some.injEq, Addr.mk.injEq, and_true] at e2
      obtain ⟨rfl, rfl⟩ := e2
      obtain ⟨q0, q1, q2, q3, q4, q5⟩ := gx.bw
      have hfN := mapTo_MpN hr hw k
      have hgN := hr.nth hxr.1 (by omega)
      obtain ⟨r0, r1, r2, r3, r4, r5⟩ := hbox.at.bw
      simp only [Nat.zero_add] at r0 r1 r2 r3 r4 r5
      have hfr : ∀ y : BW wr, ∀ j, y.1.frozen? ⟨w1.heap.size, j, none⟩ = false := fun y => (hbox.below y.2).free
      have hl : (0 : Int) ≤ k := by omega
      have hl' : (k : Int) < word.length := by omega
      have x0 := hxr.1
      have x1 : x < ms.length := by omega
      have qx := bwcell q
      have HX := Lib.hid hx
      have HF := Lib.hid hfN
      have HG := Lib.hid hgN
      clear hx h h' hw hr hxr gx hfN hgN q
      go_wp2
      refine wp_region_tail 9 (by kernel_rfl) (by kernel_rfl) ?_
      simp only [List.take, List.drop]
      repeat go_big_quiet_step ((go_at_call 99; exact Calls.bw _ (l01Times_c _ _ n _ HF.out HG.out)))
      refine wpQuiet_nil ?_
      rintro ⟨w2, hb2⟩
      have hbox2 := hbox.below hb2
      have s0 := hbox2.free
      obtain ⟨t0, t1, t2, t3, t4, t5⟩ := hbox2.at.cells0
      clear hfr q0 q1 q2 q3 q4 q5 r0 r1 r2 r3 r4 r5 qx
      go_wp2
      go_roundw
      case rel =>
        refine ⟨k + 1, by omega, by go_num, ?_, ?_, ?_⟩
        · exact ((((((hz.below hb2).far (by simp; omega) _).far (by simp; omega) _).far (by simp; omega) _).far (by simp; omega) _).far (by simp; omega) _).far (by simp; omega) _
        · rw [mapTo_succ HX.out]
          exact hbox2.store _
        · have hb3 := btrans hb hb2
          exact (by repeat' (first | (with_reducible exact Below.refl _ _) | (with_reducible assumption) | (with_reducible refine bdrewN ?_ _) | (with_reducible refine Below.alloc ?_ ?_ _) | (with_reducible refine Below.drew ?_) | (with_reducible refine Below.setCell ?_ ?_ _) | go_size))
      case measure => simp [intOf]; omega
    · obtain rfl : k = word.length := by omega
      rw [mapTo_all] at hbox
      obtain ⟨q0, q1, q2, q3, q4, q5⟩ := hbox.at.cells0
      obtain ⟨z0, z1, z2, z3, z4, z5⟩ := hz.at.cells0
      have fr := hz.free
      go_wp2
      refine bodyPost_ret (v := .agg #[.int .i64 (mapW ms word).p, .int .i64 (mapW ms word).a, .int .i64 (mapW ms word).b, .int .i64 (mapW ms word).c, .int .i64 (mapW ms word).d, .int .i64 (mapW ms word).e]) (by simp [results, Try.results63, go_sem, z0, z1, z2, z3, z4, z5]) rfl ⟨rfl, (by repeat' (first | (with_reducible exact Below.refl _ _) | (with_reducible assumption) | (with_reducible refine bdrewN ?_ _) | (with_reducible refine Below.alloc ?_ ?_ _) | (with_reducible refine Below.drew ?_) | (with_reducible refine Below.setCell ?_ ?_ _) | go_size))⟩
end Go.Proofs.Ythadgdmooacccaa
