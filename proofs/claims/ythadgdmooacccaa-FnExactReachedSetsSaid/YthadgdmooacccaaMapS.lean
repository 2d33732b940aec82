/- 'l05Map': the reference's maps of words. No condition. -/
import Derived.Test.YthadgdmooacccaaTimesS
import Derived.Test.YthadgdmooacccaaWord
namespace Go.Proofs.Ythadgdmooacccaa
set_option linter.unusedSimpArgs false
set_option linter.unusedVariables false
set_option linter.unusedSectionVars false
open Go.RowKit
set_option maxHeartbeats 4000000 in
theorem l05Map_c (A A' : Option Addr) (c c' : Nat) (ms : List Mp) (word : List Int) (n : Int) (w : World) (h : SeeMaps w A ms) (h' : SeeInts w A' word) (hr : RightL ms n) (hw : InL ms.length word) (hn' : word.length ≤ 2097152) :
    Calls Try.prog 63 #[.slice A ms.length c, .slice A' word.length c'] w fun e w' => e = .returned (.agg #[.int .i64 (mapW ms word).p, .int .i64 (mapW ms word).a, .int .i64 (mapW ms word).b, .int .i64 (mapW ms word).c, .int .i64 (mapW ms word).d, .int .i64 (mapW ms word).e]) ∧ Below w.heap.size w w' := by
  obtain ⟨b0, o0, m0, rfl, hm0, g0⟩ := h.at_ hr.pos
  have hd : ms.headD Mp.z = m0 := by
    cases ms with
    | nil => simp at hm0
    | cons x xs => simp at hm0; simp [hm0]
  have hp : m0.p = n := (hr.all m0 (List.mem_of_getElem? hm0)).2
  have p0 : w.cell? ⟨b0, o0, none⟩ = some (.int .i64 n) := by rw [← hp]; simpa using g0.h0
  have lpos := hr.pos
  have n1 := hr.bounds.1
  have n5 := hr.bounds.2
  have HD := Lib.hid (show mapTo ms word 0 = idM n by unfold mapTo; rw [hd, hp]; rfl)
  have k0 : Below w.heap.size w (w.alloc (Obj.cells #[.int .i64 0, .int .i64 0, .int .i64 0, .int .i64 0, .int .i64 0, .int .i64 0] 61)) := by go_grown
  replace p0 := bcell k0 p0
  clear hm0 g0 hd hp
  go_enter Try.func63, Try.ntmps63
  go_wp2_with fail
  refine (l01Identity_c n _ n1 n5).mono ?_
  rintro e w1 ⟨rfl, hb1⟩
  have hz1 := hb1.size
  have hz1' : w.heap.size < w1.heap.size := by simp at hz1; omega
  have hbx0 : MpBox w1 w.heap.size Mp.z := (MpBox.new Mp.z 61 rfl).below hb1
  have hb2 : Below w.heap.size w w1 := btrans (by repeat' (first | (with_reducible exact Below.refl _ _) | (with_reducible assumption) | (with_reducible refine bdrewN ?_ _) | (with_reducible refine Below.alloc ?_ ?_ _) | (with_reducible refine Below.drew ?_) | (with_reducible refine Below.setCell ?_ ?_ _) | go_size)) hb1
  clear hb1 hz1
  go_wp2
  go_loopw [6] (fun i wr => ∃ k : Nat, k ≤ word.length ∧ i = .int .i64 k ∧ MpBox wr w.heap.size Mp.z ∧ MpBox wr w1.heap.size (mapTo ms word k) ∧ Below w.heap.size w wr) (fun i _ => word.length - (intOf i).toNat)
  case atStart =>
    refine ⟨0, Nat.zero_le _, rfl, hbx0.keep _, ?_, (by repeat' (first | (with_reducible exact Below.refl _ _) | (with_reducible assumption) | (with_reducible refine bdrewN ?_ _) | (with_reducible refine Below.alloc ?_ ?_ _) | (with_reducible refine Below.drew ?_) | (with_reducible refine Below.setCell ?_ ?_ _) | go_size))⟩
    rw [HD.out]
    exact MpBox.new (idM n) 61 rfl
  case round =>
    clear hbx0 hb2
    obtain ⟨k, hk, rfl, hz, hbox, hb⟩ := hrel
    by_cases hlt : k < word.length
    · obtain ⟨b', o', x, rfl, hx, q⟩ := (h'.below hb).at_ hlt
      have hxr := hw x (List.mem_of_getElem? hx)
      obtain ⟨b2, o2, e2, gx⟩ := (h.below hb).nthAt hxr.1 (by omega)
      simp only [Option.some.injEq, Addr.mk.injEq, and_true] at e2
      obtain ⟨rfl, rfl⟩ := e2
      obtain ⟨q0, q1, q2, q3, q4, q5⟩ := gx.bw
      have hfN := mapTo_MpN hr hw k
      have hgN := hr.nth hxr.1 (by omega)
      obtain ⟨r0, r1, r2, r3, r4, r5⟩ := hbox.at.bw
      simp only [Nat.zero_add] at r0 r1 r2 r3 r4 r5
      have hfr : ∀ y : BW wr, ∀ j, y.1.frozen? ⟨w1.heap.size, j, none⟩ = false := fun y => (hbox.below y.2).free
      have hl : (0 : Int) ≤ k := by omega
      have hl' : (k : Int) < word.length := by omega
      have x0 := hxr.1
      have x1 : x < ms.length := by omega
      have qx := bwcell q
      have HX := Lib.hid hx
      have HF := Lib.hid hfN
      have HG := Lib.hid hgN
      clear hx h h' hw hr hxr gx hfN hgN q
      go_wp2
      refine wp_region_tail 9 (by kernel_rfl) (by kernel_rfl) ?_
      simp only [List.take, List.drop]
      repeat go_big_quiet_step ((go_at_call 99; exact Calls.bw _ (l01Times_c _ _ n _ HF.out HG.out)))
      refine wpQuiet_nil ?_
      rintro ⟨w2, hb2⟩
      have hbox2 := hbox.below hb2
      have s0 := hbox2.free
      obtain ⟨t0, t1, t2, t3, t4, t5⟩ := hbox2.at.cells0
      clear hfr q0 q1 q2 q3 q4 q5 r0 r1 r2 r3 r4 r5 qx
      go_wp2
      go_roundw
      case rel =>
        refine ⟨k + 1, by omega, by go_num, ?_, ?_, ?_⟩
        · exact ((((((hz.below hb2).far (by simp; omega) _).far (by simp; omega) _).far (by simp; omega) _).far (by simp; omega) _).far (by simp; omega) _).far (by simp; omega) _
        · rw [mapTo_succ HX.out]
          exact hbox2.store _
        · have hb3 := btrans hb hb2
          exact (by repeat' (first | (with_reducible exact Below.refl _ _) | (with_reducible assumption) | (with_reducible refine bdrewN ?_ _) | (with_reducible refine Below.alloc ?_ ?_ _) | (with_reducible refine Below.drew ?_) | (with_reducible refine Below.setCell ?_ ?_ _) | go_size))
      case measure => simp [intOf]; omega
    · obtain rfl : k = word.length := by omega
      rw [mapTo_all] at hbox
      obtain ⟨q0, q1, q2, q3, q4, q5⟩ := hbox.at.cells0
      obtain ⟨z0, z1, z2, z3, z4, z5⟩ := hz.at.cells0
      have fr := hz.free
      go_wp2
      refine bodyPost_ret (v := .agg #[.int .i64 (mapW ms word).p, .int .i64 (mapW ms word).a, .int .i64 (mapW ms word).b, .int .i64 (mapW ms word).c, .int .i64 (mapW ms word).d, .int .i64 (mapW ms word).e]) (by simp [results, Try.results63, go_sem, z0, z1, z2, z3, z4, z5]) rfl ⟨rfl, (by repeat' (first | (with_reducible exact Below.refl _ _) | (with_reducible assumption) | (with_reducible refine bdrewN ?_ _) | (with_reducible refine Below.alloc ?_ ?_ _) | (with_reducible refine Below.drew ?_) | (with_reducible refine Below.setCell ?_ ?_ _) | go_size))⟩
end Go.Proofs.Ythadgdmooacccaa
