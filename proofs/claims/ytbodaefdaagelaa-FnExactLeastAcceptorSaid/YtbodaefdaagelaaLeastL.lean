/- 'LeastAcceptor', on both sides. No condition. -/
import Derived.Test.YtbodaefdaagelaaLeastS
namespace Go.Proofs.Ytbodaefdaagelaa
set_option linter.unusedSimpArgs false
set_option linter.unusedVariables false
set_option linter.unusedSectionVars false
open Go.RowKit
set_option maxHeartbeats 4000000 in
theorem implLeastAcceptor_l {A A' : Option Addr} {c c' : Nat} {ms : List Mp} {f : Int} {ls : List Int} {w : World} (h : SeeMaps w A ms) (hn : ms.length ≤ 2097152) (hA : NilOk A c) (h' : SeeInts w A' ls) (hn' : ls.length ≤ 2097152) (hA' : NilOk A' c') :
    Calls Try.prog 45 #[.agg #[.slice A ms.length c, .int .i64 f, .slice A' ls.length c']] w fun e w' => ∃ v v', e = .returned (.tuple #[.agg #[v, .int .i64 (RLeastAcceptor ms f ls).1.2.1, v'], .int .i64 (RLeastAcceptor ms f ls).2]) ∧ OwnMaps w' w.heap.size v (RLeastAcceptor ms f ls).1.1 ∧ OwnInts w' w.heap.size v' (RLeastAcceptor ms f ls).1.2.2 ∧ Below w.heap.size w w' := by
  obtain ⟨W1, hW1⟩ : ∃ W1, W1 = (w.alloc (Obj.cells #[Value.slice A ms.length c, .int .i64 f, Value.slice A' ls.length c'] 30)).alloc (Obj.cells #[Value.slice none 0 0, .int .i64 0, Value.slice none 0 0] 30) := ⟨_, rfl⟩
  have k1 : Below w.heap.size w W1 := by rw [hW1]; go_grown
  have at1 : AccAt W1 w.heap.size A A' c c' ms f ls := by rw [hW1]; exact (AccAt.new h h' _).below (kbelow _ _)
  have rb1 : OBox W1 (w.heap.size + 1) (.slice none 0 0) 0 (.slice none 0 0) := by rw [hW1]; exact OBox.new _ _ _ _ (by simp)
  have hacc := IsAcceptor_c A A' c c' ms f ls W1 at1.sm hn hA at1.sl hn'
  obtain ⟨r, hr⟩ : ∃ r, r = RLeastAcceptor ms f ls := ⟨_, rfl⟩
  rw [← hr]
  have HR := Lib.hid hr
  have HK0 := Lib.hid k1
  have AT1 := Lib.hid at1
  have b0 := at1.c0
  have b1 := at1.c1
  have b2 := at1.c2
  clear hr k1 h h' hA at1
  cases hac : accB ms f ls
  · rw [hac] at hacc
    have HACC := Lib.hid hacc
    have E1 := Lib.hid (show r = (([], 0, []), 1) by rw [HR.out]; unfold RLeastAcceptor; rw [if_neg (by rw [hac]; decide)])
    clear hacc hac HR
    go_enter Try.func45, Try.ntmps45
    go_wp2_with fail
    rw [← hW1]
    clear hW1
    refine HACC.out.mono ?_
    rintro e w1 ⟨rfl, hb1⟩
    have rb := rb1.below hb1
    obtain ⟨rz, ry, rx⟩ := rb.cells
    have fy := rb.free
    have hb := btrans HK0.out hb1
    go_wp2
    refine bodyPost_ret (v := .tuple #[.agg #[.slice none 0 0, .int .i64 0, .slice none 0 0], .int .i64 1]) (by simp [results, Try.results45, go_sem, rz, ry, rx]) rfl ?_
    rw [E1.out]
    exact ⟨_, _, rfl, OwnMaps.none _ _, OwnInts.nil _ _, by go_grown⟩
  · rw [hac] at hacc
    have HACC := Lib.hid hacc
    have ra := RightA.of hac
    obtain ⟨lm, ll, hl⟩ : ∃ lm ll, leastA ms f ls = (lm, 0, ll) := ⟨_, _, rfl⟩
    have E1 := Lib.hid (show r = ((lm, 0, ll), 0) by rw [HR.out, ← hl]; unfold RLeastAcceptor; rw [if_pos hac])
    have HLC := Lib.hid (fun W (hW : Below W1.heap.size W1 W) => least_c ra (AT1.out.below hW) hn' hn)
    rw [hl] at HLC
    clear hacc hac HR ra hl
    go_enter Try.func45, Try.ntmps45
    go_wp2_with fail
    rw [← hW1]
    clear hW1
    refine HACC.out.mono ?_
    rintro e w1 ⟨rfl, hb1⟩
    go_wp2_with fail
    refine (HLC.out w1 hb1).mono ?_
    rintro e w2 ⟨v, v', rfl, own, own', hb2⟩
    obtain ⟨A2, c2, rfl, _⟩ := own.see
    obtain ⟨A3, c3, rfl, _⟩ := own'.see
    have rb := rb1.below (btrans hb1 hb2)
    obtain ⟨rz, ry, rx⟩ := rb.cells
    have fy := rb.free
    have hb := btrans HK0.out (btrans hb1 hb2)
    have zz := (btrans HK0.out hb1).size
    have zz2 := rb1.lt
    have zz3 := hb1.size
    go_wp2
    refine bodyPost_ret (v := .tuple #[.agg #[.slice A2 lm.length c2, .int .i64 0, .slice A3 ll.length c3], .int .i64 0]) (by simp [results, Try.results45, go_sem, rz, ry, rx]) rfl ?_
    rw [E1.out]
    refine ⟨_, _, rfl, ?_, ?_, by go_grown⟩
    · refine OwnMaps.mono ?_ zz
      iterate 3 refine OwnMaps.setBelow ?_ (by simp; omega) _
      exact own
    · refine OwnInts.mono ?_ zz
      iterate 3 refine OwnInts.setBelow ?_ (by simp; omega) _
      exact own'
set_option maxHeartbeats 4000000 in
theorem specLeastAcceptor_l {A A' : Option Addr} {c c' : Nat} {ms : List Mp} {f : Int} {ls : List Int} {w : World} (h : SeeMaps w A ms) (hn : ms.length ≤ 2097152) (hA : NilOk A c) (h' : SeeInts w A' ls) (hn' : ls.length ≤ 2097152) (hA' : NilOk A' c') :
    Calls Try.prog 44 #[.agg #[.slice A ms.length c, .int .i64 f, .slice A' ls.length c']] w fun e w' => ∃ v v', e = .returned (.tuple #[.agg #[v, .int .i64 (RLeastAcceptor ms f ls).1.2.1, v'], .int .i64 (RLeastAcceptor ms f ls).2]) ∧ OwnMaps w' w.heap.size v (RLeastAcceptor ms f ls).1.1 ∧ OwnInts w' w.heap.size v' (RLeastAcceptor ms f ls).1.2.2 ∧ Below w.heap.size w w' := by
  obtain ⟨W1, hW1⟩ : ∃ W1, W1 = (w.alloc (Obj.cells #[Value.slice A ms.length c, .int .i64 f, Value.slice A' ls.length c'] 30)).alloc (Obj.cells #[Value.slice none 0 0, .int .i64 0, Value.slice none 0 0] 30) := ⟨_, rfl⟩
  have k1 : Below w.heap.size w W1 := by rw [hW1]; go_grown
  have at1 : AccAt W1 w.heap.size A A' c c' ms f ls := by rw [hW1]; exact (AccAt.new h h' _).below (kbelow _ _)
  have rb1 : OBox W1 (w.heap.size + 1) (.slice none 0 0) 0 (.slice none 0 0) := by rw [hW1]; exact OBox.new _ _ _ _ (by simp)
  have hacc := l07Is_c A A' c c' ms f ls W1 at1.sm hn at1.sl hn'
  obtain ⟨r, hr⟩ : ∃ r, r = RLeastAcceptor ms f ls := ⟨_, rfl⟩
  rw [← hr]
  have HR := Lib.hid hr
  have HK0 := Lib.hid k1
  have AT1 := Lib.hid at1
  have b0 := at1.c0
  have b1 := at1.c1
  have b2 := at1.c2
  clear hr k1 h h' hA at1
  cases hac : accB ms f ls
  · rw [hac] at hacc
    have HACC := Lib.hid hacc
    have E1 := Lib.hid (show r = (([], 0, []), 1) by rw [HR.out]; unfold RLeastAcceptor; rw [if_neg (by rw [hac]; decide)])
    clear hacc hac HR
    go_enter Try.func44, Try.ntmps44
    go_wp2_with fail
    rw [← hW1]
    clear hW1
    refine HACC.out.mono ?_
    rintro e w1 ⟨rfl, hb1⟩
    have rb := rb1.below hb1
    obtain ⟨rz, ry, rx⟩ := rb.cells
    have fy := rb.free
    have hb := btrans HK0.out hb1
    go_wp2
    refine bodyPost_ret (v := .tuple #[.agg #[.slice none 0 0, .int .i64 0, .slice none 0 0], .int .i64 1]) (by simp [results, Try.results44, go_sem, rz, ry, rx]) rfl ?_
    rw [E1.out]
    exact ⟨_, _, rfl, OwnMaps.none _ _, OwnInts.nil _ _, by go_grown⟩
  · rw [hac] at hacc
    have HACC := Lib.hid hacc
    have ra := RightA.of hac
    obtain ⟨lm, ll, hl⟩ : ∃ lm ll, leastA ms f ls = (lm, 0, ll) := ⟨_, _, rfl⟩
    have E1 := Lib.hid (show r = ((lm, 0, ll), 0) by rw [HR.out, ← hl]; unfold RLeastAcceptor; rw [if_pos hac])
    have HLC := Lib.hid (fun W (hW : Below W1.heap.size W1 W) => l07Least_c (c := c) (c' := c') ra (AT1.out.below hW).sm (AT1.out.below hW).sl hn')
    rw [hl] at HLC
    clear hacc hac HR ra hl
    go_enter Try.func44, Try.ntmps44
    go_wp2_with fail
    rw [← hW1]
    clear hW1
    refine HACC.out.mono ?_
    rintro e w1 ⟨rfl, hb1⟩
    have c0 := bcell hb1 b0
    have c1 := bcell hb1 b1
    have c2 := bcell hb1 b2
    go_wp2_with fail
    refine (HLC.out w1 hb1).mono ?_
    rintro e w2 ⟨v, v', rfl, own, own', hb2⟩
    obtain ⟨A2, c2, rfl, _⟩ := own.see
    obtain ⟨A3, c3, rfl, _⟩ := own'.see
    have rb := rb1.below (btrans hb1 hb2)
    obtain ⟨rz, ry, rx⟩ := rb.cells
    have fy := rb.free
    have hb := btrans HK0.out (btrans hb1 hb2)
    have zz := (btrans HK0.out hb1).size
    have zz2 := rb1.lt
    have zz3 := hb1.size
    go_wp2
    refine bodyPost_ret (v := .tuple #[.agg #[.slice A2 lm.length c2, .int .i64 0, .slice A3 ll.length c3], .int .i64 0]) (by simp [results, Try.results44, go_sem, rz, ry, rx]) rfl ?_
    rw [E1.out]
    refine ⟨_, _, rfl, ?_, ?_, by go_grown⟩
    · refine OwnMaps.mono ?_ zz
      iterate 3 refine OwnMaps.setBelow ?_ (by simp; omega) _
      exact own
    · refine OwnInts.mono ?_ zz
      iterate 3 refine OwnInts.setBelow ?_ (by simp; omega) _
      exact own'
end Go.Proofs.Ytbodaefdaagelaa
