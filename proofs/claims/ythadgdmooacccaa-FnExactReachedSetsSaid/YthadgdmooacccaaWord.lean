/- 'isWord' and 'l05Word': whether a list of numbers is a word; 'mapOf': the map of a word. No condition. -/
import Derived.Test.YthadgdmooacccaaFuncs
import Derived.Test.YthadgdmooacccaaMul
namespace Go.Proofs.Ythadgdmooacccaa
set_option linter.unusedSimpArgs false
set_option linter.unusedVariables false
set_option linter.unusedSectionVars false
open Go.RowKit
theorem isWord1_p (A : Option Addr) (n c B : Nat) (xs : List Int) (w : World) (hq : w.cell? ⟨B, 0, none⟩ = some (.slice A n c)) (hn : n ≤ 2097152) :
    PredB 121 #[.pointer (some ⟨B, 0, none⟩)] encI (fun k => !inB k 0 ((n : Int) - 1)) xs w := fun W x _ hb => by
  have q := bcell hb hq
  clear hq hb
  show Calls Try.prog 121 #[.int .i64 x, .pointer (some ⟨B, 0, none⟩)] W _
  go_enter Try.func121, Try.ntmps121
  go_wp2_with (go_at_call 78; go_must (refine (within_c _ _ _ _).mono ?_); rintro e w2 ⟨rfl, hb2⟩)
  go_returns
  exact ⟨rfl, hb2⟩
theorem inL_any (l : Nat) (word : List Int) : (!word.any fun k => !inB k 0 ((l : Int) - 1)) = decide (InL l word) := by
  by_cases h : InL l word
  · rw [decide_eq_true h]
    have : word.any (fun k => !inB k 0 ((l : Int) - 1)) = false := List.any_eq_false.2 fun k hk => by simp [inB_true (h k hk).1 (h k hk).2]
    rw [this]; rfl
  · rw [decide_eq_false h]
    have : word.any (fun k => !inB k 0 ((l : Int) - 1)) = true := by
      unfold InL at h
      simp only [Classical.not_forall] at h
      obtain ⟨k, hk, hn⟩ := h
      exact List.any_eq_true.2 ⟨k, hk, by simp [inB_false hn]⟩
    rw [this]; rfl
set_option maxHeartbeats 1000000 in
theorem isWord_c (A A' : Option Addr) (c c' : Nat) (ms : List Mp) (word : List Int) (most : Int) (w : World) (hn : ms.length ≤ 2097152) (h' : SeeInts w A' word) (hn' : word.length ≤ 2097152) (hm0 : 0 ≤ most) (hm : most ≤ 1000000) :
    Calls Try.prog 93 #[.slice A ms.length c, .slice A' word.length c', .int .i64 most] w fun e w' => e = .returned (.bool (isWordB ms.length word most)) ∧ Below w.heap.size w w' := by
  have k0 : Below w.heap.size w (w.alloc (.cells #[.slice A ms.length c] 27)) := by go_grown
  by_cases hle : (word.length : Int) ≤ most
  · have e0 : isWordB ms.length word most = !word.any fun k => !inB k 0 ((ms.length : Int) - 1) := by rw [inL_any]; simp [isWordB, hle]
    rw [e0]
    clear e0
    go_enter Try.func93, Try.ntmps93
    go_wp2_with (go_at_call 120; go_must (refine (ContainsFuncI_c 121 #[.pointer (some ⟨w.heap.size, 0, none⟩)] (fun k => !inB k 0 ((ms.length : Int) - 1)) (enters_of Try.func121 (by kernel_rfl) rfl) A' c' word _ (h'.below k0) hn' (isWord1_p A ms.length c w.heap.size word _ (by simp [go_sem]) hn)).mono ?_); rintro e w2 ⟨rfl, hb2⟩)
    go_returns
    exact ⟨rfl, btrans k0 hb2⟩
  · have e0 : isWordB ms.length word most = false := by simp [isWordB, hle]
    rw [e0]
    clear e0
    have d : decide ((word.length : Int) ≤ most) = false := decide_eq_false hle
    go_enter Try.func93, Try.ntmps93
    go_wp2
    go_returns
    exact ⟨rfl, k0⟩
set_option maxHeartbeats 1000000 in
theorem l05Word_c (A A' : Option Addr) (c c' : Nat) (ms : List Mp) (word : List Int) (w : World) (hn : ms.length ≤ 2097152) (h' : SeeInts w A' word) (hn' : word.length ≤ 2097152) :
    Calls Try.prog 94 #[.slice A ms.length c, .slice A' word.length c'] w fun e w' => e = .returned (.bool (isWordB ms.length word 40)) ∧ Below w.heap.size w w' := by
  go_enter Try.func94, Try.ntmps94
  go_wp2
  go_loopw [5] (fun i wr => ∃ k : Nat, k ≤ word.length ∧ i = .int .i64 k ∧ AllTo (fun x => 0 ≤ x ∧ x ≤ (ms.length : Int) - 1) word k ∧ Below w.heap.size w wr) (fun i _ => word.length - (intOf i).toNat)
  case atStart => exact ⟨0, Nat.zero_le _, rfl, AllTo.zero _ _, Below.refl _ _⟩
  case round =>
    obtain ⟨k, hk, rfl, hj, hb⟩ := hrel
    by_cases hlt : k < word.length
    · obtain ⟨b, o, x, rfl, hx, q⟩ := (h'.below hb).at_ hlt
      have hl : (0 : Int) ≤ k := by omega
      have hl' : (k : Int) < word.length := by omega
      have HJ := Lib.hid hj
      have HX := Lib.hid hx
      clear hj hx h'
      by_cases hi : 0 ≤ x ∧ x ≤ (ms.length : Int) - 1
      · have hin := inB_true hi.1 hi.2
        go_wp2_with (go_at_call 77; go_must (refine (valB (l01In_c _ _ _ _) hin).mono ?_); rintro e w2 ⟨rfl, hb2⟩)
        go_roundw
        case rel => exact ⟨k + 1, by omega, by go_num, HJ.out.snoc HX.out hi, btrans hb hb2⟩
        case measure => simp [intOf]; omega
      · have hin := inB_false hi
        go_wp2_with (go_at_call 77; go_must (refine (valB (l01In_c _ _ _ _) hin).mono ?_); rintro e w2 ⟨rfl, hb2⟩)
        go_returns
        exact ⟨ret_bool (by
          have : ¬ InL ms.length word := fun H => hi (H x (List.mem_of_getElem? HX.out))
          simp [isWordB, this]), btrans hb hb2⟩
    · obtain rfl : k = word.length := by omega
      go_wp2
      go_returns
      exact ⟨ret_bool (by
        have : InL ms.length word := hj.all
        simp [isWordB, this]), hb⟩
/-- the product of a word's first maps -/
def mapTo (ms : List Mp) (word : List Int) (k : Nat) : Mp := (word.take k).foldl (fun f k => mulM f (nth ms k)) (idM (ms.headD Mp.z).p)
theorem mapTo_MpN {ms : List Mp} {n : Int} (h : RightL ms n) {word : List Int} (hw : InL ms.length word) (k : Nat) : MpN (mapTo ms word k) n := by
  unfold mapTo
  rw [h.head.1]
  exact (mapW_aux h _ _ (fun j hj => hw j (List.mem_of_mem_take hj)) (idM_MpN h.bounds.1 h.bounds.2)).1
theorem mapTo_succ {ms : List Mp} {word : List Int} {k : Nat} {x : Int} (hk : word[k]? = some x) : mapTo ms word (k + 1) = mulM (mapTo ms word k) (nth ms x) := by
  unfold mapTo
  rw [List.take_add_one, hk]
  simp [List.foldl_append]
theorem mapTo_all (ms : List Mp) (word : List Int) : mapTo ms word word.length = mapW ms word := by
  unfold mapTo mapW
  rw [List.take_length]
theorem SeeMaps.nthAt {w : World} {A : Option Addr} {ms : List Mp} (h : SeeMaps w A ms) {k : Int} (h0 : 0 ≤ k) (h1 : k < ms.length) : ∃ b o, A = some ⟨b, o, none⟩ ∧ MpAt w b (o + k.toNat * 6) (nth ms k) := by
  obtain ⟨b, o, x, e, hx, g⟩ := h.at_ (k := k.toNat) (by omega)
  have : nth ms k = x := by show ms.getD k.toNat Mp.z = x; rw [List.getD_eq_getElem?_getD, hx]; rfl
  exact ⟨b, o, e, by rw [this]; exact g⟩
set_option maxHeartbeats 2000000 in
theorem mapOf_c (A A' : Option Addr) (c c' : Nat) (ms : List Mp) (n : Int) (word : List Int) (w : World) (hr : RightL ms n) (h : SeeMaps w A ms) (h' : SeeInts w A' word) (hn' : word.length ≤ 2097152) (hw : InL ms.length word) :
    Calls Try.prog 64 #[.slice A ms.length c, .slice A' word.length c'] w fun e w' => e = .returned (.agg #[.int .i64 (mapW ms word).p, .int .i64 (mapW ms word).a, .int .i64 (mapW ms word).b, .int .i64 (mapW ms word).c, .int .i64 (mapW ms word).d, .int .i64 (mapW ms word).e]) ∧ Below w.heap.size w w' := by
  have hl0 := hr.pos
  have hl6 := hr.six
  obtain ⟨b, o, m0, rfl, hm0, g0⟩ := h.at_ hl0
  have hd : (ms.headD Mp.z) = m0 := by
    cases ms with
    | nil => simp at hm0
    | cons x xs => simp at hm0; simp [hm0]
  have p0 : w.cell? ⟨b, o, none⟩ = some (.int .i64 m0.p) := by simpa using g0.h0
  have n1 := hr.bounds.1
  have n5 := hr.bounds.2
  have hp : m0.p = n := by rw [← hd]; exact hr.head.1
  rw [hp] at p0
  have HD := Lib.hid (show mapTo ms word 0 = idM n by unfold mapTo; rw [hd, hp]; rfl)
  have k0 : Below w.heap.size w (w.alloc (Obj.cells #[.int .i64 0, .int .i64 0, .int .i64 0, .int .i64 0, .int .i64 0, .int .i64 0] 61)) := by go_grown
  replace p0 := bcell k0 p0
  clear hm0 g0 hd hp
  go_enter Try.func64, Try.ntmps64
  go_wp2_with fail
  refine (identity_c n _ n1 n5).mono ?_
  rintro e w1 ⟨rfl, hb1⟩
  have hz1 := hb1.size
  have hz1' : w.heap.size < w1.heap.size := by simp at hz1; omega
  have hbx0 : MpBox w1 w.heap.size Mp.z := (MpBox.new Mp.z 61 rfl).below hb1
  have hb2 : Below w.heap.size w w1 := btrans (by repeat' (first | (with_reducible exact Below.refl _ _) | (with_reducible assumption) | (with_reducible refine bdrewN ?_ _) | (with_reducible refine Below.alloc ?_ ?_ _) | (with_reducible refine Below.drew ?_) | (with_reducible refine Below.setCell ?_ ?_ _) | go_size)) hb1
  clear hb1 hz1
  go_wp2
  go_loopw [15] (fun i wr => ∃ k : Nat, k ≤ word.length ∧ i = .int .i64 k ∧ MpBox wr w.heap.size Mp.z ∧ MpBox wr w1.heap.size (mapTo ms word k) ∧ Below w.heap.size w wr) (fun i _ => word.length - (intOf i).toNat)
  case atStart =>
    refine ⟨0, Nat.zero_le _, rfl, hbx0.keep _, ?_, (by repeat' (first | (with_reducible exact Below.refl _ _) | (with_reducible assumption) | (with_reducible refine bdrewN ?_ _) | (with_reducible refine Below.alloc ?_ ?_ _) | (with_reducible refine Below.drew ?_) | (with_reducible refine Below.setCell ?_ ?_ _) | go_size))⟩
    rw [HD.out]
    exact MpBox.new (idM n) 61 rfl
  case round =>
    clear hbx0 hb2
    obtain ⟨k, hk, rfl, hz, hbox, hb⟩ := hrel
    by_cases hlt : k < word.length
    · obtain ⟨b', o', x, rfl, hx, q⟩ := (h'.below hb).at_ hlt
      have hxr := hw x (List.mem_of_getElem? hx)
      obtain ⟨b2, o2, e2, gx⟩ := (h.below hb).nthAt hxr.1 (by omega)
      simp only [Option.some.injEq, Addr.mk.injEq, and_true] at e2
      obtain ⟨rfl, rfl⟩ := e2
      obtain ⟨q0, q1, q2, q3, q4, q5⟩ := gx.bw
      have hfN := mapTo_MpN hr hw k
      have hgN := hr.nth hxr.1 (by omega)
      obtain ⟨r0, r1, r2, r3, r4, r5⟩ := hbox.at.bw
      simp only [Nat.zero_add] at r0 r1 r2 r3 r4 r5
      have hfr : ∀ y : BW wr, ∀ j, y.1.frozen? ⟨w1.heap.size, j, none⟩ = false := fun y => (hbox.below y.2).free
      have hl : (0 : Int) ≤ k := by omega
      have hl' : (k : Int) < word.length := by omega
      have x0 := hxr.1
      have x1 : x < ms.length := by omega
      have HX := Lib.hid hx
      have HF := Lib.hid hfN
      have HG := Lib.hid hgN
      clear hx h h' hw hr hxr gx hfN hgN
      go_wp2
      refine wp_region_tail 6 (by kernel_rfl) (by kernel_rfl) ?_
      simp only [List.take, List.drop]
      repeat go_big_quiet_step ((go_at_call 101; exact Calls.bw _ (times_c _ _ n _ HF.out HG.out)))
      refine wpQuiet_nil ?_
      rintro ⟨w2, hb2⟩
      have hbox2 := hbox.below hb2
      have s0 := hbox2.free
      obtain ⟨t0, t1, t2, t3, t4, t5⟩ := hbox2.at.cells0
      clear hfr q0 q1 q2 q3 q4 q5 r0 r1 r2 r3 r4 r5
      go_wp2
      go_roundw
      case rel =>
        refine ⟨k + 1, by omega, by go_num, ?_, ?_, ?_⟩
        · exact ((((((hz.below hb2).far (by simp; omega) _).far (by simp; omega) _).far (by simp; omega) _).far (by simp; omega) _).far (by simp; omega) _).far (by simp; omega) _
        · rw [mapTo_succ HX.out]
          exact hbox2.store _
        · have hb3 := btrans hb hb2
          exact (by repeat' (first | (with_reducible exact Below.refl _ _) | (with_reducible assumption) | (with_reducible refine bdrewN ?_ _) | (with_reducible refine Below.alloc ?_ ?_ _) | (with_reducible refine Below.drew ?_) | (with_reducible refine Below.setCell ?_ ?_ _) | go_size))
      case measure => simp [intOf]; omega
    · obtain rfl : k = word.length := by omega
      rw [mapTo_all] at hbox
      obtain ⟨q0, q1, q2, q3, q4, q5⟩ := hbox.at.cells0
      obtain ⟨z0, z1, z2, z3, z4, z5⟩ := hz.at.cells0
      have fr := hz.free
      go_wp2
      refine bodyPost_ret (v := .agg #[.int .i64 (mapW ms word).p, .int .i64 (mapW ms word).a, .int .i64 (mapW ms word).b, .int .i64 (mapW ms word).c, .int .i64 (mapW ms word).d, .int .i64 (mapW ms word).e]) (by simp [results, Try.results64, go_sem, z0, z1, z2, z3, z4, z5]) rfl ⟨rfl, (by repeat' (first | (with_reducible exact Below.refl _ _) | (with_reducible assumption) | (with_reducible refine bdrewN ?_ _) | (with_reducible refine Below.alloc ?_ ?_ _) | (with_reducible refine Below.drew ?_) | (with_reducible refine Below.setCell ?_ ?_ _) | go_size))⟩
/-! 'Index', 'Contains' at lists of numbers. -/
end Go.Proofs.Ythadgdmooacccaa
