/- Classes in memory: whether they are classes, merging, whether they are stable, canonical numbers. No condition. -/
import Derived.Test.YtjepmbjneccagaaGreatTab
import Derived.Test.YtjepmbjneccagaaGreatMany
namespace Go.Proofs.YtjepmbjneccagaaGreat
set_option linter.unusedSimpArgs false
set_option linter.unusedVariables false
set_option linter.unusedSectionVars false
open Go.RowKit
/-! ### Whether numbers are classes -/
def canB (cl : List Int) (n : Nat) : Bool := decide (cl.length = n) && (CanTo cl cl.length).isSome
theorem canB_iff (cl : List Int) (n : Nat) : canB cl n = true ↔ IsCan cl n := by
  unfold canB IsCan
  rw [Bool.and_eq_true, decide_eq_true_eq]
  constructor
  · rintro ⟨rfl, h⟩; exact ⟨rfl, h⟩
  · rintro ⟨rfl, h⟩; exact ⟨rfl, h⟩
theorem can_next {cl : List Int} {k : Nat} {nx : Int} (h : CanTo cl k = some nx) (h1 : 0 ≤ cls cl k) (h2 : cls cl k ≤ nx) : CanTo cl (k + 1) = some (if cls cl k = nx then nx + 1 else nx) := by
  unfold CanTo
  rw [h]
  simp only []
  rw [if_pos ⟨h1, h2⟩]
theorem can_stop {cl : List Int} {k : Nat} {nx : Int} (h : CanTo cl k = some nx) (h1 : ¬ (0 ≤ cls cl k ∧ cls cl k ≤ nx)) : CanTo cl (k + 1) = none := by
  unfold CanTo
  rw [h]
  simp only []
  rw [if_neg h1]
theorem canB_stop {cl : List Int} {n k : Nat} (hk : k < cl.length) (h : CanTo cl (k + 1) = none) : canB cl n = false := by
  unfold canB
  cases e : CanTo cl cl.length with
  | none => simp
  | some v =>
    have := canTo_le (cl := cl) (n := cl.length) (by rw [e]; rfl) (k + 1) hk
    rw [h] at this
    cases this
theorem canB_end {cl : List Int} {n : Nat} {nx : Int} (h : CanTo cl cl.length = some nx) : canB cl n = decide (cl.length = n) := by
  unfold canB
  rw [h]
  simp
set_option maxHeartbeats 1000000 in
theorem isClasses_c (A : Option Addr) (c : Nat) (cl : List Int) (n : Nat) (w : World) (h : SeeInts w A cl) (hl : cl.length ≤ 2097152) (hn : n ≤ 2097152) :
    Calls Tryz.prog 98 #[.slice A cl.length c, .int .i64 (n : Int)] w fun e w' => e = .returned (.bool (canB cl n)) ∧ Below w.heap.size w w' := by
  have heq : ((cl.length : Int) == (n : Int)) = decide (cl.length = n) := by
    by_cases e : cl.length = n
    · rw [e]; simp
    · rw [decide_eq_false e]; exact beq_eq_false_iff_ne.2 (by omega)
  have HEQ := Lib.hid heq
  clear heq
  go_enter Tryz.func98, Tryz.ntmps98
  go_wp2
  go_loopw [10, 5] (fun i nv wr => ∃ (k : Nat) (nx : Int), k ≤ cl.length ∧ i = .int .i64 k ∧ nv = .int .i64 nx ∧ Hid (CanTo cl k = some nx) ∧ Below w.heap.size w wr) (fun i _ _ => cl.length - (intOf i).toNat)
  case atStart => exact ⟨0, 0, Nat.zero_le _, rfl, rfl, Lib.hid rfl, Below.refl _ _⟩
  case round =>
    obtain ⟨k, nx, hk, rfl, rfl, hc, hb⟩ := hrel
    by_cases hlt : k < cl.length
    · obtain ⟨b, o, rfl, g⟩ := h.cls (by omega)
      have q := bcell hb (g k hlt)
      have l0 : (0 : Int) ≤ k := by omega
      have l1 : (k : Int) < cl.length := by omega
      obtain ⟨nx0, nx1, _, _⟩ := canTo_spec hc.out
      have HN := Lib.hid (fun h1 h2 => can_next (cl := cl) hc.out h1 h2)
      have HS := Lib.hid (fun h1 => canB_stop (n := n) hlt (can_stop (cl := cl) hc.out h1))
      clear g h
      generalize cls cl k = x at *
      by_cases hin : 0 ≤ x ∧ x ≤ nx
      · have hw := fun W => valB (within_c x 0 nx W) (inB_true hin.1 hin.2)
        have HW := Lib.hid hw
        clear hw
        by_cases e : x = nx
        · have d : (x == nx) = true := beq_iff_eq.2 e
          have HC := Lib.hid (show CanTo cl (k + 1) = some (nx + 1) by rw [HN.out hin.1 hin.2, if_pos e])
          clear e hin
          go_wp2_with fail
          refine (HW.out _).mono ?_
          rintro e w2 ⟨rfl, hb2⟩
          go_wp2
          go_roundw
          case rel => exact ⟨k + 1, nx + 1, by omega, by go_num, by go_num, HC, btrans hb hb2⟩
          case measure => simp [intOf]; omega
        · have d : (x == nx) = false := beq_eq_false_iff_ne.2 e
          have HC := Lib.hid (show CanTo cl (k + 1) = some nx by rw [HN.out hin.1 hin.2, if_neg e])
          clear e hin
          go_wp2_with fail
          refine (HW.out _).mono ?_
          rintro e w2 ⟨rfl, hb2⟩
          go_wp2
          go_roundw
          case rel => exact ⟨k + 1, nx, by omega, by go_num, rfl, HC, btrans hb hb2⟩
          case measure => simp [intOf]; omega
      · have HW := Lib.hid (fun W => valB (within_c x 0 nx W) (inB_false hin))
        have HF := Lib.hid (HS.out hin)
        clear hin
        go_wp2_with fail
        refine (HW.out _).mono ?_
        rintro e w2 ⟨rfl, hb2⟩
        go_wp2
        go_returns
        exact ⟨ret_bool HF.out.symm, btrans hb hb2⟩
    · obtain rfl : k = cl.length := by omega
      have HE := Lib.hid (canB_end (n := n) hc.out)
      go_wp2
      go_returns
      exact ⟨ret_bool (by rw [HE.out]; exact HEQ.out), hb⟩
set_option maxHeartbeats 1000000 in
theorem l06Is_c (A : Option Addr) (c : Nat) (cl : List Int) (n : Nat) (w : World) (h : SeeInts w A cl) (hl : cl.length ≤ 2097152) (hn : n ≤ 2097152) :
    Calls Tryz.prog 100 #[.slice A cl.length c, .int .i64 (n : Int)] w fun e w' => e = .returned (.bool (canB cl n)) ∧ Below w.heap.size w w' := by
  by_cases hne : cl.length = n
  · subst hne
    go_enter Tryz.func100, Tryz.ntmps100
    go_wp2
    go_loopw [6, 5] (fun i nv wr => ∃ (k : Nat) (nx : Int), k ≤ cl.length ∧ i = .int .i64 k ∧ nv = .int .i64 nx ∧ Hid (CanTo cl k = some nx) ∧ Below w.heap.size w wr) (fun i _ _ => cl.length - (intOf i).toNat)
    case atStart => exact ⟨0, 0, Nat.zero_le _, rfl, rfl, Lib.hid rfl, Below.refl _ _⟩
    case round =>
      obtain ⟨k, nx, hk, rfl, rfl, hc, hb⟩ := hrel
      by_cases hlt : k < cl.length
      · obtain ⟨b, o, rfl, g⟩ := h.cls (by omega)
        have q := bcell hb (g k hlt)
        have l0 : (0 : Int) ≤ k := by omega
        have l1 : (k : Int) < cl.length := by omega
        obtain ⟨nx0, nx1, _, _⟩ := canTo_spec hc.out
        have HN := Lib.hid (fun h1 h2 => can_next (cl := cl) hc.out h1 h2)
        have HS := Lib.hid (fun h1 => canB_stop (n := cl.length) hlt (can_stop (cl := cl) hc.out h1))
        clear g h
        generalize cls cl k = x at *
        by_cases hin : 0 ≤ x ∧ x ≤ nx
        · have HW := Lib.hid (fun W => valB (l01In_c x 0 nx W) (inB_true hin.1 hin.2))
          by_cases e : x = nx
          · have d : (x == nx) = true := beq_iff_eq.2 e
            have HC := Lib.hid (show CanTo cl (k + 1) = some (nx + 1) by rw [HN.out hin.1 hin.2, if_pos e])
            clear e hin
            go_wp2_with fail
            refine (HW.out _).mono ?_
            rintro e w2 ⟨rfl, hb2⟩
            replace q := bcell hb2 q
            go_wp2
            go_roundw
            case rel => exact ⟨k + 1, nx + 1, by omega, by go_num, by go_num, HC, btrans hb hb2⟩
            case measure => simp [intOf]; omega
          · have d : (x == nx) = false := beq_eq_false_iff_ne.2 e
            have HC := Lib.hid (show CanTo cl (k + 1) = some nx by rw [HN.out hin.1 hin.2, if_neg e])
            clear e hin
            go_wp2_with fail
            refine (HW.out _).mono ?_
            rintro e w2 ⟨rfl, hb2⟩
            replace q := bcell hb2 q
            go_wp2
            go_roundw
            case rel => exact ⟨k + 1, nx, by omega, by go_num, rfl, HC, btrans hb hb2⟩
            case measure => simp [intOf]; omega
        · have HW := Lib.hid (fun W => valB (l01In_c x 0 nx W) (inB_false hin))
          have HF := Lib.hid (HS.out hin)
          clear hin
          go_wp2_with fail
          refine (HW.out _).mono ?_
          rintro e w2 ⟨rfl, hb2⟩
          go_wp2
          go_returns
          exact ⟨ret_bool HF.out.symm, btrans hb hb2⟩
      · obtain rfl : k = cl.length := by omega
        have HE := Lib.hid (show canB cl cl.length = true by rw [canB_end (n := cl.length) hc.out]; simp)
        go_wp2
        go_returns
        exact ⟨ret_bool HE.out.symm, hb⟩
  · have d : ((cl.length : Int) != (n : Int)) = true := bne_iff_ne.2 (by omega)
    have HF := Lib.hid (show canB cl n = false by unfold canB; rw [decide_eq_false hne]; rfl)
    go_enter Tryz.func100, Tryz.ntmps100
    go_wp2
    go_returns
    exact ⟨ret_bool HF.out.symm, Below.refl _ _⟩
/-! ### Merging -/
def jPart (cl : List Int) (p q : Int) (k : Nat) : List Int := joinL (cl.take k) p q ++ cl.drop k
theorem jPart_zero (cl : List Int) (p q : Int) : jPart cl p q 0 = cl := rfl
theorem jPart_length (cl : List Int) (p q : Int) (k : Nat) : (jPart cl p q k).length = cl.length := by
  unfold jPart
  rw [List.length_append, joinL_length, List.length_take, List.length_drop]
  omega
theorem jPart_all (cl : List Int) (p q : Int) : jPart cl p q cl.length = joinL cl p q := by
  unfold jPart
  rw [List.take_length, List.drop_length, List.append_nil]
theorem jPart_at {cl : List Int} {p q : Int} {k : Nat} (hk : k < cl.length) : (jPart cl p q k)[k]? = some (cls cl k) := by
  unfold jPart
  rw [List.getElem?_append_right (by rw [joinL_length, List.length_take]; omega), joinL_length, List.length_take, List.getElem?_drop]
  rw [show k + (k - min k cl.length) = k by omega]
  exact cls_get hk
theorem jPart_succ {cl : List Int} {p q : Int} {k : Nat} (hk : k < cl.length) : jPart cl p q (k + 1) = (jPart cl p q k).set k (if cls cl k = q then p else cls cl k) := by
  have hl : (joinL (cl.take k) p q).length = k := by rw [joinL_length, List.length_take]; omega
  unfold jPart
  rw [List.set_append_right _ _ (by omega), hl, Nat.sub_self, List.take_add_one, cls_get hk]
  have hd : cl.drop k = cls cl k :: cl.drop (k + 1) := by
    rw [List.drop_eq_getElem_cons hk]
    congr 1
    have := cls_get hk
    rw [List.getElem?_eq_getElem hk] at this
    exact Option.some.inj this
  rw [hd, List.set_cons_zero]
  unfold joinL
  rw [List.map_append, List.append_assoc]
  rfl
theorem set_same {cl : List Int} {k : Nat} {x : Int} (h : cl[k]? = some x) : cl.set k x = cl := by
  refine List.ext_getElem? fun j => ?_
  by_cases e : k = j
  · subst e
    rw [List.getElem?_set_self (List.getElem?_eq_some_iff.1 h).1, h]
  · rw [List.getElem?_set_ne e]
theorem joinL_same (cl : List Int) (p : Int) : joinL cl p p = cl := by
  unfold joinL
  conv => rhs; rw [← List.map_id cl]
  refine List.map_congr_left fun k _ => ?_
  split
  · rename_i h; exact h.symm
  · rfl
set_option maxHeartbeats 1000000 in
theorem merge_c (g c base : Nat) (cl : List Int) (a b : Nat) (w : World) (own : OwnInts w base (.slice (some ⟨g, 0, none⟩) cl.length c) cl) (ha : a < cl.length) (hb : b < cl.length) (hl : cl.length ≤ 2097152) :
    Calls Tryz.prog 112 #[.slice (some ⟨g, 0, none⟩) cl.length c, .int .i64 (a : Int), .int .i64 (b : Int)] w fun e w' => (∃ t, e = .returned (.bool t)) ∧ OwnInts w' base (.slice (some ⟨g, 0, none⟩) cl.length c) (joinL cl (cls cl b) (cls cl a)) ∧ Keep (fun k => k ≠ g) w w' := by
  have ga := bwcell (own.at_ (cls_get ha))
  have gb := bwcell (own.at_ (cls_get hb))
  have a0 : (0 : Int) ≤ a := by omega
  have a1 : (a : Int) < cl.length := by omega
  have b0 : (0 : Int) ≤ b := by omega
  have b1 : (b : Int) < cl.length := by omega
  have OWN := Lib.hid own
  clear own ha hb
  generalize cls cl a = x at *
  generalize cls cl b = y at *
  by_cases e : x = y
  · have d : (x == y) = true := beq_iff_eq.2 e
    have HJ := Lib.hid (show joinL cl y x = cl by rw [e]; exact joinL_same _ _)
    clear e
    go_enter Tryz.func112, Tryz.ntmps112
    go_wp2
    refine wp_region_bw (by kernel_rfl) (by kernel_rfl) ?_
    repeat go_big_quiet_step (fail)
    refine wpQuiet_nil ?_
    rintro w2 ⟨⟨w2x, hb2⟩, rfl⟩
    go_wp2
    go_returns
    exact ⟨⟨_, rfl⟩, by rw [HJ.out]; exact OWN.out.below hb2, kb hb2⟩
  · have d : (x == y) = false := beq_eq_false_iff_ne.2 e
    go_enter Tryz.func112, Tryz.ntmps112
    go_wp2
    refine wp_region_bw (by kernel_rfl) (by kernel_rfl) ?_
    repeat go_big_quiet_step (fail)
    refine wpQuiet_nil ?_
    rintro w2 ⟨⟨w2x, hb2⟩, rfl⟩
    have own0 : OwnInts w2 base (.slice (some ⟨g, 0, none⟩) cl.length c) (jPart cl y x 0) := OWN.out.below hb2
    clear ga gb e
    go_wp2
    go_loopw [24] (fun iv wr => ∃ k : Nat, k ≤ cl.length ∧ iv = .int .i64 k ∧ OwnInts wr base (.slice (some ⟨g, 0, none⟩) cl.length c) (jPart cl y x k) ∧ Keep (fun k => k ≠ g) w wr) (fun iv _ => cl.length - (intOf iv).toNat)
    case atStart => exact ⟨0, Nat.zero_le _, rfl, own0, kb hb2⟩
    case round =>
      clear own0 d hb2
      obtain ⟨k, hk, rfl, own, hkeep⟩ := hrel
      by_cases hlt : k < cl.length
      · have l0 : (0 : Int) ≤ k := by omega
        have l1 : (k : Int) < cl.length := by omega
        have q := own.at_ (jPart_at (p := y) (q := x) hlt)
        have fr := own.free
        have hput := own.put k y
        have hsm : (jPart cl y x k).set k (cls cl k) = jPart cl y x k := set_same (jPart_at hlt)
        have hsu := jPart_succ (p := y) (q := x) hlt
        by_cases e : cls cl k = x
        · have d : (cls cl k == x) = true := beq_iff_eq.2 e
          rw [if_pos e] at hsu
          rw [← hsu] at hput
          have HP := Lib.hid hput
          clear hput hsm hsu own e
          generalize cls cl k = z at *
          go_wp2
          go_roundw
          case rel => exact ⟨k + 1, by omega, by go_num, HP.out, hkeep.setCell (by simp) _⟩
          case measure => simp [intOf]; omega
        · have d : (cls cl k == x) = false := beq_eq_false_iff_ne.2 e
          rw [if_neg e, hsm] at hsu
          have HS := Lib.hid hsu
          clear hput hsm hsu e
          generalize cls cl k = z at *
          go_wp2
          go_roundw
          case rel => exact ⟨k + 1, by omega, by go_num, by rw [HS.out]; exact own, hkeep⟩
          case measure => simp [intOf]; omega
      · obtain rfl : k = cl.length := by omega
        rw [jPart_all] at own
        go_wp2
        go_returns
        exact ⟨⟨_, rfl⟩, own, hkeep⟩
set_option maxHeartbeats 1000000 in
theorem l06Join_c (g c base : Nat) (cl : List Int) (y x : Int) (w : World) (own : OwnInts w base (.slice (some ⟨g, 0, none⟩) cl.length c) cl) (hl : cl.length ≤ 2097152) :
    Calls Tryz.prog 74 #[.slice (some ⟨g, 0, none⟩) cl.length c, .int .i64 y, .int .i64 x] w fun e w' => e = .returned (.tuple #[]) ∧ OwnInts w' base (.slice (some ⟨g, 0, none⟩) cl.length c) (joinL cl y x) ∧ Keep (fun k => k ≠ g) w w' := by
  have own0 : OwnInts w base (.slice (some ⟨g, 0, none⟩) cl.length c) (jPart cl y x 0) := own
  go_enter Tryz.func74, Tryz.ntmps74
  go_wp2
  go_loopw [6] (fun iv wr => ∃ k : Nat, k ≤ cl.length ∧ iv = .int .i64 k ∧ OwnInts wr base (.slice (some ⟨g, 0, none⟩) cl.length c) (jPart cl y x k) ∧ Keep (fun k => k ≠ g) w wr) (fun iv _ => cl.length - (intOf iv).toNat)
  case atStart => exact ⟨0, Nat.zero_le _, rfl, own0, Keep.refl _ _⟩
  case round =>
    clear own0 own
    obtain ⟨k, hk, rfl, own, hkeep⟩ := hrel
    by_cases hlt : k < cl.length
    · have l0 : (0 : Int) ≤ k := by omega
      have l1 : (k : Int) < cl.length := by omega
      have q := own.at_ (jPart_at (p := y) (q := x) hlt)
      have fr := own.free
      have hput := own.put k y
      have hsm : (jPart cl y x k).set k (cls cl k) = jPart cl y x k := set_same (jPart_at hlt)
      have hsu := jPart_succ (p := y) (q := x) hlt
      by_cases e : cls cl k = x
      · have d : (cls cl k == x) = true := beq_iff_eq.2 e
        rw [if_pos e] at hsu
        rw [← hsu] at hput
        have HP := Lib.hid hput
        clear hput hsm hsu own e
        generalize cls cl k = z at *
        go_wp2
        go_roundw
        case rel => exact ⟨k + 1, by omega, by go_num, HP.out, hkeep.setCell (by simp) _⟩
        case measure => simp [intOf]; omega
      · have d : (cls cl k == x) = false := beq_eq_false_iff_ne.2 e
        rw [if_neg e, hsm] at hsu
        have HS := Lib.hid hsu
        clear hput hsm hsu e
        generalize cls cl k = z at *
        go_wp2
        go_roundw
        case rel => exact ⟨k + 1, by omega, by go_num, by rw [HS.out]; exact own, hkeep⟩
        case measure => simp [intOf]; omega
    · obtain rfl : k = cl.length := by omega
      rw [jPart_all] at own
      go_wp2
      go_returns
      exact ⟨rfl, own, hkeep⟩
end Go.Proofs.YtjepmbjneccagaaGreat
