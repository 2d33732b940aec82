/- 'l06Named': canonical numbers, as the reference makes them; 'l06Equal'. No condition. -/
import Derived.Test.YtjepmbjneccagaaGreatNum
namespace Go.Proofs.YtjepmbjneccagaaGreat
set_option linter.unusedSimpArgs false
set_option linter.unusedVariables false
set_option linter.unusedSectionVars false
open Go.RowKit
set_option maxHeartbeats 4000000 in
set_option maxRecDepth 100000 in
theorem l06Named_c (A : Option Addr) (c : Nat) (root : List Int) (w : World) (h : SeeInts w A root) (hl : root.length ≤ 100000) :
    Calls Tryz.prog 71 #[.slice A root.length c] w fun e w' => ∃ v, e = .returned v ∧ OwnInts w' w.heap.size v (numL (fun k i => decide (cls root k = cls root i)) root.length) ∧ Below w.heap.size w w' := by
  obtain ⟨S, hS⟩ : ∃ S : Nat → Nat → Bool, S = fun k i => decide (cls root k = cls root i) := ⟨_, rfl⟩
  rw [← hS]
  have HS := Lib.hid (show ∀ k i, S k i = decide (cls root k = cls root i) from fun k i => by rw [hS])
  have H := Lib.hid h
  clear hS h
  have own0 : OwnInts (w.alloc (.cells #[] 2)) w.heap.size (.slice (some ⟨w.heap.size, 0, none⟩) 0 0) (nbTo S 0).1 := own_mono (World.ownsRow_made (e := 2) (size := 1) w #[] 0 (Nat.le_refl _) (by decide) rfl) (Nat.le_refl _)
  have kk := kbelow w (.cells #[] 2)
  go_enter Tryz.func71, Tryz.ntmps71
  go_wp2
  go_loopw [5, 3, 4] (fun iv ov nv wr => ∃ i : Nat, i ≤ root.length ∧ iv = .int .i64 i ∧ nv = .int .i64 (nbTo S i).2 ∧ OwnInts wr w.heap.size ov (nbTo S i).1 ∧ Below w.heap.size w wr) (fun iv _ _ _ => root.length - (intOf iv).toNat)
  case atStart => exact ⟨0, Nat.zero_le _, rfl, rfl, own0, kk⟩
  case round =>
    clear own0 kk
    obtain ⟨i, hi, rfl, rfl, own, hb⟩ := hrel
    obtain ⟨Ao, co, rfl, _⟩ := own.see
    have l0 : (0 : Int) ≤ i := by omega
    have hlen : (nbTo S i).1.length = i := numL_length S i
    by_cases hlt : i < root.length
    · have l1 : (i : Int) < root.length := by omega
      have hnx := nbTo_next_nonneg S i
      have nx0 := hnx.1
      have nx1 := hnx.2.1
      have HNX := Lib.hid hnx.2.2
      obtain ⟨br, or_, rfl, gr⟩ := H.out.cls (by omega)
      have GR := Lib.hid gr
      clear hnx gr
      obtain ⟨W0, rfl⟩ : ∃ W0, W0 = wr := ⟨_, rfl⟩
      rw [hlen] at own ⊢
      go_wp2
      go_loopw [7, 6] (fun kv ov wr => ∃ (k : Nat) (x : Int), k ≤ i ∧ kv = .int .i64 k ∧ ov = .int .i64 x ∧ Hid ((x = -1 ∧ ∀ j, j < k → S j i = false) ∨ (∃ k0, k0 < i ∧ (∀ j, j < k0 → S j i = false) ∧ S k0 i = true ∧ x = cls (nbTo S i).1 k0)) ∧ Below W0.heap.size W0 wr) (fun kv _ _ => i - (intOf kv).toNat)
      case atStart => exact ⟨0, -1, Nat.zero_le _, rfl, rfl, Lib.hid (.inl ⟨rfl, fun j h => by omega⟩), Below.refl _ _⟩
      case round =>
        obtain ⟨k, x, hk, rfl, rfl, hX, hbr⟩ := hrel
        have hbb := btrans hb hbr
        have ownr := own.below hbr
        have m0 : (0 : Int) ≤ k := by omega
        rcases hX.out with ⟨rfl, hF⟩ | ⟨k0, hk0, hF, hT, hx⟩
        · by_cases hki : k < i
          · have dk : (k : Int) < i := by omega
            have mn : (k : Int) < root.length := by omega
            have gk := bwc hbb (GR.out k (by omega))
            have gi := bwc hbb (GR.out i hlt)
            have HSK := Lib.hid (HS.out k i)
            have HFF := Lib.hid hF
            have hok := cls_get (cl := (nbTo S i).1) (i := k) (by omega)
            obtain ⟨bo, oo, eo, go⟩ := SeeInts.cls ownr.see' (by omega)
            subst eo
            have HQO := Lib.hid (go k (by omega))
            clear hX hF hok go
            generalize cls root k = xk at *
            generalize cls root i = xi at *
            by_cases e : xk = xi
            · have d : (xk == xi) = true := beq_iff_eq.2 e
              have HT := Lib.hid (show S k i = true by rw [HSK.out]; exact decide_eq_true e)
              clear e HSK
              obtain ⟨y, hy⟩ : ∃ y, y = cls (nbTo S i).1 k := ⟨_, rfl⟩
              rw [← hy] at HQO
              have HY := Lib.hid hy
              clear hy
              go_wp2
              refine wp_region_bw (by kernel_rfl) (by kernel_rfl) ?_
              repeat go_big_quiet_step (fail)
              refine wpQuiet_nil ?_
              rintro w2 ⟨⟨w2x, hb2⟩, rfl⟩
              have qo := bcell hb2 HQO.out
              go_wp2
              go_roundw
              case rel => exact ⟨k + 1, y, by omega, by go_num, rfl, Lib.hid (.inr ⟨k, hki, HFF.out, HT.out, HY.out⟩), btrans hbr hb2⟩
              case measure => simp [intOf]; omega
            · have d : (xk == xi) = false := beq_eq_false_iff_ne.2 e
              have HT := Lib.hid (show S k i = false by rw [HSK.out]; exact decide_eq_false e)
              clear e HSK
              go_wp2
              refine wp_region_bw (by kernel_rfl) (by kernel_rfl) ?_
              repeat go_big_quiet_step (fail)
              refine wpQuiet_nil ?_
              rintro w2 ⟨⟨w2x, hb2⟩, rfl⟩
              go_wp2
              go_roundw
              case rel => exact ⟨k + 1, -1, by omega, by go_num, rfl, Lib.hid (.inl ⟨rfl, fun j h => by
                by_cases e : j = k
                · subst e; exact HT.out
                · exact HFF.out j (by omega)⟩), btrans hbr hb2⟩
              case measure => simp [intOf]; omega
          · obtain rfl : i = k := by omega
            have HST := Lib.hid (num_new hF)
            clear hX hF own
            have hln : (nbTo S i).1.length ≤ 100000 := by omega
            generalize (nbTo S i).2 = nx at *
            generalize (nbTo S i).1 = xs at *
            go_wp2_with (at_builtin; refine wpList_push_int _ rfl (.tmp 42) (.tmp 44) rfl w.heap.size _ xs rfl (ownr.below (kbelow _ _)) ⟨wr.heap.size, 0, none⟩ nx rfl (by simp [go_sem]) (by omega) (btrans hbb (kbelow _ _)).size ?_; intro v6 w6 hown6 hg6 hv6)
            have hb6 : Below w.heap.size w w6 := Below.grown (btrans hbb (kbelow _ _)) hg6 (btrans hbb (kbelow _ _)).size (fun q hq => (ownr.lt q hq).1)
            go_wp2
            go_roundw
            case rel => exact ⟨i + 1, by omega, by go_num, by rw [HST.out]; try go_num, by rw [HST.out]; exact hown6, hb6⟩
            case measure => simp [intOf]; omega
        · have HST := Lib.hid (num_step hk0 hF hT)
          have hx0 : 0 ≤ x := by
            have := HNX.out x (by rw [hx]; exact by (have := cls_get (cl := (nbTo S i).1) (i := k0) (by omega); exact List.mem_of_getElem? this))
            exact this.1
          have nx : ¬ x < 0 := by omega
          have HX := Lib.hid hx
          clear hX hF hT hx own
          have hln : (nbTo S i).1.length ≤ 100000 := by omega
          rw [← HX.out] at HST
          generalize (nbTo S i).2 = nx at *
          generalize (nbTo S i).1 = xs at *
          by_cases hki : k < i
          · have dk : (k : Int) < i := by omega
            go_wp2_with (at_builtin; refine wpList_push_int _ rfl (.tmp 42) (.tmp 44) rfl w.heap.size _ xs rfl (ownr.below (kbelow _ _)) ⟨wr.heap.size, 0, none⟩ x rfl (by simp [go_sem]) (by omega) (btrans hbb (kbelow _ _)).size ?_; intro v6 w6 hown6 hg6 hv6)
            have hb6 : Below w.heap.size w w6 := Below.grown (btrans hbb (kbelow _ _)) hg6 (btrans hbb (kbelow _ _)).size (fun q hq => (ownr.lt q hq).1)
            go_wp2
            go_roundw
            case rel => exact ⟨i + 1, by omega, by go_num, by rw [HST.out], by rw [HST.out]; exact hown6, hb6⟩
            case measure => simp [intOf]; omega
          · have dk : ¬ (k : Int) < i := by omega
            go_wp2_with (at_builtin; refine wpList_push_int _ rfl (.tmp 42) (.tmp 44) rfl w.heap.size _ xs rfl (ownr.below (kbelow _ _)) ⟨wr.heap.size, 0, none⟩ x rfl (by simp [go_sem]) (by omega) (btrans hbb (kbelow _ _)).size ?_; intro v6 w6 hown6 hg6 hv6)
            have hb6 : Below w.heap.size w w6 := Below.grown (btrans hbb (kbelow _ _)) hg6 (btrans hbb (kbelow _ _)).size (fun q hq => (ownr.lt q hq).1)
            go_wp2
            go_roundw
            case rel => exact ⟨i + 1, by omega, by go_num, by rw [HST.out], by rw [HST.out]; exact hown6, hb6⟩
            case measure => simp [intOf]; omega
    · have ei : i = root.length := by omega
      have HE := Lib.hid (show numL S root.length = (nbTo S i).1 by rw [← ei]; rfl)
      have nlt : ¬ (i : Int) < root.length := by omega
      clear ei hlt hi
      rw [hlen] at own ⊢
      go_wp2
      go_returns
      exact ⟨_, rfl, by rw [HE.out]; exact own, hb⟩
/-! ### Whether two lists are equal -/
def eqTo (a b : List Int) (k : Nat) : Prop := ∀ j, j < k → cls a j = cls b j
theorem eqTo_all {a b : List Int} (hl : a.length = b.length) (h : eqTo a b a.length) : a = b := by
  refine List.ext_getElem? fun j => ?_
  by_cases hj : j < a.length
  · rw [cls_get hj, cls_get (by omega), h j hj]
  · rw [List.getElem?_eq_none (by omega), List.getElem?_eq_none (by omega)]
set_option maxHeartbeats 1000000 in
theorem l06Equal_c (A A' : Option Addr) (c c' : Nat) (a b : List Int) (w : World) (h : SeeInts w A a) (h' : SeeInts w A' b) (hl : a.length = b.length) (hn : a.length ≤ 100000) :
    Calls Tryz.prog 64 #[.slice A a.length c, .slice A' a.length c'] w fun e w' => e = .returned (.bool (decide (a = b))) ∧ Below w.heap.size w w' := by
  have HL := Lib.hid hl
  have H := Lib.hid h
  have H' := Lib.hid h'
  clear h h' hl
  go_enter Tryz.func64, Tryz.ntmps64
  go_wp2
  go_loopw [5] (fun iv wr => ∃ i : Nat, i ≤ a.length ∧ iv = .int .i64 i ∧ Hid (eqTo a b i) ∧ Below w.heap.size w wr) (fun iv _ => a.length - (intOf iv).toNat)
  case atStart => exact ⟨0, Nat.zero_le _, rfl, Lib.hid (fun j h => by omega), Below.refl _ _⟩
  case round =>
    obtain ⟨i, hi, rfl, hE, hb⟩ := hrel
    have l0 : (0 : Int) ≤ i := by omega
    by_cases hlt : i < a.length
    · have l1 : (i : Int) < a.length := by omega
      obtain ⟨b1, o1, rfl, g1⟩ := H.out.cls (by omega)
      obtain ⟨b2, o2, rfl, g2⟩ := H'.out.cls (by have := HL.out; omega)
      have q1 := bwc hb (g1 i hlt)
      have q2 := bwc hb (g2 i (by have := HL.out; omega))
      have HC := Lib.hid (show ∀ j, j < i + 1 → j ≠ i → cls a j = cls b j from fun j h1 h2 => hE.out j (by omega))
      have HI := Lib.hid (show cls a i = cls b i → eqTo a b (i + 1) from fun e j hj => by
        by_cases e' : j = i
        · subst e'; exact e
        · exact HC.out j hj e')
      have HN := Lib.hid (show cls a i ≠ cls b i → ¬ a = b from fun e e' => e (by rw [e']))
      clear g1 g2
      generalize cls a i = x at *
      generalize cls b i = y at *
      by_cases e : x = y
      · have d : (x != y) = false := by simpa using e
        have HE := Lib.hid (HI.out e)
        clear e HN HI
        go_wp2
        refine wp_region_bw (by kernel_rfl) (by kernel_rfl) ?_
        repeat go_big_quiet_step (fail)
        refine wpQuiet_nil ?_
        rintro w2 ⟨⟨w2x, hb2⟩, rfl⟩
        go_wp2
        go_roundw
        case rel => exact ⟨i + 1, by omega, by go_num, HE, btrans hb hb2⟩
        case measure => simp [intOf]; omega
      · have d : (x != y) = true := by simpa using e
        have HE := Lib.hid (HN.out e)
        clear e HN HI
        go_wp2
        refine wp_region_bw (by kernel_rfl) (by kernel_rfl) ?_
        repeat go_big_quiet_step (fail)
        refine wpQuiet_nil ?_
        rintro w2 ⟨⟨w2x, hb2⟩, rfl⟩
        go_wp2
        go_returns
        exact ⟨ret_bool (decide_eq_false HE.out).symm, btrans hb hb2⟩
    · have ei : i = a.length := by omega
      have HE := Lib.hid (show a = b from eqTo_all HL.out (by rw [← ei]; exact hE.out))
      have nlt : ¬ (i : Int) < a.length := by omega
      clear ei
      go_wp2
      go_returns
      exact ⟨ret_bool (decide_eq_true HE.out).symm, hb⟩
end Go.Proofs.YtjepmbjneccagaaGreat
