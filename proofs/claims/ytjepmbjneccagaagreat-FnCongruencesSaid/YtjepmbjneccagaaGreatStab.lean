/- Whether classes are stable; canonical numbers. No condition. -/
import Derived.Test.YtjepmbjneccagaaGreatCls
namespace Go.Proofs.YtjepmbjneccagaaGreat
set_option linter.unusedSimpArgs false
set_option linter.unusedVariables false
set_option linter.unusedSectionVars false
open Go.RowKit
/-- rows that are a table -/
structure TabOk (rows : List (List Int)) (N : Nat) (T : Nat → Nat → Nat) : Prop where
  len : rows.length = N
  row : ∀ i k, i < N → k < N → ∃ row, rows[i]? = some row ∧ row.length = N ∧ row[k]? = some (T i k : Int) ∧ T i k < N
/-- a table as it lies -/
def TabAt (w : World) (bt ot N : Nat) (T : Nat → Nat → Nat) : Prop := ∀ i, i < N → ∃ b o c, w.cell? ⟨bt, ot + i, none⟩ = some (.slice (some ⟨b, o, none⟩) N c) ∧ ∀ k, k < N → w.cell? ⟨b, o + k, none⟩ = some (.int .i64 (T i k))
theorem SeeTab.at_ {w : World} {A : Option Addr} {rows : List (List Int)} {N : Nat} {T : Nat → Nat → Nat} (h : SeeTab w A rows) (ht : TabOk rows N T) (h0 : 0 < N) : ∃ bt ot, A = some ⟨bt, ot, none⟩ ∧ TabAt w bt ot N T := by
  obtain ⟨bt, ot, e, g⟩ := h (List.length_pos_iff.1 (by rw [ht.len]; exact h0))
  refine ⟨bt, ot, e, fun i hi => ?_⟩
  obtain ⟨row, h1, h2, h3, _⟩ := ht.row i 0 hi h0
  obtain ⟨A', c', q, s, _⟩ := g i row h1
  obtain ⟨b, o, e', g'⟩ := s (List.length_pos_iff.1 (by rw [h2]; exact h0))
  subst e'
  rw [h2] at q
  refine ⟨b, o, c', q, fun k hk => ?_⟩
  obtain ⟨row', h1', _, h3', _⟩ := ht.row i k hi hk
  rw [h1] at h1'
  obtain rfl := Option.some.inj h1'
  exact g' k _ h3'
theorem TabAt.below {w w1 : World} {bt ot N : Nat} {T : Nat → Nat → Nat} (h : TabAt w bt ot N T) (hb : Below w.heap.size w w1) : TabAt w1 bt ot N T := fun i hi => by
  obtain ⟨b, o, c, h1, h2⟩ := h i hi
  exact ⟨b, o, c, bcell hb h1, fun k hk => bcell hb (h2 k hk)⟩
/-- what must be alike when a and b are -/
def OkC (T : Nat → Nat → Nat) (both : Bool) (cl : List Int) (a b c : Nat) : Prop := relL cl (T a c) (T b c) ∧ (both = true → relL cl (T c a) (T c b))
/-- a pair that must be merged -/
def Forced (N : Nat) (T : Nat → Nat → Nat) (both : Bool) (cl : List Int) (x y : Nat) : Prop := ∃ a b c, a < N ∧ b < N ∧ c < N ∧ relL cl a b ∧ ((x = T a c ∧ y = T b c) ∨ (both = true ∧ x = T c a ∧ y = T c b))
theorem stab_of {N : Nat} {T : Nat → Nat → Nat} {both : Bool} {cl : List Int} (h : ∀ a b, a < N → b < a → relL cl a b → ∀ c, c < N → OkC T both cl a b c) : StabN N T both (relL cl) := fun a b ha hb hr c hc => by
  rcases Nat.lt_trichotomy a b with hlt | rfl | hgt
  · obtain ⟨h1, h2⟩ := h b a hb hlt (Eq.symm hr) c hc
    exact ⟨Eq.symm h1, fun hB => Eq.symm (h2 hB)⟩
  · exact ⟨rfl, fun _ => rfl⟩
  · exact h a b ha hgt hr c hc
theorem forced_gen {N : Nat} {T : Nat → Nat → Nat} {both : Bool} {P : Nat → Nat → Prop} {cl : List Int} {x y : Nat} (hs : ∀ i k, i < N → k < N → relL cl i k → Gen N T both P i k) (h : Forced N T both cl x y) : Gen N T both P x y := by
  obtain ⟨a, b, c, ha, hb, hc, hr, h⟩ := h
  have hg := gen_stab a b ha hb (hs a b ha hb hr) c hc
  rcases h with ⟨rfl, rfl⟩ | ⟨hB, rfl, rfl⟩
  · exact hg.1
  · exact hg.2 hB
/-- what 'isStable' tells -/
def StPost (N : Nat) (T : Nat → Nat → Nat) (both : Bool) (cl : List Int) (w : World) (e : Ending) (w' : World) : Prop :=
  Below w.heap.size w w' ∧ ((e = .returned (.tuple #[.int .i64 0, .int .i64 0, .bool true]) ∧ StabN N T both (relL cl)) ∨
    ∃ x y : Nat, e = .returned (.tuple #[.int .i64 (x : Int), .int .i64 (y : Int), .bool false]) ∧ x < N ∧ y < N ∧ ¬ relL cl x y ∧ Forced N T both cl x y)
section
variable {rows : List (List Int)} {N : Nat} {T : Nat → Nat → Nat}
set_option maxHeartbeats 8000000 in
set_option maxRecDepth 100000 in
theorem isStable_c (A A' : Option Addr) (c c' : Nat) (cl : List Int) (both : Bool) (w : World) (ht : TabOk rows N T) (h0 : 0 < N) (hN : N ≤ 300) (h : SeeTab w A rows) (h' : SeeInts w A' cl) (hl : cl.length = N) :
    Calls Tryz.prog 99 #[.slice A N c, .slice A' N c', .bool both] w (StPost N T both cl w) := by
  obtain ⟨bt, ot, rfl, ta⟩ := h.at_ ht h0
  obtain ⟨bc, oc, rfl, ca⟩ := h'.cls (by omega)
  rw [hl] at ca
  have HLT := Lib.hid (show ∀ i k, i < N → k < N → T i k < N from fun i k hi hk => by obtain ⟨_, _, _, _, h⟩ := ht.row i k hi hk; exact h)
  have TA := Lib.hid ta
  have CA := Lib.hid ca
  clear ht h h' ta ca
  unfold StPost
  go_enter Tryz.func99, Tryz.ntmps99
  go_wp2
  go_loopw [18] (fun iv wr => ∃ a : Nat, a ≤ N ∧ iv = .int .i64 a ∧ Hid (∀ a' b', a' < a → b' < a' → relL cl a' b' → ∀ c, c < N → OkC T both cl a' b' c) ∧ Below w.heap.size w wr) (fun iv _ => N - (intOf iv).toNat)
  case atStart => exact ⟨0, Nat.zero_le _, rfl, Lib.hid (fun a' b' h => by omega), Below.refl _ _⟩
  case round =>
    obtain ⟨a, ha, rfl, hA, hb⟩ := hrel
    have a0 : (0 : Int) ≤ a := by omega
    by_cases halt : a < N
    · have a1 : (a : Int) < N := by omega
      go_wp2
      go_loopw [22] (fun iv wr => ∃ b : Nat, b ≤ a ∧ iv = .int .i64 b ∧ Hid (∀ b', b' < b → relL cl a b' → ∀ c, c < N → OkC T both cl a b' c) ∧ Below w.heap.size w wr) (fun iv _ => a - (intOf iv).toNat)
      case atStart => exact ⟨0, Nat.zero_le _, rfl, Lib.hid (fun b' h => by omega), hb⟩
      case round =>
        clear hb
        obtain ⟨b, hbl, rfl, hB, hb⟩ := hrel
        have b0 : (0 : Int) ≤ b := by omega
        by_cases hblt : b < a
        · have b1 : (b : Int) < N := by omega
          have b2 : (b : Int) < a := by omega
          have ga := bwc hb (CA.out a halt)
          have gb := bwc hb (CA.out b (by omega))
          have hrel' : relL cl a b ↔ cls cl a = cls cl b := Iff.rfl
          have HREL := Lib.hid hrel'
          clear hrel'
          generalize cls cl a = xa at *
          generalize cls cl b = xb at *
          by_cases e : xa = xb
          · have d : (xa != xb) = false := by simpa using e
            have HAB := Lib.hid (HREL.out.2 e)
            clear e HREL
            go_wp2
            refine wp_region_bw (by kernel_rfl) (by kernel_rfl) ?_
            repeat go_big_quiet_step (fail)
            refine wpQuiet_nil ?_
            rintro w2 ⟨⟨w2x, hb2⟩, rfl⟩
            replace hb := btrans hb hb2
            clear ga gb d
            go_wp2
            go_loopw [36] (fun iv wr => ∃ c : Nat, c ≤ N ∧ iv = .int .i64 c ∧ Hid (∀ c', c' < c → OkC T both cl a b c') ∧ Below w.heap.size w wr) (fun iv _ => N - (intOf iv).toNat)
            case atStart => exact ⟨0, Nat.zero_le _, rfl, Lib.hid (fun c' h => by omega), hb⟩
            case round =>
              clear hb hb2
              obtain ⟨c, hcl, rfl, hC, hb⟩ := hrel
              have c0 : (0 : Int) ≤ c := by omega
              by_cases hclt : c < N
              · have c1 : (c : Int) < N := by omega
                obtain ⟨b3, o3, c3, r3, q3⟩ := TA.out a halt
                obtain ⟨b4, o4, c4, r4, q4⟩ := TA.out b (by omega)
                have t3 := HLT.out a c halt hclt
                have t4 := HLT.out b c (by omega) hclt
                have x0 : (0 : Int) ≤ (T a c : Nat) := by omega
                have x1 : ((T a c : Nat) : Int) < N := by omega
                have y0 : (0 : Int) ≤ (T b c : Nat) := by omega
                have y1 : ((T b c : Nat) : Int) < N := by omega
                have k3 := bwc hb r3
                have k4 := bwc hb r4
                have m3 := bwc hb (q3 c hclt)
                have m4 := bwc hb (q4 c hclt)
                have hF : Forced N T both cl (T a c) (T b c) := ⟨a, b, c, halt, by omega, hclt, HAB.out, .inl ⟨rfl, rfl⟩⟩
                have HF := Lib.hid hF
                have HR1 := Lib.hid (show relL cl (T a c) (T b c) ↔ cls cl (T a c) = cls cl (T b c) from Iff.rfl)
                have gx := CA.out (T a c) t3
                have gy := CA.out (T b c) t4
                clear q3 q4 r3 r4 hF
                obtain ⟨x, hx⟩ : ∃ x, x = T a c := ⟨_, rfl⟩
                obtain ⟨y, hy⟩ : ∃ y, y = T b c := ⟨_, rfl⟩
                rw [← hx] at HF HR1 m3 gx t3 x0 x1
                rw [← hy] at HF HR1 m4 gy t4 y0 y1
                have HX := Lib.hid hx
                have HY := Lib.hid hy
                clear hx hy
                generalize cls cl x = vx at *
                generalize cls cl y = vy at *
                by_cases e : vx = vy
                · have d : (vx != vy) = false := by simpa using e
                  have HO1 := Lib.hid (show relL cl (T a c) (T b c) by rw [← HX.out, ← HY.out]; exact HR1.out.2 e)
                  clear e HR1 HF HX HY
                  go_wp2
                  refine wp_region_bw (by kernel_rfl) (by kernel_rfl) ?_
                  repeat go_big_quiet_step (fail)
                  refine wpQuiet_nil ?_
                  rintro w2 ⟨⟨w2x, hb2⟩, rfl⟩
                  replace hb := btrans hb hb2
                  have n3 := bwc hb gx
                  have n4 := bwc hb gy
                  clear k3 k4 m3 m4 gx gy
                  go_wp2
                  refine wp_region_bw (by kernel_rfl) (by kernel_rfl) ?_
                  repeat go_big_quiet_step (fail)
                  refine wpQuiet_nil ?_
                  rintro w3 ⟨⟨w3x, hb3⟩, rfl⟩
                  replace hb := btrans hb hb3
                  clear n3 n4 d hb2 hb3 x0 x1 y0 y1 t3 t4
                  obtain ⟨b3, o3, c3, r3, q3⟩ := TA.out c hclt
                  have t3 := HLT.out c a hclt halt
                  have t4 := HLT.out c b hclt (by omega)
                  have x0 : (0 : Int) ≤ (T c a : Nat) := by omega
                  have x1 : ((T c a : Nat) : Int) < N := by omega
                  have y0 : (0 : Int) ≤ (T c b : Nat) := by omega
                  have y1 : ((T c b : Nat) : Int) < N := by omega
                  have k3 := bwc hb r3
                  have m3 := bwc hb (q3 a halt)
                  have m4 := bwc hb (q3 b (by omega))
                  have HF := Lib.hid (show both = true → Forced N T both cl (T c a) (T c b) from fun hB => ⟨a, b, c, halt, by omega, hclt, HAB.out, .inr ⟨hB, rfl, rfl⟩⟩)
                  have HR1 := Lib.hid (show relL cl (T c a) (T c b) ↔ cls cl (T c a) = cls cl (T c b) from Iff.rfl)
                  have gx := CA.out (T c a) t3
                  have gy := CA.out (T c b) t4
                  clear q3 r3
                  obtain ⟨x, hx⟩ : ∃ x, x = T c a := ⟨_, rfl⟩
                  obtain ⟨y, hy⟩ : ∃ y, y = T c b := ⟨_, rfl⟩
                  rw [← hx] at HF HR1 m3 gx t3 x0 x1
                  rw [← hy] at HF HR1 m4 gy t4 y0 y1
                  have HX := Lib.hid hx
                  have HY := Lib.hid hy
                  clear hx hy
                  generalize cls cl x = vx at *
                  generalize cls cl y = vy at *
                  go_wp2
                  refine wp_region_bw (by kernel_rfl) (by kernel_rfl) ?_
                  repeat go_big_quiet_step (fail)
                  refine wpQuiet_nil ?_
                  rintro w2 ⟨⟨w2x, hb2⟩, rfl⟩
                  replace hb := btrans hb hb2
                  have n3 := bwc hb gx
                  have n4 := bwc hb gy
                  clear k3 m3 m4 gx gy
                  cases both
                  · have HO2 := Lib.hid (show OkC T false cl a b c from ⟨HO1.out, fun h => by cases h⟩)
                    clear HF HR1 HX HY HO1
                    go_wp2
                    refine wp_region_bw (by kernel_rfl) (by kernel_rfl) ?_
                    repeat go_big_quiet_step (fail)
                    refine wpQuiet_nil ?_
                    rintro w3 ⟨⟨w3x, hb3⟩, rfl⟩
                    replace hb := btrans hb hb3
                    go_wp2
                    go_roundw
                    case rel => exact ⟨c + 1, by omega, by go_num, Lib.hid (fun c' h => by
                      by_cases e : c' = c
                      · subst e; exact HO2.out
                      · exact hC.out c' (by omega)), hb⟩
                    case measure => simp [intOf]; omega
                  · by_cases e : vx = vy
                    · have d : (vx != vy) = false := by simpa using e
                      have HO2 := Lib.hid (show OkC T true cl a b c from ⟨HO1.out, fun _ => by rw [← HX.out, ← HY.out]; exact HR1.out.2 e⟩)
                      clear HF HR1 HX HY HO1 e
                      go_wp2
                      refine wp_region_bw (by kernel_rfl) (by kernel_rfl) ?_
                      repeat go_big_quiet_step (fail)
                      refine wpQuiet_nil ?_
                      rintro w3 ⟨⟨w3x, hb3⟩, rfl⟩
                      replace hb := btrans hb hb3
                      go_wp2
                      go_roundw
                      case rel => exact ⟨c + 1, by omega, by go_num, Lib.hid (fun c' h => by
                        by_cases e : c' = c
                        · subst e; exact HO2.out
                        · exact hC.out c' (by omega)), hb⟩
                      case measure => simp [intOf]; omega
                    · have d : (vx != vy) = true := by simpa using e
                      have HN2 := Lib.hid (show ¬ relL cl x y from fun h => e (HR1.out.1 h))
                      clear HR1 HX HY HO1 e
                      go_wp2
                      refine wp_region_bw (by kernel_rfl) (by kernel_rfl) ?_
                      repeat go_big_quiet_step (fail)
                      refine wpQuiet_nil ?_
                      rintro w3 ⟨⟨w3x, hb3⟩, rfl⟩
                      replace hb := btrans hb hb3
                      go_wp2
                      go_returns
                      exact ⟨hb, .inr ⟨x, y, rfl, t3, t4, HN2.out, HF.out (by first | rfl | trivial)⟩⟩
                · have d : (vx != vy) = true := by simpa using e
                  have HN2 := Lib.hid (show ¬ relL cl x y from fun h => e (HR1.out.1 h))
                  clear HR1 HX HY e
                  go_wp2
                  refine wp_region_bw (by kernel_rfl) (by kernel_rfl) ?_
                  repeat go_big_quiet_step (fail)
                  refine wpQuiet_nil ?_
                  rintro w2 ⟨⟨w2x, hb2⟩, rfl⟩
                  replace hb := btrans hb hb2
                  have n3 := bwc hb gx
                  have n4 := bwc hb gy
                  clear k3 k4 m3 m4 gx gy
                  go_wp2
                  refine wp_region_bw (by kernel_rfl) (by kernel_rfl) ?_
                  repeat go_big_quiet_step (fail)
                  refine wpQuiet_nil ?_
                  rintro w3 ⟨⟨w3x, hb3⟩, rfl⟩
                  replace hb := btrans hb hb3
                  go_wp2
                  go_returns
                  exact ⟨hb, .inr ⟨x, y, rfl, t3, t4, HN2.out, HF.out⟩⟩
              · obtain rfl : c = N := by omega
                go_wp2
                go_roundw
                case rel => exact ⟨b + 1, by omega, by go_num, Lib.hid (fun b' h hr c' hc' => by
                  by_cases e : b' = b
                  · subst e; exact hC.out c' hc'
                  · exact hB.out b' (by omega) hr c' hc'), hb⟩
                case measure => simp [intOf]; omega
          · have d : (xa != xb) = true := by simpa using e
            have HAB := Lib.hid (show ¬ relL cl a b from fun h => e (HREL.out.1 h))
            clear e HREL
            go_wp2
            refine wp_region_bw (by kernel_rfl) (by kernel_rfl) ?_
            repeat go_big_quiet_step (fail)
            refine wpQuiet_nil ?_
            rintro w2 ⟨⟨w2x, hb2⟩, rfl⟩
            replace hb := btrans hb hb2
            go_wp2
            go_roundw
            case rel => exact ⟨b + 1, by omega, by go_num, Lib.hid (fun b' h hr c' hc' => by
              by_cases e : b' = b
              · subst e; exact absurd hr HAB.out
              · exact hB.out b' (by omega) hr c' hc'), hb⟩
            case measure => simp [intOf]; omega
        · obtain rfl : b = a := by omega
          go_wp2
          go_roundw
          case rel => exact ⟨b + 1, by omega, by go_num, Lib.hid (fun a' b' h1 h2 hr c' hc' => by
            by_cases e : a' = b
            · subst e; exact hB.out b' h2 hr c' hc'
            · exact hA.out a' b' (by omega) h2 hr c' hc'), hb⟩
          case measure => simp [intOf]; omega
    · obtain rfl : a = N := by omega
      go_wp2
      go_returns
      exact ⟨hb, .inl ⟨rfl, stab_of hA.out⟩⟩
end
end Go.Proofs.YtjepmbjneccagaaGreat
