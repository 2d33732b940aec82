/- 'FnInverses' returns true. No condition. (Printed by tools/gen_fninv.py.) -/
import Derived.Test.YtilfamenadaboaaGreatFnInvP
import Derived.Test.YtilfamenadaboaaGreatDraw4
import Derived.Test.YtilfamenadaboaaGreatLike9
import Derived.Deep.Cut
namespace Go.Proofs.YtilfamenadaboaaGreat
set_option linter.unusedSimpArgs false
set_option linter.unusedVariables false
set_option linter.unusedSectionVars false
open Go.RowKit
/-- maps and a code that a call hands back, as they are seen -/
def LmPost (xs : List Mp) (q : Int) (w : World) (e : Ending) (w' : World) : Prop :=
  ∃ (A : Option Addr) (c : Nat), e = .returned (.tuple #[.slice A xs.length c, .int .i64 q]) ∧ SeeMaps w' A xs ∧ Below w.heap.size w w'
theorem lm_of {f : FuncId} {args : Array Value} {w : World} {R : List Mp × Int} {xs : List Mp} {q : Int} (h : Calls Tryz.prog f args w fun e w' => ∃ v, e = .returned (.tuple #[v, .int .i64 R.2]) ∧ OwnMaps w' w.heap.size v R.1 ∧ Below w.heap.size w w') (e : R = (xs, q)) : Calls Tryz.prog f args w (LmPost xs q w) := by
  subst e
  refine h.mono ?_
  rintro e w' ⟨v, rfl, ol, hb⟩
  obtain ⟨A', c', rfl, _⟩ := ol.see
  exact ⟨A', c', rfl, ol.see', hb⟩
theorem bi_of {f : FuncId} {args : Array Value} {w : World} {R : Bool × Int} {b : Bool} {q : Int} (h : Calls Tryz.prog f args w fun e w' => e = .returned (.tuple #[.bool R.1, .int .i64 R.2]) ∧ Below w.heap.size w w') (e : R = (b, q)) : Calls Tryz.prog f args w fun e w' => e = .returned (.tuple #[.bool b, .int .i64 q]) ∧ Below w.heap.size w w' := by
  subst e
  exact h
theorem m9_t {w : World} {A A' : Option Addr} {c c' : Nat} {xs : List Mp} (h : SeeMaps w A xs) (h' : SeeMaps w A' xs) (hl : xs.length ≤ 300) : Calls Tryz.prog 9 #[.slice A xs.length c, .slice A' xs.length c'] w fun e w' => e = .returned (.bool true) ∧ Below w.heap.size w w' :=
  valB (maps9_c A A' c c' xs xs w (by omega) h h') (by simp)
theorem sz_of {w : World} {A : Option Addr} {c : Nat} {ms els : List Mp} (h : SeeMaps w A ms) (hn : ms.length ≤ 2097152) (hA : NilOk A c) (e : RElementsOf ms = (els, 0)) : Calls Tryz.prog 19 #[.slice A ms.length c] w fun e w' => e = .returned (.tuple #[.int .i64 (els.length : Int), .int .i64 0]) ∧ Below w.heap.size w w' := by
  have := implSizeOf_l h hn hA
  rw [e] at this
  exact this
set_option maxHeartbeats 32000000 in
set_option maxRecDepth 100000 in
theorem FnInverses_c {c : Nat} {A : Option Addr} {code : List Int} (w : World) (h : SeeBytes w A code) (hl0 : code.length ≤ 9223372036854775807) :
    Calls Tryz.prog 3 #[.slice A code.length c] w fun e w' => e = .returned (.bool true) ∧ Below w.heap.size w w' := by
  have hbg := big_c A code.length c w hl0
  by_cases hb : 4096 < code.length
  · rw [decide_eq_true hb] at hbg
    have HBG := Lib.hid hbg
    clear hbg hb
    go_enter Tryz.func3, Tryz.ntmps3
    go_wp2_with fail
    refine HBG.out.mono ?_
    rintro e w1 ⟨rfl, hb1⟩
    go_wp2
    go_returns
    exact ⟨rfl, hb1⟩
  · have hl : code.length ≤ 4611686018427387904 := by omega
    rw [decide_eq_false hb] at hbg
    have HBG := Lib.hid hbg
    have HSRC := Lib.hid (show ∀ W, Below w.heap.size w W → SeeBytes W A code from fun W hW => h.below hW)
    have HLEN := Lib.hid hl
    clear hbg hb h hl hl0
    go_enter Tryz.func3, Tryz.ntmps3
    go_wp2_with fail
    refine HBG.out.mono ?_
    rintro e w1 ⟨rfl, hb0⟩
    clear HBG
    have HDR := Lib.hid (DrawInversesIn_c (c := c) w1 (HSRC.out _ hb0) HLEN.out)
    unfold MdPost at HDR
    go_wp2_with fail
    refine HDR.out.mono ?_
    rintro e w2 ⟨A1, c1, ms, f, rfl, sm, nm, _, h7, hb2⟩
    clear HDR
    obtain ⟨W3, hW3⟩ : ∃ W3, W3 = w2.alloc (.cells #[.int .i64 f.p, .int .i64 f.a, .int .i64 f.b, .int .i64 f.c, .int .i64 f.d, .int .i64 f.e] 27) := ⟨_, rfl⟩
    have k3 : Below w2.heap.size w2 W3 := by rw [hW3]; exact kbelow _ _
    have bf : MpBox W3 w2.heap.size f := by rw [hW3]; exact MpBox.new f 27 rfl
    have hb3 := btrans hb2 k3
    replace sm := sm.below k3
    replace hb0 := btrans hb0 hb3
    obtain ⟨xs, rb, q, e1, e2, xl, ex, ez⟩ := inv_vals ms f
    have HE1 := Lib.hid e1
    have HE2 := Lib.hid e2
    have HEX := Lib.hid ex
    have HEZ := Lib.hid ez
    clear e1 e2 ex ez
    obtain ⟨bf0, bf1, bf2, bf3, bf4, bf5⟩ := bf.at.cells0
    have dq : (q != q) = false := by simp
    have dr : (rb != rb) = false := by cases rb <;> rfl
    have H21 := Lib.hid (lm_of (implInversesIn_l (f := f) (c := c1) sm (by omega) nm) HE1.out)
    unfold LmPost at H21
    go_upto_region 4 with fail
    rw [← hW3]
    clear hW3
    go_wp2_with fail
    refine H21.out.mono ?_
    rintro e w21 ⟨X, Xc, rfl, sx, hb21⟩
    clear H21
    replace sm := sm.below hb21
    replace bf := bf.below hb21
    clear bf0 bf1 bf2 bf3 bf4 bf5
    obtain ⟨bf0, bf1, bf2, bf3, bf4, bf5⟩ := bf.at.cells0
    replace hb0 := btrans hb0 hb21
    have H22 := Lib.hid (lm_of (specInversesIn_l (f := f) (c := c1) sm (by omega) nm) HE1.out)
    unfold LmPost at H22
    go_wp2_with fail
    refine H22.out.mono ?_
    rintro e w22 ⟨Y, Yc, rfl, sy, hb22⟩
    clear H22
    replace sm := sm.below hb22
    replace sx := sx.below hb22
    replace bf := bf.below hb22
    clear bf0 bf1 bf2 bf3 bf4 bf5
    obtain ⟨bf0, bf1, bf2, bf3, bf4, bf5⟩ := bf.at.cells0
    replace hb0 := btrans hb0 hb22
    have H23 := Lib.hid (m9_t (c := Xc) (c' := Yc) sx sy xl)
    go_wp2_with fail
    refine H23.out.mono ?_
    rintro e w23 ⟨rfl, hb23⟩
    clear H23
    replace sm := sm.below hb23
    replace sx := sx.below hb23
    replace sy := sy.below hb23
    replace bf := bf.below hb23
    clear bf0 bf1 bf2 bf3 bf4 bf5
    obtain ⟨bf0, bf1, bf2, bf3, bf4, bf5⟩ := bf.at.cells0
    replace hb0 := btrans hb0 hb23
    clear sy
    have H24 := Lib.hid (bi_of (implIsRegularIn_l (f := f) (c := c1) sm (by omega) nm) HE2.out)
    go_wp2_with fail
    refine H24.out.mono ?_
    rintro e w24 ⟨rfl, hb24⟩
    clear H24
    replace sm := sm.below hb24
    replace sx := sx.below hb24
    replace bf := bf.below hb24
    clear bf0 bf1 bf2 bf3 bf4 bf5
    obtain ⟨bf0, bf1, bf2, bf3, bf4, bf5⟩ := bf.at.cells0
    replace hb0 := btrans hb0 hb24
    have H25 := Lib.hid (bi_of (specIsRegularIn_l (f := f) (c := c1) sm (by omega)) HE2.out)
    go_wp2_with fail
    refine H25.out.mono ?_
    rintro e w25 ⟨rfl, hb25⟩
    clear H25
    replace sm := sm.below hb25
    replace sx := sx.below hb25
    replace bf := bf.below hb25
    clear bf0 bf1 bf2 bf3 bf4 bf5
    obtain ⟨bf0, bf1, bf2, bf3, bf4, bf5⟩ := bf.at.cells0
    replace hb0 := btrans hb0 hb25
    have HDS := Lib.hid (DrawRegularElements_c (c := c) w25 (HSRC.out _ hb0) HLEN.out)
    go_wp2_with fail
    refine HDS.out.mono ?_
    rintro e w26 ⟨A2, c2, ns, rfl, sn, nn, h72, hb26⟩
    clear HDS
    replace sm := sm.below hb26
    replace sx := sx.below hb26
    replace bf := bf.below hb26
    clear bf0 bf1 bf2 bf3 bf4 bf5
    obtain ⟨bf0, bf1, bf2, bf3, bf4, bf5⟩ := bf.at.cells0
    replace hb0 := btrans hb0 hb26
    obtain ⟨all, whole, inv, p, e1, e2, e3, al, ez⟩ := reg_vals ns
    have HR1 := Lib.hid e1
    have HR2 := Lib.hid e2
    have HR3 := Lib.hid e3
    have HRZ := Lib.hid ez
    clear e1 e2 e3 ez
    have dp : (p != p) = false := by simp
    have dw : (whole != whole) = false := by cases whole <;> rfl
    have di : (inv != inv) = false := by cases inv <;> rfl
    have H27 := Lib.hid (lm_of (implRegularElements_l (c := c2) sn (by omega) nn) HR1.out)
    unfold LmPost at H27
    go_wp2_with fail
    refine H27.out.mono ?_
    rintro e w27 ⟨P, Pc, rfl, sp, hb27⟩
    clear H27
    replace sm := sm.below hb27
    replace sx := sx.below hb27
    replace sn := sn.below hb27
    replace bf := bf.below hb27
    clear bf0 bf1 bf2 bf3 bf4 bf5
    obtain ⟨bf0, bf1, bf2, bf3, bf4, bf5⟩ := bf.at.cells0
    replace hb0 := btrans hb0 hb27
    have H28 := Lib.hid (lm_of (specRegularElements_l (c := c2) sn (by omega) nn) HR1.out)
    unfold LmPost at H28
    go_wp2_with fail
    refine H28.out.mono ?_
    rintro e w28 ⟨Q, Qc, rfl, sq, hb28⟩
    clear H28
    replace sm := sm.below hb28
    replace sx := sx.below hb28
    replace sn := sn.below hb28
    replace sp := sp.below hb28
    replace bf := bf.below hb28
    clear bf0 bf1 bf2 bf3 bf4 bf5
    obtain ⟨bf0, bf1, bf2, bf3, bf4, bf5⟩ := bf.at.cells0
    replace hb0 := btrans hb0 hb28
    have H29 := Lib.hid (m9_t (c := Pc) (c' := Qc) sp sq al)
    go_wp2_with fail
    refine H29.out.mono ?_
    rintro e w29 ⟨rfl, hb29⟩
    clear H29
    replace sm := sm.below hb29
    replace sx := sx.below hb29
    replace sn := sn.below hb29
    replace sp := sp.below hb29
    replace sq := sq.below hb29
    replace bf := bf.below hb29
    clear bf0 bf1 bf2 bf3 bf4 bf5
    obtain ⟨bf0, bf1, bf2, bf3, bf4, bf5⟩ := bf.at.cells0
    replace hb0 := btrans hb0 hb29
    clear sq
    clear sp
    have H30 := Lib.hid (bi_of (implIsRegularMonoid_l (c := c2) sn (by omega) nn) HR2.out)
    go_wp2_with fail
    refine H30.out.mono ?_
    rintro e w30 ⟨rfl, hb30⟩
    clear H30
    replace sm := sm.below hb30
    replace sx := sx.below hb30
    replace sn := sn.below hb30
    replace bf := bf.below hb30
    clear bf0 bf1 bf2 bf3 bf4 bf5
    obtain ⟨bf0, bf1, bf2, bf3, bf4, bf5⟩ := bf.at.cells0
    replace hb0 := btrans hb0 hb30
    have H31 := Lib.hid (bi_of (specIsRegularMonoid_l (c := c2) sn (by omega) nn) HR2.out)
    go_wp2_with fail
    refine H31.out.mono ?_
    rintro e w31 ⟨rfl, hb31⟩
    clear H31
    replace sm := sm.below hb31
    replace sx := sx.below hb31
    replace sn := sn.below hb31
    replace bf := bf.below hb31
    clear bf0 bf1 bf2 bf3 bf4 bf5
    obtain ⟨bf0, bf1, bf2, bf3, bf4, bf5⟩ := bf.at.cells0
    replace hb0 := btrans hb0 hb31
    have H32 := Lib.hid (bi_of (implIsInverseMonoid_l (c := c2) sn (by omega) nn) HR3.out)
    go_wp2_with fail
    refine H32.out.mono ?_
    rintro e w32 ⟨rfl, hb32⟩
    clear H32
    replace sm := sm.below hb32
    replace sx := sx.below hb32
    replace sn := sn.below hb32
    replace bf := bf.below hb32
    clear bf0 bf1 bf2 bf3 bf4 bf5
    obtain ⟨bf0, bf1, bf2, bf3, bf4, bf5⟩ := bf.at.cells0
    replace hb0 := btrans hb0 hb32
    have H33 := Lib.hid (bi_of (specIsInverseMonoid_l (c := c2) sn (by omega) nn) HR3.out)
    go_wp2_with fail
    refine H33.out.mono ?_
    rintro e w33 ⟨rfl, hb33⟩
    clear H33
    replace sm := sm.below hb33
    replace sx := sx.below hb33
    replace sn := sn.below hb33
    replace bf := bf.below hb33
    clear bf0 bf1 bf2 bf3 bf4 bf5
    obtain ⟨bf0, bf1, bf2, bf3, bf4, bf5⟩ := bf.at.cells0
    replace hb0 := btrans hb0 hb33
    go_upto_if 139 with fail
    go_cut [] from 13 (fun wx => Below w33.heap.size w33 wx)
    case first => as_aux_lemma =>
      by_cases hp : p = 0
      · subst hp
        obtain ⟨els, ids, e1, e2, e3, e4, e5, e6⟩ := HRZ.out rfl
        have HE := Lib.hid e1
        have HF := Lib.hid e2
        clear bf0 bf1 bf2 bf3 bf4 bf5
        clear bf
        clear sm
        clear sx
        have hbz := Below.refl w33.heap.size w33
        replace hb0 := hbz
        clear hbz
        by_cases hwh : all.length = els.length
        · rw [decide_eq_true hwh] at e3
          subst e3
          have dl : ((all.length : Int) == (els.length : Int)) = true := by rw [hwh]; simp
          have din : (inv && false) = false := by simp
          clear hwh e4 e1 e2
          have H34 := Lib.hid (sz_of (c := c2) sn (by omega) nn HE.out)
          go_wp2_with fail
          refine H34.out.mono ?_
          rintro e w34 ⟨rfl, hb34⟩
          clear H34
          replace sn := sn.below hb34
          replace hb0 := btrans hb0 hb34
          have H35 := Lib.hid (lm_of (implIdempotentsOf_l (c := c2) sn (by omega) nn) HF.out)
          unfold LmPost at H35
          go_wp2_with fail
          refine H35.out.mono ?_
          rintro e w35 ⟨I, Ic, rfl, si, hb35⟩
          clear H35
          replace sn := sn.below hb35
          replace hb0 := btrans hb0 hb35
          have dg : ¬ ((all.length : Int) < (ids.length : Int)) := by omega
          clear e5 e6
          go_wp2
          all_goals (go_meet; case rel => exact hb0)
        · rw [decide_eq_false hwh] at e3
          subst e3
          have dl : ((all.length : Int) == (els.length : Int)) = false := by rw [beq_eq_false_iff_ne]; omega
          have din : inv = false := by cases inv with | false => rfl | true => exact absurd (e4 rfl) (by decide)
          subst din
          clear hwh e4 e1 e2
          have H36 := Lib.hid (sz_of (c := c2) sn (by omega) nn HE.out)
          go_wp2_with fail
          refine H36.out.mono ?_
          rintro e w36 ⟨rfl, hb36⟩
          clear H36
          replace sn := sn.below hb36
          replace hb0 := btrans hb0 hb36
          have H37 := Lib.hid (lm_of (implIdempotentsOf_l (c := c2) sn (by omega) nn) HF.out)
          unfold LmPost at H37
          go_wp2_with fail
          refine H37.out.mono ?_
          rintro e w37 ⟨I, Ic, rfl, si, hb37⟩
          clear H37
          replace sn := sn.below hb37
          replace hb0 := btrans hb0 hb37
          have dg : ¬ ((all.length : Int) < (ids.length : Int)) := by omega
          clear e5 e6
          go_wp2
          all_goals (go_meet; case rel => exact hb0)
      · have dz : (p == 0) = false := by simpa using hp
        clear hp
        go_wp2
        go_meet
        case rel => exact Below.refl _ _
    case rest => as_aux_lemma =>
      clear sn
      have hbc := hcut
      clear hcut HR1 HR2 HR3 HRZ dp dw di
      replace sm := sm.below hbc
      replace sx := sx.below hbc
      replace bf := bf.below hbc
      clear bf0 bf1 bf2 bf3 bf4 bf5
      obtain ⟨bf0, bf1, bf2, bf3, bf4, bf5⟩ := bf.at.cells0
      replace hb0 := btrans hb0 hbc
      by_cases hq : q = 0
      · subst hq
        obtain ⟨hrb, hys⟩ := HEZ.out rfl
        have HYS := Lib.hid hys
        clear hys dr dq
        obtain ⟨Wl, hWl⟩ : ∃ Wl, Wl = wc := ⟨_, rfl⟩
        have HB0 := Lib.hid hb0
        have SX := Lib.hid sx
        have SM := Lib.hid sm
        have BF := Lib.hid bf
        clear sx sm bf hb0 hWl bf0 bf1 bf2 bf3 bf4 bf5 HEX HEZ HE1 HE2
        by_cases hx : 0 < xs.length
        · rw [decide_eq_true hx] at hrb
          subst hrb
          have hxi : (0 : Int) < xs.length := by omega
          go_wp2
          go_loopw [30] (fun iv wr => ∃ i : Nat, i ≤ xs.length ∧ i ≤ 4 ∧ iv = .int .i64 i ∧ Below wc.heap.size wc wr) (fun iv _ => 4 - (intOf iv).toNat)
          case atStart => exact ⟨0, by omega, by omega, rfl, Below.refl _ _⟩
          case round =>
            obtain ⟨i, hi, hi4, rfl, hb⟩ := hrel
            have i0 : (0 : Int) ≤ i := by omega
            by_cases hix : i < xs.length
            · have i1 : (i : Int) < xs.length := by omega
              by_cases hi4' : i < 4
              · have i2 : (i : Int) < 4 := by omega
                obtain ⟨b, o, g, rfl, hg, gg⟩ := (SX.out.below hb).at_ hix
                obtain ⟨g0, g1, g2, g3, g4, g5⟩ := gg
                obtain ⟨ys, ey, fy, yl⟩ := HYS.out g (List.mem_of_getElem? hg)
                have HIN := Lib.hid (lm_of (implInversesIn_l (f := g) (c := c1) (SM.out.below hb) (by omega) nm) ey)
                unfold LmPost at HIN
                clear hg ey
                go_wp2_with fail
                refine HIN.out.mono ?_
                rintro e w8 ⟨Z, Zc, rfl, sz, hb8⟩
                clear HIN
                have hb9 := btrans hb hb8
                obtain ⟨f0, f1, f2, f3, f4, f5⟩ := (BF.out.below hb9).at.cells0
                have HHM := Lib.hid (valB (hasMap9_c Z Zc ys f w8 (by omega) sz) (decide_eq_true fy))
                clear sz fy yl g0 g1 g2 g3 g4 g5
                go_wp2_with fail
                refine HHM.out.mono ?_
                rintro e w10 ⟨rfl, hb10⟩
                go_wp2
                go_roundw
                case rel => exact ⟨i + 1, by omega, by omega, by go_num, btrans hb9 hb10⟩
                case measure => simp [intOf]; omega
              · have i2 : ¬ (i : Int) < 4 := by omega
                go_wp2
                go_returns
                exact ⟨rfl, btrans HB0.out hb⟩
            · have i1 : ¬ (i : Int) < xs.length := by omega
              go_wp2
              go_returns
              exact ⟨rfl, btrans HB0.out hb⟩
        · rw [decide_eq_false hx] at hrb
          subst hrb
          have hxi : ¬ (0 : Int) < xs.length := by omega
          go_wp2
          go_loopw [30] (fun iv wr => ∃ i : Nat, i ≤ xs.length ∧ i ≤ 4 ∧ iv = .int .i64 i ∧ Below wc.heap.size wc wr) (fun iv _ => 4 - (intOf iv).toNat)
          case atStart => exact ⟨0, by omega, by omega, rfl, Below.refl _ _⟩
          case round =>
            obtain ⟨i, hi, hi4, rfl, hb⟩ := hrel
            have i0 : (0 : Int) ≤ i := by omega
            by_cases hix : i < xs.length
            · have i1 : (i : Int) < xs.length := by omega
              by_cases hi4' : i < 4
              · have i2 : (i : Int) < 4 := by omega
                obtain ⟨b, o, g, rfl, hg, gg⟩ := (SX.out.below hb).at_ hix
                obtain ⟨g0, g1, g2, g3, g4, g5⟩ := gg
                obtain ⟨ys, ey, fy, yl⟩ := HYS.out g (List.mem_of_getElem? hg)
                have HIN := Lib.hid (lm_of (implInversesIn_l (f := g) (c := c1) (SM.out.below hb) (by omega) nm) ey)
                unfold LmPost at HIN
                clear hg ey
                go_wp2_with fail
                refine HIN.out.mono ?_
                rintro e w8 ⟨Z, Zc, rfl, sz, hb8⟩
                clear HIN
                have hb9 := btrans hb hb8
                obtain ⟨f0, f1, f2, f3, f4, f5⟩ := (BF.out.below hb9).at.cells0
                have HHM := Lib.hid (valB (hasMap9_c Z Zc ys f w8 (by omega) sz) (decide_eq_true fy))
                clear sz fy yl g0 g1 g2 g3 g4 g5
                go_wp2_with fail
                refine HHM.out.mono ?_
                rintro e w10 ⟨rfl, hb10⟩
                go_wp2
                go_roundw
                case rel => exact ⟨i + 1, by omega, by omega, by go_num, btrans hb9 hb10⟩
                case measure => simp [intOf]; omega
              · have i2 : ¬ (i : Int) < 4 := by omega
                go_wp2
                go_returns
                exact ⟨rfl, btrans HB0.out hb⟩
            · have i1 : ¬ (i : Int) < xs.length := by omega
              go_wp2
              go_returns
              exact ⟨rfl, btrans HB0.out hb⟩
      · have dz : (q != 0) = true := by simpa using hq
        obtain rfl := HEX.out hq
        have dqq : (q == q) = true := by simp
        clear hq
        go_wp2
        go_returns
        exact ⟨rfl, hb0⟩
end Go.Proofs.YtilfamenadaboaaGreat
