/- 'FnIdeals' returns true. No condition. (Printed by tools/gen_fnidl.py.) -/
import Derived.Test.YtilfamenadaboaaGreatFnIdlP
import Derived.Test.YtilfamenadaboaaGreatDraw4B
import Derived.Test.YtilfamenadaboaaGreatLike9
import Derived.Deep.Cut
namespace Go.Proofs.YtilfamenadaboaaGreat
set_option linter.unusedSimpArgs false
set_option linter.unusedVariables false
set_option linter.unusedSectionVars false
open Go.RowKit
/-- maps and a code that a call hands back, as they are seen -/
def LmPost (xs : List Mp) (q : Int) (w : World) (e : Ending) (w' : World) : Prop :=
  ∃ (A : Option Addr) (c : Nat), e = .returned (.tuple #[.slice A xs.length c, .int .i64 q]) ∧ SeeMaps w' A xs ∧ Below w.heap.size w w'
theorem lm_of {f : FuncId} {args : Array Value} {w : World} {R : List Mp × Int} {xs : List Mp} {q : Int} (h : Calls Tryz.prog f args w fun e w' => ∃ v, e = .returned (.tuple #[v, .int .i64 R.2]) ∧ OwnMaps w' w.heap.size v R.1 ∧ Below w.heap.size w w') (e : R = (xs, q)) : Calls Tryz.prog f args w (LmPost xs q w) := by
  subst e
  refine h.mono ?_
  rintro e w' ⟨v, rfl, ol, hb⟩
  obtain ⟨A', c', rfl, _⟩ := ol.see
  exact ⟨A', c', rfl, ol.see', hb⟩
theorem bi_of {f : FuncId} {args : Array Value} {w : World} {R : Bool × Int} {b : Bool} {q : Int} (h : Calls Tryz.prog f args w fun e w' => e = .returned (.tuple #[.bool R.1, .int .i64 R.2]) ∧ Below w.heap.size w w') (e : R = (b, q)) : Calls Tryz.prog f args w fun e w' => e = .returned (.tuple #[.bool b, .int .i64 q]) ∧ Below w.heap.size w w' := by
  subst e
  exact h
theorem m9_t {w : World} {A A' : Option Addr} {c c' : Nat} {xs : List Mp} (h : SeeMaps w A xs) (h' : SeeMaps w A' xs) (hl : xs.length ≤ 300) : Calls Tryz.prog 9 #[.slice A xs.length c, .slice A' xs.length c'] w fun e w' => e = .returned (.bool true) ∧ Below w.heap.size w w' :=
  valB (maps9_c A A' c c' xs xs w (by omega) h h') (by simp)
theorem rk_of {w : World} {f : Mp} {n rk : Int} (hf : MpN f n) (e : rankN n f = rk) : Calls Tryz.prog 38 #[.agg #[.int .i64 f.p, .int .i64 f.a, .int .i64 f.b, .int .i64 f.c, .int .i64 f.d, .int .i64 f.e]] w fun e w' => e = .returned (.tuple #[.int .i64 rk, .int .i64 0]) ∧ Below w.heap.size w w' := by
  have := RankOf_c f n w hf
  rw [e] at this
  exact this
theorem hm_t {w : World} {A : Option Addr} {c : Nat} {xs : List Mp} {f : Mp} (h : SeeMaps w A xs) (hl : xs.length ≤ 300) (hm : f ∈ xs) : Calls Tryz.prog 21 #[.slice A xs.length c, .agg #[.int .i64 f.p, .int .i64 f.a, .int .i64 f.b, .int .i64 f.c, .int .i64 f.d, .int .i64 f.e]] w fun e w' => e = .returned (.bool true) ∧ Below w.heap.size w w' :=
  valB (hasMap9_c A c xs f w (by omega) h) (decide_eq_true hm)
set_option maxHeartbeats 64000000 in
set_option maxRecDepth 100000 in
theorem FnIdeals_c {c : Nat} {A : Option Addr} {code : List Int} (w : World) (h : SeeBytes w A code) (hl0 : code.length ≤ 9223372036854775807) :
    Calls Tryz.prog 4 #[.slice A code.length c] w fun e w' => e = .returned (.bool true) ∧ Below w.heap.size w w' := by
  have hbg := big_c A code.length c w hl0
  by_cases hb : 4096 < code.length
  · rw [decide_eq_true hb] at hbg
    have HBG := Lib.hid hbg
    clear hbg hb
    go_enter Tryz.func4, Tryz.ntmps4
    go_wp2_with fail
    refine HBG.out.mono ?_
    rintro e w1 ⟨rfl, hb1⟩
    go_wp2
    go_returns
    exact ⟨rfl, hb1⟩
  · have hl : code.length ≤ 4611686018427387904 := by omega
    rw [decide_eq_false hb] at hbg
    have HBG := Lib.hid hbg
    have HSRC := Lib.hid (show ∀ W, Below w.heap.size w W → SeeBytes W A code from fun W hW => h.below hW)
    have HLEN := Lib.hid hl
    clear hbg hb h hl hl0
    go_enter Tryz.func4, Tryz.ntmps4
    go_wp2_with fail
    refine HBG.out.mono ?_
    rintro e w1 ⟨rfl, hb0⟩
    clear HBG
    have HDR := Lib.hid (DrawIdealOf_c (c := c) w1 (HSRC.out _ hb0) HLEN.out)
    unfold MdPost at HDR
    go_wp2_with fail
    refine HDR.out.mono ?_
    rintro e w2 ⟨A1, c1, ms, f, rfl, sm, nm, _, h7, hb2⟩
    clear HDR
    obtain ⟨W3, hW3⟩ : ∃ W3, W3 = w2.alloc (.cells #[.int .i64 f.p, .int .i64 f.a, .int .i64 f.b, .int .i64 f.c, .int .i64 f.d, .int .i64 f.e] 27) := ⟨_, rfl⟩
    have k3 : Below w2.heap.size w2 W3 := by rw [hW3]; exact kbelow _ _
    have bf : MpBox W3 w2.heap.size f := by rw [hW3]; exact MpBox.new f 27 rfl
    have hb3 := btrans hb2 k3
    replace sm := sm.below k3
    replace hb0 := btrans hb0 hb3
    obtain ⟨idl, rt, lf, ct, q, e1, e2, e3, e4, il, rl, fl, tl, ex, ez⟩ := idl_vals ms f
    obtain ⟨lst, q4, e5, ll⟩ := lst_vals ms
    have HE1 := Lib.hid e1
    have HE2 := Lib.hid e2
    have HE3 := Lib.hid e3
    have HE4 := Lib.hid e4
    have HE5 := Lib.hid e5
    have HEX := Lib.hid ex
    have HEZ := Lib.hid ez
    clear e1 e2 e3 e4 e5 ex ez
    have dq : (q != q) = false := by simp
    have dq4 : (q4 != q4) = false := by simp
    obtain ⟨bf0, bf1, bf2, bf3, bf4, bf5⟩ := bf.at.cells0
    have H21 := Lib.hid (lm_of (implIdealOf_l (f := f) (c := c1) sm (by omega) nm) HE1.out)
    unfold LmPost at H21
    go_upto_region 4 with fail
    rw [← hW3]
    clear hW3
    go_wp2_with fail
    refine H21.out.mono ?_
    rintro e w21 ⟨I, Ic, rfl, si, hb21⟩
    clear H21
    replace sm := sm.below hb21
    replace bf := bf.below hb21
    clear bf0 bf1 bf2 bf3 bf4 bf5
    obtain ⟨bf0, bf1, bf2, bf3, bf4, bf5⟩ := bf.at.cells0
    replace hb0 := btrans hb0 hb21
    have H22 := Lib.hid (lm_of (specIdealOf_l (f := f) (c := c1) sm (by omega) nm) HE1.out)
    unfold LmPost at H22
    go_wp2_with fail
    refine H22.out.mono ?_
    rintro e w22 ⟨Y, Yc, rfl, sy, hb22⟩
    clear H22
    replace sm := sm.below hb22
    replace si := si.below hb22
    replace bf := bf.below hb22
    clear bf0 bf1 bf2 bf3 bf4 bf5
    obtain ⟨bf0, bf1, bf2, bf3, bf4, bf5⟩ := bf.at.cells0
    replace hb0 := btrans hb0 hb22
    have H23 := Lib.hid (m9_t (c := Ic) (c' := Yc) si sy il)
    go_wp2_with fail
    refine H23.out.mono ?_
    rintro e w23 ⟨rfl, hb23⟩
    clear H23
    replace sm := sm.below hb23
    replace si := si.below hb23
    replace sy := sy.below hb23
    replace bf := bf.below hb23
    clear bf0 bf1 bf2 bf3 bf4 bf5
    obtain ⟨bf0, bf1, bf2, bf3, bf4, bf5⟩ := bf.at.cells0
    replace hb0 := btrans hb0 hb23
    clear sy
    have H24 := Lib.hid (lm_of (implRightIdeal_l (f := f) (c := c1) sm (by omega) nm) HE2.out)
    unfold LmPost at H24
    go_wp2_with fail
    refine H24.out.mono ?_
    rintro e w24 ⟨R, Rc, rfl, sr, hb24⟩
    clear H24
    replace sm := sm.below hb24
    replace si := si.below hb24
    replace bf := bf.below hb24
    clear bf0 bf1 bf2 bf3 bf4 bf5
    obtain ⟨bf0, bf1, bf2, bf3, bf4, bf5⟩ := bf.at.cells0
    replace hb0 := btrans hb0 hb24
    have H25 := Lib.hid (lm_of (specRightIdeal_l (f := f) (c := c1) sm (by omega) nm) HE2.out)
    unfold LmPost at H25
    go_wp2_with fail
    refine H25.out.mono ?_
    rintro e w25 ⟨Y, Yc, rfl, sy, hb25⟩
    clear H25
    replace sm := sm.below hb25
    replace si := si.below hb25
    replace sr := sr.below hb25
    replace bf := bf.below hb25
    clear bf0 bf1 bf2 bf3 bf4 bf5
    obtain ⟨bf0, bf1, bf2, bf3, bf4, bf5⟩ := bf.at.cells0
    replace hb0 := btrans hb0 hb25
    have H26 := Lib.hid (m9_t (c := Rc) (c' := Yc) sr sy rl)
    go_wp2_with fail
    refine H26.out.mono ?_
    rintro e w26 ⟨rfl, hb26⟩
    clear H26
    replace sm := sm.below hb26
    replace si := si.below hb26
    replace sr := sr.below hb26
    replace sy := sy.below hb26
    replace bf := bf.below hb26
    clear bf0 bf1 bf2 bf3 bf4 bf5
    obtain ⟨bf0, bf1, bf2, bf3, bf4, bf5⟩ := bf.at.cells0
    replace hb0 := btrans hb0 hb26
    clear sy
    have H27 := Lib.hid (lm_of (implLeftIdeal_l (f := f) (c := c1) sm (by omega) nm) HE3.out)
    unfold LmPost at H27
    go_wp2_with fail
    refine H27.out.mono ?_
    rintro e w27 ⟨F, Fc, rfl, sf, hb27⟩
    clear H27
    replace sm := sm.below hb27
    replace si := si.below hb27
    replace sr := sr.below hb27
    replace bf := bf.below hb27
    clear bf0 bf1 bf2 bf3 bf4 bf5
    obtain ⟨bf0, bf1, bf2, bf3, bf4, bf5⟩ := bf.at.cells0
    replace hb0 := btrans hb0 hb27
    have H28 := Lib.hid (lm_of (specLeftIdeal_l (f := f) (c := c1) sm (by omega) nm) HE3.out)
    unfold LmPost at H28
    go_wp2_with fail
    refine H28.out.mono ?_
    rintro e w28 ⟨Y, Yc, rfl, sy, hb28⟩
    clear H28
    replace sm := sm.below hb28
    replace si := si.below hb28
    replace sr := sr.below hb28
    replace sf := sf.below hb28
    replace bf := bf.below hb28
    clear bf0 bf1 bf2 bf3 bf4 bf5
    obtain ⟨bf0, bf1, bf2, bf3, bf4, bf5⟩ := bf.at.cells0
    replace hb0 := btrans hb0 hb28
    have H29 := Lib.hid (m9_t (c := Fc) (c' := Yc) sf sy fl)
    go_wp2_with fail
    refine H29.out.mono ?_
    rintro e w29 ⟨rfl, hb29⟩
    clear H29
    replace sm := sm.below hb29
    replace si := si.below hb29
    replace sr := sr.below hb29
    replace sf := sf.below hb29
    replace sy := sy.below hb29
    replace bf := bf.below hb29
    clear bf0 bf1 bf2 bf3 bf4 bf5
    obtain ⟨bf0, bf1, bf2, bf3, bf4, bf5⟩ := bf.at.cells0
    replace hb0 := btrans hb0 hb29
    clear sy
    have H30 := Lib.hid (lm_of (implLeastIdeal_l (c := c1) sm (by omega) nm) HE5.out)
    unfold LmPost at H30
    go_wp2_with fail
    refine H30.out.mono ?_
    rintro e w30 ⟨L, Lc, rfl, sl, hb30⟩
    clear H30
    replace sm := sm.below hb30
    replace si := si.below hb30
    replace sr := sr.below hb30
    replace sf := sf.below hb30
    replace bf := bf.below hb30
    clear bf0 bf1 bf2 bf3 bf4 bf5
    obtain ⟨bf0, bf1, bf2, bf3, bf4, bf5⟩ := bf.at.cells0
    replace hb0 := btrans hb0 hb30
    have H31 := Lib.hid (lm_of (specLeastIdeal_l (c := c1) sm (by omega) nm) HE5.out)
    unfold LmPost at H31
    go_wp2_with fail
    refine H31.out.mono ?_
    rintro e w31 ⟨Y, Yc, rfl, sy, hb31⟩
    clear H31
    replace sm := sm.below hb31
    replace si := si.below hb31
    replace sr := sr.below hb31
    replace sf := sf.below hb31
    replace sl := sl.below hb31
    replace bf := bf.below hb31
    clear bf0 bf1 bf2 bf3 bf4 bf5
    obtain ⟨bf0, bf1, bf2, bf3, bf4, bf5⟩ := bf.at.cells0
    replace hb0 := btrans hb0 hb31
    have H32 := Lib.hid (m9_t (c := Lc) (c' := Yc) sl sy ll)
    go_wp2_with fail
    refine H32.out.mono ?_
    rintro e w32 ⟨rfl, hb32⟩
    clear H32
    replace sm := sm.below hb32
    replace si := si.below hb32
    replace sr := sr.below hb32
    replace sf := sf.below hb32
    replace sl := sl.below hb32
    replace sy := sy.below hb32
    replace bf := bf.below hb32
    clear bf0 bf1 bf2 bf3 bf4 bf5
    obtain ⟨bf0, bf1, bf2, bf3, bf4, bf5⟩ := bf.at.cells0
    replace hb0 := btrans hb0 hb32
    clear sy
    have H33 := Lib.hid (lm_of (implCentraliserIn_l (f := f) (c := c1) sm (by omega) nm) HE4.out)
    unfold LmPost at H33
    go_wp2_with fail
    refine H33.out.mono ?_
    rintro e w33 ⟨C, Cc, rfl, sc, hb33⟩
    clear H33
    replace sm := sm.below hb33
    replace si := si.below hb33
    replace sr := sr.below hb33
    replace sf := sf.below hb33
    replace sl := sl.below hb33
    replace bf := bf.below hb33
    clear bf0 bf1 bf2 bf3 bf4 bf5
    obtain ⟨bf0, bf1, bf2, bf3, bf4, bf5⟩ := bf.at.cells0
    replace hb0 := btrans hb0 hb33
    have H34 := Lib.hid (lm_of (specCentraliserIn_l (f := f) (c := c1) sm (by omega) nm) HE4.out)
    unfold LmPost at H34
    go_wp2_with fail
    refine H34.out.mono ?_
    rintro e w34 ⟨Y, Yc, rfl, sy, hb34⟩
    clear H34
    replace sm := sm.below hb34
    replace si := si.below hb34
    replace sr := sr.below hb34
    replace sf := sf.below hb34
    replace sl := sl.below hb34
    replace sc := sc.below hb34
    replace bf := bf.below hb34
    clear bf0 bf1 bf2 bf3 bf4 bf5
    obtain ⟨bf0, bf1, bf2, bf3, bf4, bf5⟩ := bf.at.cells0
    replace hb0 := btrans hb0 hb34
    have H35 := Lib.hid (m9_t (c := Cc) (c' := Yc) sc sy tl)
    go_wp2_with fail
    refine H35.out.mono ?_
    rintro e w35 ⟨rfl, hb35⟩
    clear H35
    replace sm := sm.below hb35
    replace si := si.below hb35
    replace sr := sr.below hb35
    replace sf := sf.below hb35
    replace sl := sl.below hb35
    replace sc := sc.below hb35
    replace sy := sy.below hb35
    replace bf := bf.below hb35
    clear bf0 bf1 bf2 bf3 bf4 bf5
    obtain ⟨bf0, bf1, bf2, bf3, bf4, bf5⟩ := bf.at.cells0
    replace hb0 := btrans hb0 hb35
    clear sy
    have HDS := Lib.hid (DrawIsBelow_c (c := c) w35 (HSRC.out _ hb0) HLEN.out)
    unfold MbPost at HDS
    go_wp2_with fail
    refine HDS.out.mono ?_
    rintro e w36 ⟨A2, c2, ns, g, h', rfl, sn, nn, h72, hb36⟩
    clear HDS
    obtain ⟨W9, hW9⟩ : ∃ W9, W9 = (w36.alloc (.cells #[.int .i64 g.p, .int .i64 g.a, .int .i64 g.b, .int .i64 g.c, .int .i64 g.d, .int .i64 g.e] 27)).alloc (.cells #[.int .i64 h'.p, .int .i64 h'.a, .int .i64 h'.b, .int .i64 h'.c, .int .i64 h'.d, .int .i64 h'.e] 27) := ⟨_, rfl⟩
    have k9 : Below w36.heap.size w36 W9 := by rw [hW9]; go_grown
    have bg : MpBox W9 w36.heap.size g := by rw [hW9]; exact (MpBox.new g 27 rfl).keep _
    have bh : MpBox W9 (w36.heap.size + 1) h' := by rw [hW9]; exact MpBox.new h' 27 (by simp)
    have hb9 := btrans hb36 k9
    replace sn := sn.below k9
    replace sm := sm.below hb9
    replace si := si.below hb9
    replace sr := sr.below hb9
    replace sf := sf.below hb9
    replace sl := sl.below hb9
    replace sc := sc.below hb9
    replace bf := bf.below hb9
    clear bf0 bf1 bf2 bf3 bf4 bf5
    obtain ⟨bf0, bf1, bf2, bf3, bf4, bf5⟩ := bf.at.cells0
    replace hb0 := btrans hb0 hb9
    obtain ⟨bg0, bg1, bg2, bg3, bg4, bg5⟩ := bg.at.cells0
    obtain ⟨bh0, bh1, bh2, bh3, bh4, bh5⟩ := bh.at.cells0
    obtain ⟨b, p, e1, ez⟩ := bel_vals ns g h'
    have HB1 := Lib.hid e1
    have HBZ := Lib.hid ez
    clear e1 ez
    have dp : (p != p) = false := by simp
    have db : (b != b) = false := by cases b <;> rfl
    have H37 := Lib.hid (bi_of (implIsBelow_l (c := c2) (f := g) (g := h') sn (by omega) nn) HB1.out)
    go_upto_region 25 with fail
    rw [← hW9]
    clear hW9
    go_wp2_with fail
    refine H37.out.mono ?_
    rintro e w37 ⟨rfl, hb37⟩
    clear H37
    replace sm := sm.below hb37
    replace si := si.below hb37
    replace sr := sr.below hb37
    replace sf := sf.below hb37
    replace sl := sl.below hb37
    replace sc := sc.below hb37
    replace sn := sn.below hb37
    replace bf := bf.below hb37
    clear bf0 bf1 bf2 bf3 bf4 bf5
    obtain ⟨bf0, bf1, bf2, bf3, bf4, bf5⟩ := bf.at.cells0
    replace bg := bg.below hb37
    clear bg0 bg1 bg2 bg3 bg4 bg5
    obtain ⟨bg0, bg1, bg2, bg3, bg4, bg5⟩ := bg.at.cells0
    replace bh := bh.below hb37
    clear bh0 bh1 bh2 bh3 bh4 bh5
    obtain ⟨bh0, bh1, bh2, bh3, bh4, bh5⟩ := bh.at.cells0
    replace hb0 := btrans hb0 hb37
    have H38 := Lib.hid (bi_of (specIsBelow_l (c := c2) (f := g) (g := h') sn (by omega) nn) HB1.out)
    go_wp2_with fail
    refine H38.out.mono ?_
    rintro e w38 ⟨rfl, hb38⟩
    clear H38
    replace sm := sm.below hb38
    replace si := si.below hb38
    replace sr := sr.below hb38
    replace sf := sf.below hb38
    replace sl := sl.below hb38
    replace sc := sc.below hb38
    replace sn := sn.below hb38
    replace bf := bf.below hb38
    clear bf0 bf1 bf2 bf3 bf4 bf5
    obtain ⟨bf0, bf1, bf2, bf3, bf4, bf5⟩ := bf.at.cells0
    replace bg := bg.below hb38
    clear bg0 bg1 bg2 bg3 bg4 bg5
    obtain ⟨bg0, bg1, bg2, bg3, bg4, bg5⟩ := bg.at.cells0
    replace bh := bh.below hb38
    clear bh0 bh1 bh2 bh3 bh4 bh5
    obtain ⟨bh0, bh1, bh2, bh3, bh4, bh5⟩ := bh.at.cells0
    replace hb0 := btrans hb0 hb38
    go_upto_if 184 with fail
    go_cut [] from 25 (fun wx => Below w38.heap.size w38 wx)
    case first => as_aux_lemma =>
      clear bf0 bf1 bf2 bf3 bf4 bf5
      clear bf
      clear sm
      clear si
      clear sr
      clear sf
      clear sl
      clear sc
      have hbz := Below.refl w38.heap.size w38
      replace hb0 := hbz
      clear hbz HE1 HE2 HE3 HE4 HE5 HEX HEZ dq dq4
      by_cases hp : p = 0
      · subst hp
        obtain ⟨own, e1, ol, eg, eh⟩ := HBZ.out rfl
        have HO := Lib.hid e1
        have HG := Lib.hid eg
        clear e1 eg
        have H39 := Lib.hid (lm_of (implElementsBelow_l (f := h') (c := c2) sn (by omega) nn) HO.out)
        unfold LmPost at H39
        go_wp2_with fail
        refine H39.out.mono ?_
        rintro e w39 ⟨O, Oc, rfl, so, hb39⟩
        clear H39
        replace sn := sn.below hb39
        replace bg := bg.below hb39
        clear bg0 bg1 bg2 bg3 bg4 bg5
        obtain ⟨bg0, bg1, bg2, bg3, bg4, bg5⟩ := bg.at.cells0
        replace bh := bh.below hb39
        clear bh0 bh1 bh2 bh3 bh4 bh5
        obtain ⟨bh0, bh1, bh2, bh3, bh4, bh5⟩ := bh.at.cells0
        replace hb0 := btrans hb0 hb39
        have H40 := Lib.hid (lm_of (specElementsBelow_l (f := h') (c := c2) sn (by omega) nn) HO.out)
        unfold LmPost at H40
        go_wp2_with fail
        refine H40.out.mono ?_
        rintro e w40 ⟨Y, Yc, rfl, sy, hb40⟩
        clear H40
        replace sn := sn.below hb40
        replace so := so.below hb40
        replace bg := bg.below hb40
        clear bg0 bg1 bg2 bg3 bg4 bg5
        obtain ⟨bg0, bg1, bg2, bg3, bg4, bg5⟩ := bg.at.cells0
        replace bh := bh.below hb40
        clear bh0 bh1 bh2 bh3 bh4 bh5
        obtain ⟨bh0, bh1, bh2, bh3, bh4, bh5⟩ := bh.at.cells0
        replace hb0 := btrans hb0 hb40
        have H41 := Lib.hid (m9_t (c := Oc) (c' := Yc) so sy ol)
        go_wp2_with fail
        refine H41.out.mono ?_
        rintro e w41 ⟨rfl, hb41⟩
        clear H41
        replace sn := sn.below hb41
        replace so := so.below hb41
        replace sy := sy.below hb41
        replace bg := bg.below hb41
        clear bg0 bg1 bg2 bg3 bg4 bg5
        obtain ⟨bg0, bg1, bg2, bg3, bg4, bg5⟩ := bg.at.cells0
        replace bh := bh.below hb41
        clear bh0 bh1 bh2 bh3 bh4 bh5
        obtain ⟨bh0, bh1, bh2, bh3, bh4, bh5⟩ := bh.at.cells0
        replace hb0 := btrans hb0 hb41
        have H42 := Lib.hid (valB (hasMap9_c O Oc own g _ (by omega) so) HG.out)
        go_wp2_with fail
        refine H42.out.mono ?_
        rintro e w42 ⟨rfl, hb42⟩
        clear H42
        replace sn := sn.below hb42
        replace so := so.below hb42
        replace sy := sy.below hb42
        replace bg := bg.below hb42
        clear bg0 bg1 bg2 bg3 bg4 bg5
        obtain ⟨bg0, bg1, bg2, bg3, bg4, bg5⟩ := bg.at.cells0
        replace bh := bh.below hb42
        clear bh0 bh1 bh2 bh3 bh4 bh5
        obtain ⟨bh0, bh1, bh2, bh3, bh4, bh5⟩ := bh.at.cells0
        replace hb0 := btrans hb0 hb42
        have H43 := Lib.hid (hm_t (c := Oc) so ol eh)
        go_wp2_with fail
        refine H43.out.mono ?_
        rintro e w43 ⟨rfl, hb43⟩
        clear H43
        replace sn := sn.below hb43
        replace so := so.below hb43
        replace sy := sy.below hb43
        replace bg := bg.below hb43
        clear bg0 bg1 bg2 bg3 bg4 bg5
        obtain ⟨bg0, bg1, bg2, bg3, bg4, bg5⟩ := bg.at.cells0
        replace bh := bh.below hb43
        clear bh0 bh1 bh2 bh3 bh4 bh5
        obtain ⟨bh0, bh1, bh2, bh3, bh4, bh5⟩ := bh.at.cells0
        replace hb0 := btrans hb0 hb43
        go_wp2
        go_meet
        case rel => exact hb0
      · have dz : (p == 0) = false := by simpa using hp
        clear hp
        go_wp2
        go_meet
        case rel => exact Below.refl _ _
    case rest => as_aux_lemma =>
      clear sn
      clear bg0 bg1 bg2 bg3 bg4 bg5
      clear bg
      clear bh0 bh1 bh2 bh3 bh4 bh5
      clear bh
      have hbc := hcut
      clear hcut HB1 HBZ dp db
      replace sm := sm.below hbc
      replace si := si.below hbc
      replace sr := sr.below hbc
      replace sf := sf.below hbc
      replace sl := sl.below hbc
      replace sc := sc.below hbc
      replace bf := bf.below hbc
      clear bf0 bf1 bf2 bf3 bf4 bf5
      obtain ⟨bf0, bf1, bf2, bf3, bf4, bf5⟩ := bf.at.cells0
      replace hb0 := btrans hb0 hbc
      by_cases hq : q = 0
      · subst hq
        obtain ⟨lst', n, rk, e1, lpos, fr, ff, fc, hr, hf, fN, hls, hrk⟩ := HEZ.out rfl
        have e2 := e1.symm.trans HE5.out
        simp only [Prod.mk.injEq] at e2
        obtain ⟨rfl, rfl⟩ := e2
        have HR := Lib.hid hr
        have HF := Lib.hid hf
        have HL := Lib.hid hls
        have FR := Lib.hid fr
        have FF := Lib.hid ff
        have FC := Lib.hid fc
        have HFN := Lib.hid fN
        clear e1 hr hf hls fr ff fc fN HEZ HEX HE1 HE2 HE3 HE4 HE5
        have H44 := Lib.hid (hm_t (c := Rc) sr rl FR.out)
        go_wp2_with fail
        refine H44.out.mono ?_
        rintro e w44 ⟨rfl, hb44⟩
        clear H44
        replace sm := sm.below hb44
        replace si := si.below hb44
        replace sr := sr.below hb44
        replace sf := sf.below hb44
        replace sl := sl.below hb44
        replace sc := sc.below hb44
        replace bf := bf.below hb44
        clear bf0 bf1 bf2 bf3 bf4 bf5
        obtain ⟨bf0, bf1, bf2, bf3, bf4, bf5⟩ := bf.at.cells0
        replace hb0 := btrans hb0 hb44
        have H45 := Lib.hid (hm_t (c := Fc) sf fl FF.out)
        go_wp2_with fail
        refine H45.out.mono ?_
        rintro e w45 ⟨rfl, hb45⟩
        clear H45
        replace sm := sm.below hb45
        replace si := si.below hb45
        replace sr := sr.below hb45
        replace sf := sf.below hb45
        replace sl := sl.below hb45
        replace sc := sc.below hb45
        replace bf := bf.below hb45
        clear bf0 bf1 bf2 bf3 bf4 bf5
        obtain ⟨bf0, bf1, bf2, bf3, bf4, bf5⟩ := bf.at.cells0
        replace hb0 := btrans hb0 hb45
        have H46 := Lib.hid (hm_t (c := Cc) sc tl FC.out)
        go_wp2_with fail
        refine H46.out.mono ?_
        rintro e w46 ⟨rfl, hb46⟩
        clear H46
        replace sm := sm.below hb46
        replace si := si.below hb46
        replace sr := sr.below hb46
        replace sf := sf.below hb46
        replace sl := sl.below hb46
        replace sc := sc.below hb46
        replace bf := bf.below hb46
        clear bf0 bf1 bf2 bf3 bf4 bf5
        obtain ⟨bf0, bf1, bf2, bf3, bf4, bf5⟩ := bf.at.cells0
        replace hb0 := btrans hb0 hb46
        clear sc
        clear sm
        have SI := Lib.hid si
        have SR := Lib.hid sr
        have SF := Lib.hid sf
        have SL := Lib.hid sl
        have BF := Lib.hid bf
        have HB0 := Lib.hid hb0
        clear si sr sf sl bf hb0 bf0 bf1 bf2 bf3 bf4 bf5
        go_wp2
        as_aux_lemma =>
        go_loopw [36] (fun iv wr => ∃ i : Nat, i ≤ rt.length ∧ iv = .int .i64 i ∧ Below w46.heap.size w46 wr) (fun iv _ => rt.length - (intOf iv).toNat)
        case atStart => exact ⟨0, Nat.zero_le _, rfl, Below.refl _ _⟩
        case round =>
          obtain ⟨i, hi, rfl, hb⟩ := hrel
          have i0 : (0 : Int) ≤ i := by omega
          by_cases hil : i < rt.length
          · have i1 : (i : Int) < rt.length := by omega
            obtain ⟨b', o', x, rfl, hx, gx⟩ := (SR.out.below hb).at_ hil
            obtain ⟨g0, g1, g2, g3, g4, g5⟩ := gx
            have HM := Lib.hid (hm_t (c := Ic) (SI.out.below hb) il (HR.out x (List.mem_of_getElem? hx)))
            clear hx
            go_wp2_with fail
            refine HM.out.mono ?_
            rintro e w8 ⟨rfl, hb8⟩
            go_wp2
            go_roundw
            case rel => exact ⟨i + 1, by omega, by go_num, btrans hb hb8⟩
            case measure => simp [intOf]; omega
          · obtain rfl : i = rt.length := by omega
            have nlt : ¬ (rt.length : Int) < rt.length := by omega
            go_wp2
            as_aux_lemma =>
            go_loopw [37] (fun iv wr => ∃ i : Nat, i ≤ lf.length ∧ iv = .int .i64 i ∧ Below w46.heap.size w46 wr) (fun iv _ => lf.length - (intOf iv).toNat)
            case atStart => exact ⟨0, Nat.zero_le _, rfl, hb⟩
            case round =>
              clear hb
              obtain ⟨i, hi, rfl, hb⟩ := hrel
              have i0 : (0 : Int) ≤ i := by omega
              by_cases hil : i < lf.length
              · have i1 : (i : Int) < lf.length := by omega
                obtain ⟨b', o', x, rfl, hx, gx⟩ := (SF.out.below hb).at_ hil
                obtain ⟨g0, g1, g2, g3, g4, g5⟩ := gx
                have HM := Lib.hid (hm_t (c := Ic) (SI.out.below hb) il (HF.out x (List.mem_of_getElem? hx)))
                clear hx
                go_wp2_with fail
                refine HM.out.mono ?_
                rintro e w8 ⟨rfl, hb8⟩
                go_wp2
                go_roundw
                case rel => exact ⟨i + 1, by omega, by go_num, btrans hb hb8⟩
                case measure => simp [intOf]; omega
              · obtain rfl : i = lf.length := by omega
                have nlt : ¬ (lf.length : Int) < lf.length := by omega
                as_aux_lemma =>
                obtain ⟨bl, ol', x0, rfl, hx0, gx0⟩ := (SL.out.below hb).at_ lpos
                simp only [Nat.zero_mul, Nat.add_zero] at gx0
                obtain ⟨g0, g1, g2, g3, g4, g5⟩ := gx0
                have hL0 := HL.out x0 (List.mem_of_getElem? hx0)
                have HRK := Lib.hid (rk_of (w := wr) hL0.1 hL0.2.1)
                have l0 : (0 : Int) < lst'.length := by omega
                clear hx0 hL0
                go_wp2_with fail
                refine HRK.out.mono ?_
                rintro e w8 ⟨rfl, hb8⟩
                clear HRK g0 g1 g2 g3 g4 g5
                have hbs := btrans hb hb8
                have drk : (rk != rk) = false := by simp
                go_wp2
                as_aux_lemma =>
                go_loopw [40] (fun iv wr => ∃ i : Nat, i ≤ lst'.length ∧ iv = .int .i64 i ∧ Below w46.heap.size w46 wr) (fun iv _ => lst'.length - (intOf iv).toNat)
                case atStart => exact ⟨0, Nat.zero_le _, rfl, hbs⟩
                case round =>
                  clear hb hbs hb8
                  obtain ⟨i, hi, rfl, hb⟩ := hrel
                  have i0 : (0 : Int) ≤ i := by omega
                  by_cases hil : i < lst'.length
                  · have i1 : (i : Int) < lst'.length := by omega
                    obtain ⟨b', o', x, e', hx, gx⟩ := (SL.out.below hb).at_ hil
                    obtain ⟨rfl, rfl⟩ : bl = b' ∧ ol' = o' := by simpa using e'
                    obtain ⟨g0, g1, g2, g3, g4, g5⟩ := gx
                    have hL0 := HL.out x (List.mem_of_getElem? hx)
                    have HRK := Lib.hid (rk_of (w := wr) hL0.1 hL0.2.1)
                    have HMM := Lib.hid hL0.2.2
                    clear hx hL0 e'
                    go_wp2_with fail
                    refine HRK.out.mono ?_
                    rintro e w10 ⟨rfl, hb10⟩
                    have hb11 := btrans hb hb10
                    replace g0 := bcell hb10 g0
                    replace g1 := bcell hb10 g1
                    replace g2 := bcell hb10 g2
                    replace g3 := bcell hb10 g3
                    replace g4 := bcell hb10 g4
                    replace g5 := bcell hb10 g5
                    have HM := Lib.hid (hm_t (c := Ic) (SI.out.below hb11) il HMM.out)
                    clear HRK
                    go_wp2_with fail
                    refine HM.out.mono ?_
                    rintro e w12 ⟨rfl, hb12⟩
                    go_wp2
                    go_roundw
                    case rel => exact ⟨i + 1, by omega, by go_num, btrans hb11 hb12⟩
                    case measure => simp [intOf]; omega
                  · obtain rfl : i = lst'.length := by omega
                    have nlt : ¬ (lst'.length : Int) < lst'.length := by omega
                    obtain ⟨f0, f1, f2, f3, f4, f5⟩ := (BF.out.below hb).at.cells0
                    have HRF := Lib.hid (rk_of (w := wr) HFN.out rfl)
                    obtain ⟨rf, hrf⟩ : ∃ rf, rf = rankN n f := ⟨_, rfl⟩
                    rw [← hrf] at HRF hrk
                    clear hrf
                    go_wp2_with fail
                    refine HRF.out.mono ?_
                    rintro e w14 ⟨rfl, hb14⟩
                    go_wp2
                    go_returns
                    exact ⟨rfl, btrans HB0.out (btrans hb hb14)⟩
      · have dz : (q != 0) = true := by simpa using hq
        obtain rfl := HEX.out hq
        have dqq : (q == q) = true := by simp
        clear hq
        go_wp2
        go_returns
        exact ⟨rfl, hb0⟩
end Go.Proofs.YtilfamenadaboaaGreat
