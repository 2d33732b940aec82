/- 'FnCongruences' returns true. No condition. (Printed by tools/gen_fncong.py.) -/
import Derived.Test.YtjepmbjneccagaaGreatFnCongP
import Derived.Test.YtjepmbjneccagaaGreatDraw6C
import Derived.Test.YtjepmbjneccagaaGreatLike
import Derived.Deep.Cut
import Derived.Deep.CutRange
namespace Go.Proofs.YtjepmbjneccagaaGreat
set_option linter.unusedSimpArgs false
set_option linter.unusedVariables false
set_option linter.unusedSectionVars false
open Go.RowKit
/-- whole numbers and a code that a call hands back, as they are seen -/
def LiPost (xs : List Int) (q : Int) (w : World) (e : Ending) (w' : World) : Prop :=
  ∃ (A : Option Addr) (c : Nat), e = .returned (.tuple #[.slice A xs.length c, .int .i64 q]) ∧ SeeInts w' A xs ∧ NilOk A c ∧ Below w.heap.size w w'
theorem li_of {f : FuncId} {args : Array Value} {w : World} {R : List Int × Int} {xs : List Int} {q : Int} (h : Calls Tryz.prog f args w fun e w' => ∃ v, e = .returned (.tuple #[v, .int .i64 R.2]) ∧ OwnInts w' w.heap.size v R.1 ∧ Below w.heap.size w w') (e : R = (xs, q)) : Calls Tryz.prog f args w (LiPost xs q w) := by
  subst e
  refine h.mono ?_
  rintro e w' ⟨v, rfl, ol, hb⟩
  obtain ⟨A', c', rfl, _⟩ := ol.see
  exact ⟨A', c', rfl, ol.see', ol.nilok, hb⟩
theorem bi_of {f : FuncId} {args : Array Value} {w : World} {R : Bool × Int} {b : Bool} {q : Int} (h : Calls Tryz.prog f args w fun e w' => e = .returned (.tuple #[.bool R.1, .int .i64 R.2]) ∧ Below w.heap.size w w') (e : R = (b, q)) : Calls Tryz.prog f args w fun e w' => e = .returned (.tuple #[.bool b, .int .i64 q]) ∧ Below w.heap.size w w' := by
  subst e
  exact h
theorem li_t {w : World} {A A' : Option Addr} {c c' : Nat} {xs : List Int} (h : SeeInts w A xs) (h' : SeeInts w A' xs) (hl : xs.length ≤ 1001) : Calls Tryz.prog 24 #[.slice A xs.length c, .slice A' xs.length c'] w fun e w' => e = .returned (.bool true) ∧ Below w.heap.size w w' :=
  valB (likeInts_c A A' c c' xs xs w (by omega) h h') (by simp)
set_option maxHeartbeats 64000000 in
set_option maxRecDepth 100000 in
theorem FnCongruences_c {c : Nat} {A : Option Addr} {code : List Int} (w : World) (h : SeeBytes w A code) (hl0 : code.length ≤ 9223372036854775807) :
    Calls Tryz.prog 6 #[.slice A code.length c] w fun e w' => e = .returned (.bool true) ∧ Below w.heap.size w w' := by
  have hbg := big_c A code.length c w hl0
  by_cases hb : 4096 < code.length
  · rw [decide_eq_true hb] at hbg
    have HBG := Lib.hid hbg
    clear hbg hb
    go_enter Tryz.func6, Tryz.ntmps6
    go_wp2_with fail
    refine HBG.out.mono ?_
    rintro e w1 ⟨rfl, hb1⟩
    go_wp2
    go_returns
    exact ⟨rfl, hb1⟩
  · have hl : code.length ≤ 4611686018427387904 := by omega
    rw [decide_eq_false hb] at hbg
    have HBG := Lib.hid hbg
    have HSRC := Lib.hid (show ∀ W, Below w.heap.size w W → SeeBytes W A code from fun W hW => h.below hW)
    have HLEN := Lib.hid hl
    clear hbg hb h hl hl0
    go_enter Tryz.func6, Tryz.ntmps6
    go_wp2_with fail
    refine HBG.out.mono ?_
    rintro e w1 ⟨rfl, hb0⟩
    clear HBG
    have HDR := Lib.hid (DrawCongruenceOf_c (c := c) w1 (HSRC.out _ hb0) HLEN.out)
    unfold MpsPost at HDR
    go_wp2_with fail
    refine HDR.out.mono ?_
    rintro e w2 ⟨A1, c1, ms, A2, c2, prs, rfl, sm, nm, _, own, hp, hp2, h7, hb2⟩
    clear HDR
    have st := own.tab
    replace hb0 := btrans hb0 hb2
    have HP2 := Lib.hid (show ∀ r ∈ prs, r.length ≤ 2097152 from fun r hr => by have := hp2 r hr; omega)
    clear own hp2
    obtain ⟨xs, ys, q, e1, e2, xl, yl, ex, ez⟩ := made_vals ms prs
    have HE1 := Lib.hid e1
    have HE2 := Lib.hid e2
    have HEX := Lib.hid ex
    have HEZ := Lib.hid ez
    clear e1 e2 ex ez
    have dq : (q != q) = false := by simp
    have H21 := Lib.hid (li_of (implCongruenceOf_l (c := c1) (c' := c2) sm (by omega) nm st (by omega) HP2.out) HE1.out)
    unfold LiPost at H21
    go_wp2_with fail
    refine H21.out.mono ?_
    rintro e w21 ⟨X, Xc, rfl, sx, sxn, hb21⟩
    clear H21
    replace sm := sm.below hb21
    replace st := st.below hb21
    replace hb0 := btrans hb0 hb21
    have H22 := Lib.hid (li_of (specCongruenceOf_l (c := c1) (c' := c2) sm (by omega) nm st (by omega) HP2.out) HE1.out)
    unfold LiPost at H22
    go_wp2_with fail
    refine H22.out.mono ?_
    rintro e w22 ⟨T, Tc, rfl, t1, t1n, hb22⟩
    clear H22
    replace sm := sm.below hb22
    replace st := st.below hb22
    replace sx := sx.below hb22
    replace hb0 := btrans hb0 hb22
    have H23 := Lib.hid (li_t (c := Xc) (c' := Tc) sx t1 (by omega))
    go_wp2_with fail
    refine H23.out.mono ?_
    rintro e w23 ⟨rfl, hb23⟩
    clear H23
    replace sm := sm.below hb23
    replace st := st.below hb23
    replace sx := sx.below hb23
    replace t1 := t1.below hb23
    replace hb0 := btrans hb0 hb23
    clear t1
    have H24 := Lib.hid (li_of (implRightCongruence_l (c := c1) (c' := c2) sm (by omega) nm st (by omega) HP2.out) HE2.out)
    unfold LiPost at H24
    go_wp2_with fail
    refine H24.out.mono ?_
    rintro e w24 ⟨Y, Yc, rfl, sy, syn, hb24⟩
    clear H24
    replace sm := sm.below hb24
    replace st := st.below hb24
    replace sx := sx.below hb24
    replace hb0 := btrans hb0 hb24
    have H25 := Lib.hid (li_of (specRightCongruence_l (c := c1) (c' := c2) sm (by omega) nm st (by omega) HP2.out) HE2.out)
    unfold LiPost at H25
    go_wp2_with fail
    refine H25.out.mono ?_
    rintro e w25 ⟨U, Uc, rfl, t1, t1n, hb25⟩
    clear H25
    replace sm := sm.below hb25
    replace st := st.below hb25
    replace sx := sx.below hb25
    replace sy := sy.below hb25
    replace hb0 := btrans hb0 hb25
    have H26 := Lib.hid (li_t (c := Yc) (c' := Uc) sy t1 (by omega))
    go_wp2_with fail
    refine H26.out.mono ?_
    rintro e w26 ⟨rfl, hb26⟩
    clear H26
    replace sm := sm.below hb26
    replace st := st.below hb26
    replace sx := sx.below hb26
    replace sy := sy.below hb26
    replace t1 := t1.below hb26
    replace hb0 := btrans hb0 hb26
    clear t1
    have HDS := Lib.hid (DrawIsCongruence_c (c := c) w26 (HSRC.out _ hb0) HLEN.out)
    unfold MclPost at HDS
    go_wp2_with fail
    refine HDS.out.mono ?_
    rintro e w27 ⟨B1, d1, ns, B2, d2, cl, rfl, sn, nn, _, oc, cln, n7, hb27⟩
    clear HDS
    replace sm := sm.below hb27
    replace st := st.below hb27
    replace sx := sx.below hb27
    replace sy := sy.below hb27
    replace hb0 := btrans hb0 hb27
    have sc := oc.see'
    have nc := oc.nilok
    clear oc
    obtain ⟨good, side, p, e1, e2, hgs⟩ := is_vals ns cl
    have HR1 := Lib.hid e1
    have HR2 := Lib.hid e2
    have HGS := Lib.hid hgs
    clear e1 e2 hgs
    have dp : (p != p) = false := by simp
    have dg : (good != good) = false := by cases good <;> rfl
    have ds : (side != side) = false := by cases side <;> rfl
    have H28 := Lib.hid (bi_of (implIsCongruence_l (c := d1) (c' := d2) sn (by omega) nn sc (by omega) nc) HR1.out)
    go_wp2_with fail
    refine H28.out.mono ?_
    rintro e w28 ⟨rfl, hb28⟩
    clear H28
    replace sm := sm.below hb28
    replace st := st.below hb28
    replace sx := sx.below hb28
    replace sy := sy.below hb28
    replace sn := sn.below hb28
    replace sc := sc.below hb28
    replace hb0 := btrans hb0 hb28
    have H29 := Lib.hid (bi_of (specIsCongruence_l (c := d1) (c' := d2) sn (by omega) nn sc (by omega) nc) HR1.out)
    go_wp2_with fail
    refine H29.out.mono ?_
    rintro e w29 ⟨rfl, hb29⟩
    clear H29
    replace sm := sm.below hb29
    replace st := st.below hb29
    replace sx := sx.below hb29
    replace sy := sy.below hb29
    replace sn := sn.below hb29
    replace sc := sc.below hb29
    replace hb0 := btrans hb0 hb29
    have H30 := Lib.hid (bi_of (implIsRightCongruence_l (c := d1) (c' := d2) sn (by omega) nn sc (by omega) nc) HR2.out)
    go_wp2_with fail
    refine H30.out.mono ?_
    rintro e w30 ⟨rfl, hb30⟩
    clear H30
    replace sm := sm.below hb30
    replace st := st.below hb30
    replace sx := sx.below hb30
    replace sy := sy.below hb30
    replace sn := sn.below hb30
    replace sc := sc.below hb30
    replace hb0 := btrans hb0 hb30
    have H31 := Lib.hid (bi_of (specIsRightCongruence_l (c := d1) (c' := d2) sn (by omega) nn sc (by omega) nc) HR2.out)
    go_wp2_with fail
    refine H31.out.mono ?_
    rintro e w31 ⟨rfl, hb31⟩
    clear H31
    replace sm := sm.below hb31
    replace st := st.below hb31
    replace sx := sx.below hb31
    replace sy := sy.below hb31
    replace sn := sn.below hb31
    replace sc := sc.below hb31
    replace hb0 := btrans hb0 hb31
    clear sn
    clear sc
    clear HR1 HR2 dg ds dp dq
    have HDT := Lib.hid (DrawJoinCongruences_c (c := c) w31 (HSRC.out _ hb0) HLEN.out)
    unfold MtwoPost at HDT
    go_wp2_with fail
    refine HDT.out.mono ?_
    rintro e w32 ⟨C1, f1, ks, C2, f2, la, C3, f3, lb, rfl, sk, nk, sa, na, lan, sb, nb, lbn, k7, hb32⟩
    clear HDT
    replace sm := sm.below hb32
    replace st := st.below hb32
    replace sx := sx.below hb32
    replace sy := sy.below hb32
    replace hb0 := btrans hb0 hb32
    obtain ⟨jn, mt, r, e1, e2, jl, ml, ez⟩ := two_vals ks la lb
    have HJ1 := Lib.hid e1
    have HJ2 := Lib.hid e2
    have HJZ := Lib.hid ez
    clear e1 e2 ez
    have dr : (r != r) = false := by simp
    have H33 := Lib.hid (li_of (implJoinCongruences_l (c := f1) (d := f2) (d' := f3) sk (by omega) nk sa (by omega) na sb (by omega) nb) HJ1.out)
    unfold LiPost at H33
    go_wp2_with fail
    refine H33.out.mono ?_
    rintro e w33 ⟨J, Jc, rfl, sj, sjn, hb33⟩
    clear H33
    replace sm := sm.below hb33
    replace st := st.below hb33
    replace sx := sx.below hb33
    replace sy := sy.below hb33
    replace sk := sk.below hb33
    replace sa := sa.below hb33
    replace sb := sb.below hb33
    replace hb0 := btrans hb0 hb33
    have H34 := Lib.hid (li_of (specJoinCongruences_l (c := f1) (d := f2) (d' := f3) sk (by omega) nk sa (by omega) na sb (by omega) nb) HJ1.out)
    unfold LiPost at H34
    go_wp2_with fail
    refine H34.out.mono ?_
    rintro e w34 ⟨K, Kc, rfl, t1, t1n, hb34⟩
    clear H34
    replace sm := sm.below hb34
    replace st := st.below hb34
    replace sx := sx.below hb34
    replace sy := sy.below hb34
    replace sk := sk.below hb34
    replace sa := sa.below hb34
    replace sb := sb.below hb34
    replace sj := sj.below hb34
    replace hb0 := btrans hb0 hb34
    have H35 := Lib.hid (li_t (c := Jc) (c' := Kc) sj t1 (by omega))
    go_wp2_with fail
    refine H35.out.mono ?_
    rintro e w35 ⟨rfl, hb35⟩
    clear H35
    replace sm := sm.below hb35
    replace st := st.below hb35
    replace sx := sx.below hb35
    replace sy := sy.below hb35
    replace sk := sk.below hb35
    replace sa := sa.below hb35
    replace sb := sb.below hb35
    replace sj := sj.below hb35
    replace t1 := t1.below hb35
    replace hb0 := btrans hb0 hb35
    clear t1
    have H36 := Lib.hid (li_of (implMeetCongruences_l (c := f1) (d := f2) (d' := f3) sk (by omega) nk sa (by omega) na sb (by omega) nb) HJ2.out)
    unfold LiPost at H36
    go_wp2_with fail
    refine H36.out.mono ?_
    rintro e w36 ⟨M, Mc, rfl, se, sen, hb36⟩
    clear H36
    replace sm := sm.below hb36
    replace st := st.below hb36
    replace sx := sx.below hb36
    replace sy := sy.below hb36
    replace sk := sk.below hb36
    replace sa := sa.below hb36
    replace sb := sb.below hb36
    replace sj := sj.below hb36
    replace hb0 := btrans hb0 hb36
    have H37 := Lib.hid (li_of (specMeetCongruences_l (c := f1) (d := f2) (d' := f3) sk (by omega) nk sa (by omega) na sb (by omega) nb) HJ2.out)
    unfold LiPost at H37
    go_wp2_with fail
    refine H37.out.mono ?_
    rintro e w37 ⟨P, Pc, rfl, t1, t1n, hb37⟩
    clear H37
    replace sm := sm.below hb37
    replace st := st.below hb37
    replace sx := sx.below hb37
    replace sy := sy.below hb37
    replace sk := sk.below hb37
    replace sa := sa.below hb37
    replace sb := sb.below hb37
    replace sj := sj.below hb37
    replace se := se.below hb37
    replace hb0 := btrans hb0 hb37
    have H38 := Lib.hid (li_t (c := Mc) (c' := Pc) se t1 (by omega))
    go_wp2_with fail
    refine H38.out.mono ?_
    rintro e w38 ⟨rfl, hb38⟩
    clear H38
    replace sm := sm.below hb38
    replace st := st.below hb38
    replace sx := sx.below hb38
    replace sy := sy.below hb38
    replace sk := sk.below hb38
    replace sa := sa.below hb38
    replace sb := sb.below hb38
    replace sj := sj.below hb38
    replace se := se.below hb38
    replace t1 := t1.below hb38
    replace hb0 := btrans hb0 hb38
    clear t1
    go_upto_if 192 with fail
    go_cut [] from 23 (fun wx => Below w38.heap.size w38 wx)
    case first => as_aux_lemma =>
      clear sm
      clear st
      clear sx
      clear sy
      have hbz := Below.refl w38.heap.size w38
      replace hb0 := hbz
      clear hbz HSRC HLEN HE1 HE2 HEX HEZ HP2 HGS HJ1 HJ2
      by_cases hr : r = 0
      · subst hr
        obtain ⟨ej, em, apos, bl, jl', ml', hall⟩ := HJZ.out rfl
        have HA := Lib.hid hall
        have HEJ := Lib.hid ej
        have HEM := Lib.hid em
        have hb1 : la.length ≤ lb.length := by omega
        have hj1 : la.length ≤ jn.length := by omega
        have hm1 : la.length ≤ mt.length := by omega
        clear hall bl jl' ml' HJZ dr ej em
        have H39 := Lib.hid (bi_of (implIsCongruence_l (c := f1) (c' := Jc) sk (by omega) nk sj (by omega) sjn) HEJ.out)
        go_wp2_with fail
        refine H39.out.mono ?_
        rintro e w39 ⟨rfl, hb39⟩
        clear H39
        replace sk := sk.below hb39
        replace sa := sa.below hb39
        replace sb := sb.below hb39
        replace sj := sj.below hb39
        replace se := se.below hb39
        replace hb0 := btrans hb0 hb39
        have H40 := Lib.hid (bi_of (implIsCongruence_l (c := f1) (c' := Mc) sk (by omega) nk se (by omega) sen) HEM.out)
        go_wp2_with fail
        refine H40.out.mono ?_
        rintro e w40 ⟨rfl, hb40⟩
        clear H40
        replace sk := sk.below hb40
        replace sa := sa.below hb40
        replace sb := sb.below hb40
        replace sj := sj.below hb40
        replace se := se.below hb40
        replace hb0 := btrans hb0 hb40
        obtain ⟨ba, oa, rfl, ga⟩ := sa.cls apos
        obtain ⟨bb, ob, rfl, gb⟩ := sb.cls (by omega)
        obtain ⟨bj, oj, rfl, gj⟩ := sj.cls (by omega)
        obtain ⟨bm, om, rfl, gm⟩ := se.cls (by omega)
        have GA := Lib.hid ga
        have GB := Lib.hid gb
        have GJ := Lib.hid gj
        have GM := Lib.hid gm
        have HB0 := Lib.hid hb0
        clear ga gb gj gm sk sa sb sj se hb0 apos
        go_wp2
        as_aux_lemma =>
        go_loopw [38] (fun iv wr => ∃ i : Nat, i ≤ la.length ∧ iv = .int .i64 i ∧ Below w40.heap.size w40 wr) (fun iv _ => la.length - (intOf iv).toNat)
        case atStart => exact ⟨0, Nat.zero_le _, rfl, Below.refl _ _⟩
        case round =>
          obtain ⟨i, hi, rfl, hb⟩ := hrel
          have i0 : (0 : Int) ≤ i := by omega
          by_cases hil : i < la.length
          · have i1 : (i : Int) < la.length := by omega
            have i2 : (i : Int) < lb.length := by omega
            have i3 : (i : Int) < jn.length := by omega
            have i4 : (i : Int) < mt.length := by omega
            go_wp2
            as_aux_lemma =>
            go_loopw [39] (fun kv wr => ∃ k : Nat, k ≤ i ∧ kv = .int .i64 k ∧ Below w40.heap.size w40 wr) (fun kv _ => i - (intOf kv).toNat)
            case atStart => exact ⟨0, Nat.zero_le _, rfl, hb⟩
            case round =>
              clear hb
              obtain ⟨k, hk, rfl, hb⟩ := hrel
              have k0 : (0 : Int) ≤ k := by omega
              by_cases hki : k < i
              · have kk : (k : Int) < i := by omega
                have k1 : (k : Int) < la.length := by omega
                have k2 : (k : Int) < lb.length := by omega
                have k3 : (k : Int) < jn.length := by omega
                have k4 : (k : Int) < mt.length := by omega
                have ga := bwcell (bcell hb (GA.out i hil))
                have ga' := bwcell (bcell hb (GA.out k (by omega)))
                have gb := bwcell (bcell hb (GB.out i (by omega)))
                have gb' := bwcell (bcell hb (GB.out k (by omega)))
                have gj := bwcell (bcell hb (GJ.out i (by omega)))
                have gj' := bwcell (bcell hb (GJ.out k (by omega)))
                have gm := bwcell (bcell hb (GM.out i (by omega)))
                have gm' := bwcell (bcell hb (GM.out k (by omega)))
                obtain ⟨hjn, hmt⟩ := HA.out i k hil (by omega)
                generalize cls la i = ai at *
                generalize cls la k = ak at *
                generalize cls lb i = bi at *
                generalize cls lb k = bk at *
                generalize cls jn i = ji at *
                generalize cls jn k = jk at *
                generalize cls mt i = mi at *
                generalize cls mt k = mk at *
                have HC := Lib.hid (show (ai = ak ∧ bi = bk ∧ ji = jk ∧ mi = mk) ∨ (ai = ak ∧ bi ≠ bk ∧ ji = jk ∧ mi ≠ mk) ∨ (ai ≠ ak ∧ bi = bk ∧ ji = jk ∧ mi ≠ mk) ∨ (ai ≠ ak ∧ bi ≠ bk ∧ mi ≠ mk) from by
                  by_cases h1 : ai = ak
                  · by_cases h2 : bi = bk
                    · exact .inl ⟨h1, h2, hjn (.inl h1), hmt.1 ⟨h1, h2⟩⟩
                    · exact .inr (.inl ⟨h1, h2, hjn (.inl h1), fun h => h2 (hmt.2 h).2⟩)
                  · by_cases h2 : bi = bk
                    · exact .inr (.inr (.inl ⟨h1, h2, hjn (.inr h2), fun h => h1 (hmt.2 h).1⟩))
                    · exact .inr (.inr (.inr ⟨h1, h2, fun h => h1 (hmt.2 h).1⟩)))
                clear hjn hmt
                have hb' := hb
                go_upto_region 41 with fail
                go_cut [296] from 229 to 296 (fun s wx => s = .bool false ∧ Below wr.heap.size wr wx)
                case first => as_aux_lemma =>
                  rcases HC.out with ⟨rfl, rfl, rfl, rfl⟩ | ⟨rfl, n2, rfl, n4⟩ | ⟨n1, rfl, rfl, n4⟩ | ⟨n1, n2, n4⟩
                  · as_aux_lemma =>
                    have da : (ai == ai) = true := by simp
                    have db : (bi == bi) = true := by simp
                    have dj : (ji != ji) = false := by simp
                    have dm : (mi == mi) = true := by simp
                    clear HC
                    go_wp2
                    refine wp_region_bw (by kernel_rfl) (by kernel_rfl) ?_
                    repeat go_big_quiet_step (fail)
                    refine wpQuiet_nil ?_
                    rintro wq ⟨⟨wqx, hbq⟩, rfl⟩
                    go_wp2
                    go_meet
                    case rel => exact ⟨rfl, hbq⟩
                  · as_aux_lemma =>
                    have da : (ai == ai) = true := by simp
                    have db : (bi == bk) = false := by simpa using n2
                    have dj : (ji != ji) = false := by simp
                    have dm : (mi == mk) = false := by simpa using n4
                    clear HC n2 n4
                    go_wp2
                    refine wp_region_bw (by kernel_rfl) (by kernel_rfl) ?_
                    repeat go_big_quiet_step (fail)
                    refine wpQuiet_nil ?_
                    rintro wq ⟨⟨wqx, hbq⟩, rfl⟩
                    go_wp2
                    go_meet
                    case rel => exact ⟨rfl, hbq⟩
                  · as_aux_lemma =>
                    have da : (ai == ak) = false := by simpa using n1
                    have db : (bi == bi) = true := by simp
                    have dj : (ji != ji) = false := by simp
                    have dm : (mi == mk) = false := by simpa using n4
                    clear HC n1 n4
                    go_wp2
                    refine wp_region_bw (by kernel_rfl) (by kernel_rfl) ?_
                    repeat go_big_quiet_step (fail)
                    refine wpQuiet_nil ?_
                    rintro wq ⟨⟨wqx, hbq⟩, rfl⟩
                    go_wp2
                    go_meet
                    case rel => exact ⟨rfl, hbq⟩
                  · as_aux_lemma =>
                    have da : (ai == ak) = false := by simpa using n1
                    have db : (bi == bk) = false := by simpa using n2
                    have dm : (mi == mk) = false := by simpa using n4
                    clear HC n1 n2 n4
                    go_wp2
                    refine wp_region_bw (by kernel_rfl) (by kernel_rfl) ?_
                    repeat go_big_quiet_step (fail)
                    refine wpQuiet_nil ?_
                    rintro wq ⟨⟨wqx, hbq⟩, rfl⟩
                    go_wp2
                    go_meet
                    case rel => exact ⟨rfl, hbq⟩
                case rest =>
                  obtain ⟨rfl, hbq⟩ := hcut
                  clear HC ga ga' gb gb' gj gj' gm gm'
                  go_wp2
                  go_roundw
                  case rel => exact ⟨k + 1, by omega, by go_num, btrans hb hbq⟩
                  case measure => simp [intOf]; omega
              · obtain rfl : k = i := by omega
                have nlt : ¬ (k : Int) < k := by omega
                go_wp2
                go_roundw
                case rel => exact ⟨k + 1, by omega, by go_num, hb⟩
                case measure => simp [intOf]; omega
          · obtain rfl : i = la.length := by omega
            have nlt : ¬ (la.length : Int) < la.length := by omega
            go_wp2
            go_meet
            case rel => exact btrans HB0.out hb
      · have dz : (r == 0) = false := by simpa using hr
        clear hr
        go_wp2
        go_meet
        case rel => exact Below.refl _ _
    case rest => as_aux_lemma =>
      clear sk
      clear sa
      clear sb
      clear sj
      clear se
      have hbc := hcut
      clear hcut HJ1 HJ2 HJZ dr HSRC HLEN HE1 HE2
      replace sm := sm.below hbc
      replace st := st.below hbc
      replace sx := sx.below hbc
      replace sy := sy.below hbc
      replace hb0 := btrans hb0 hbc
      have HB0 := Lib.hid hb0
      have hgs := HGS.out
      have h43 : (p == 0) = true ∧ (p != 0) = false ∨ (p == 0) = false := by
        by_cases h : p = 0
        · subst h; exact .inl ⟨rfl, rfl⟩
        · exact .inr (by simpa using h)
      go_upto_region 43 with fail
      go_cut [309] from 45 (fun s wx => s = .bool false ∧ wx = wc)
      case first => as_aux_lemma =>
        clear sm st sx sy HB0 HEX HEZ HP2 HGS hb0
        rcases h43 with ⟨h1, h2⟩ | h1
        · cases good
          · go_wp2
            go_meet
            case rel => exact ⟨rfl, rfl⟩
          · cases side
            · cases hgs
            · go_wp2
              go_meet
              case rel => exact ⟨rfl, rfl⟩
        · go_wp2
          go_meet
          case rel => exact ⟨rfl, rfl⟩
      case rest => as_aux_lemma =>
        obtain ⟨rfl, rfl⟩ := hcut
        clear h43 hgs HGS
        by_cases hq : q = 0
        · subst hq
          obtain ⟨ec, er, yl', xpos, hprs⟩ := HEZ.out rfl
          have HPR := Lib.hid hprs
          have HEC := Lib.hid ec
          have HER := Lib.hid er
          have hyx : xs.length ≤ ys.length := by omega
          clear hprs ec er yl' HEZ HEX hb0
          have H41 := Lib.hid (bi_of (implIsCongruence_l (c := c1) (c' := Xc) sm (by omega) nm sx (by omega) sxn) HEC.out)
          go_wp2_with fail
          refine H41.out.mono ?_
          rintro e w41 ⟨rfl, hb41⟩
          clear H41
          replace sm := sm.below hb41
          replace st := st.below hb41
          replace sx := sx.below hb41
          replace sy := sy.below hb41
          have H42 := Lib.hid (bi_of (implIsRightCongruence_l (c := c1) (c' := Yc) sm (by omega) nm sy (by omega) syn) HER.out)
          go_wp2_with fail
          refine H42.out.mono ?_
          rintro e w42 ⟨rfl, hb42⟩
          clear H42
          replace sm := sm.below hb42
          replace st := st.below hb42
          replace sx := sx.below hb42
          replace sy := sy.below hb42
          obtain ⟨bx, ox, rfl, gx⟩ := sx.cls xpos
          obtain ⟨by', oy, rfl, gy⟩ := sy.cls (by omega)
          have GX := Lib.hid gx
          have GY := Lib.hid gy
          have ST := Lib.hid st
          clear gx gy sm sx sy st xpos
          go_wp2
          go_loopw [44] (fun iv wr => ∃ i : Nat, i ≤ prs.length ∧ iv = .int .i64 i ∧ Below w42.heap.size w42 wr) (fun iv _ => prs.length - (intOf iv).toNat)
          case atStart => exact ⟨0, Nat.zero_le _, rfl, Below.refl _ _⟩
          case round =>
            obtain ⟨i, hi, rfl, hb⟩ := hrel
            have i0 : (0 : Int) ≤ i := by omega
            by_cases hil : i < prs.length
            · have i1 : (i : Int) < prs.length := by omega
              obtain ⟨pr, hpr⟩ := el hil
              obtain ⟨bt, ot, rfl, gt⟩ := ST.out (List.ne_nil_of_length_pos (by omega))
              obtain ⟨Ar, cr, gc, gr, _⟩ := gt i pr hpr
              obtain ⟨x, y, rfl, hx, hy, ex, ey⟩ := HPR.out pr (List.mem_of_getElem? hpr)
              obtain ⟨br, or_, rfl, gv⟩ := gr (by simp)
              have gc1 := bwcell (bcell hb gc)
              have g0 := bwcell (bcell hb (gv 0 (x : Int) rfl))
              have g1 := bwcell (bcell hb (gv 1 (y : Int) rfl))
              have vx := bwcell (bcell hb (GX.out x hx))
              have vy := bwcell (bcell hb (GX.out y hy))
              have ux := bwcell (bcell hb (GY.out x (by omega)))
              have uy := bwcell (bcell hb (GY.out y (by omega)))
              rw [← ex] at vy
              rw [← ey] at uy
              generalize cls xs x = v at *
              generalize cls ys x = u at *
              have x0 : (0 : Int) ≤ x := by omega
              have x1 : (x : Int) < xs.length := by omega
              have x2 : (x : Int) < ys.length := by omega
              have y0 : (0 : Int) ≤ y := by omega
              have y1 : (y : Int) < xs.length := by omega
              have y2 : (y : Int) < ys.length := by omega
              have dv : (v != v) = false := by simp
              have du : (u != u) = false := by simp
              simp only [List.length_cons, List.length_nil, Nat.zero_add, Nat.add_zero] at gc1 g0 g1
              clear gt gc gr gv hpr ex ey
              go_wp2
              refine wp_region_bw (by kernel_rfl) (by kernel_rfl) ?_
              repeat go_big_quiet_step (fail)
              refine wpQuiet_nil ?_
              rintro wq ⟨⟨wqx, hbq⟩, rfl⟩
              go_wp2
              go_roundw
              case rel => exact ⟨i + 1, by omega, by go_num, btrans hb hbq⟩
              case measure => simp [intOf]; omega
            · obtain rfl : i = prs.length := by omega
              have nlt : ¬ (prs.length : Int) < prs.length := by omega
              go_wp2
              go_returns
              exact ⟨rfl, btrans (btrans (btrans HB0.out hb41) hb42) hb⟩
        · have dz : (q != 0) = true := by simpa using hq
          have dqq : (q == q) = true := by simp
          obtain rfl := HEX.out hq
          clear hq hb0
          go_wp2
          go_returns
          exact ⟨rfl, HB0.out⟩
end Go.Proofs.YtjepmbjneccagaaGreat
