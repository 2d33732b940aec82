/- Draws of classes: 'l06DrawClasses', 'l06DrawTwo'. No condition. -/
import Derived.Test.YtjepmbjneccagaaGreatDraw6
import Derived.Test.YtjepmbjneccagaaGreatCongBy
namespace Go.Proofs.YtjepmbjneccagaaGreat
set_option linter.unusedSimpArgs false
set_option linter.unusedVariables false
set_option linter.unusedSectionVars false
open Go.RowKit
/-- a list of maps and classes that a draw from a code hands back -/
def MclPost (w : World) (e : Ending) (w' : World) : Prop :=
  ∃ (A1 : Option Addr) (c1 : Nat) (ms : List Mp) (A2 : Option Addr) (c2 : Nat) (xs : List Int), e = .returned (.tuple #[.slice A1 ms.length c1, .slice A2 xs.length c2]) ∧ SeeMaps w' A1 ms ∧ NilOk A1 c1 ∧ InS (fun k => w.heap.size ≤ k) A1 ∧ OwnInts w' w.heap.size (.slice A2 xs.length c2) xs ∧ xs.length ≤ 1001 ∧ ms.length ≤ 7 ∧ Below w.heap.size w w'
theorem ci_of {f : FuncId} {args : Array Value} {w : World} {R : List Int × Int} {xs : List Int} {q : Int} (h : Calls Tryz.prog f args w fun e w' => ∃ v, e = .returned (.tuple #[v, .int .i64 R.2]) ∧ OwnInts w' w.heap.size v R.1 ∧ Below w.heap.size w w') (e : R = (xs, q)) : Calls Tryz.prog f args w fun e w' => ∃ A' c', e = .returned (.tuple #[.slice A' xs.length c', .int .i64 q]) ∧ OwnInts w' w.heap.size (.slice A' xs.length c') xs ∧ Below w.heap.size w w' := by
  subst e
  refine h.mono ?_
  rintro e w' ⟨v, rfl, ol, hb⟩
  obtain ⟨A', c', rfl, _⟩ := ol.see
  exact ⟨A', c', rfl, ol, hb⟩
set_option maxHeartbeats 16000000 in
set_option maxRecDepth 100000 in
theorem l06DrawClasses_c {c : Nat} {A : Option Addr} {code : List Int} (w : World) (h : SeeBytes w A code) (hl : code.length ≤ 4611686018427387904) :
    Calls Tryz.prog 61 #[.slice A code.length c] w (MclPost w) := by
  unfold MclPost
  have HFR := Lib.hid (l01From_c (c := c) w h hl)
  have HSRC := Lib.hid (⟨h, hl⟩ : SeeBytes w A code ∧ code.length ≤ 4611686018427387904)
  clear h hl
  go_enter Tryz.func61, Tryz.ntmps61
  go_wp2_with fail
  refine HFR.out.mono ?_
  rintro e w2 ⟨b, rfl, hb, hsrc, hb2⟩
  clear HFR
  have HDP := Lib.hid (l06DrawPairs_c (c := c) w2 (HSRC.out.1.below hb2) HSRC.out.2)
  unfold MpsPost at HDP
  have hlt2 := hsrc.lt
  go_wp2_with fail
  refine HDP.out.mono ?_
  rintro e w3 ⟨A1, c1, ms, A2, c2, prs, rfl, sm, nm, hin, own, hp, hp2, h7, hb3⟩
  clear HDP
  have bl3 := btrans hb2 hb3
  have hz2 := hb2.size
  have hz3 := hb3.size
  have hlt3 : b < w3.heap.size := by omega
  have d3 : Drawn w3 w3 b A c code := Drawn.refl (hsrc.below hb3)
  have far1 : InS (fun k => k ≠ b) A1 := hin.mono fun k hk => by omega
  have hin1 : InS (fun k => w.heap.size ≤ k) A1 := hin.mono fun k hk => by omega
  obtain ⟨⟨xs, q⟩, hr⟩ : ∃ r, RCongruenceOf ms prs = r := ⟨_, rfl⟩
  have hxl : xs.length ≤ 1000 := by have := RCongruenceOf_len ms prs; rw [hr] at this; exact this
  have HCG := Lib.hid (ci_of (specCongruenceOf_l (c := c1) (c' := c2) sm (by omega) nm own.tab (by omega) (fun r hr => by have := hp2 r hr; omega)) hr)
  have HP2 := Lib.hid hp2
  clear hr hp2
  go_wp2_with fail
  refine HCG.out.mono ?_
  rintro e w4 ⟨A4, c4, rfl, ox, hb4⟩
  clear HCG
  have d4 := d3.below hb4
  have own4 := own.below hb4
  clear own
  go_upto_region 4 with fail
  go_cut [28] from 9 (fun s28 wx => (∃ r : Bool, s28 = .bool r) ∧ Drawn w4 wx b A c code)
  case first =>
    by_cases hq : q = 0
    · have dz : (q != 0) = false := by simpa using hq
      have HN4 := Lib.hid (l01Next_c 4 w4 d4.src (by omega))
      clear hq
      go_wp2_with fail
      refine HN4.out.mono ?_
      rintro e w5 ⟨x, rfl, _, _, hd5⟩
      go_wp2
      go_meet
      case rel => exact ⟨⟨_, rfl⟩, hd5⟩
    · have dz : (q != 0) = true := by simpa using hq
      clear hq
      go_wp2
      go_meet
      case rel => exact ⟨⟨_, rfl⟩, Drawn.refl d4.src⟩
  case rest =>
    obtain ⟨⟨r, rfl⟩, hdc⟩ := hcut
    have ox5 := ox.drawn hlt3 hdc
    have own5 := own4.drawn (by omega) hdc
    have d5 := d4.trans hdc
    clear ox own4 d4 hdc
    obtain ⟨W5, rfl⟩ : ∃ W5, W5 = wc := ⟨_, rfl⟩
    go_upto_if 28 with fail
    go_cut [7, 8] from 9 (fun s7 s8 wx => ∃ (A' : Option Addr) (c' : Nat) (ys : List Int) (p : Int), s7 = .slice A' ys.length c' ∧ s8 = .int .i64 p ∧ OwnInts wx w3.heap.size (.slice A' ys.length c') ys ∧ ys.length ≤ 1000 ∧ Below W5.heap.size W5 wx)
    case first =>
      cases r
      · go_wp2
        go_meet
        case rel => exact ⟨A4, c4, xs, q, rfl, rfl, ox5, hxl, Below.refl _ _⟩
      · obtain ⟨⟨ys, p⟩, hr⟩ : ∃ r, RRightCongruence ms prs = r := ⟨_, rfl⟩
        have hyl : ys.length ≤ 1000 := by have := RRightCongruence_len ms prs; rw [hr] at this; exact this
        have HRC := Lib.hid (ci_of (specRightCongruence_l (c := c1) (c' := c2) (sm.drawn far1 d5) (by omega) nm own5.tab (by omega) (fun r hr => by have := HP2.out r hr; omega)) hr)
        clear hr
        go_wp2_with fail
        refine HRC.out.mono ?_
        rintro e w6 ⟨A6, c6, rfl, oy, hb6⟩
        go_wp2
        go_meet
        case rel => exact ⟨A6, c6, ys, p, rfl, rfl, oy.mono d5.keep.size, hyl, hb6⟩
    case rest =>
      obtain ⟨A5, c5, ys, p, rfl, rfl, oy, hyl, hbc⟩ := hcut
      have d6 := d5.below hbc
      clear ox5 own5 d5 hbc
      obtain ⟨W6, rfl⟩ : ∃ W6, W6 = wc := ⟨_, rfl⟩
      go_upto_if 36 with fail
      go_cut [7] from 9 (fun s7 wx => ∃ (A' : Option Addr) (c' : Nat) (zs : List Int), s7 = .slice A' zs.length c' ∧ OwnInts wx w3.heap.size (.slice A' zs.length c') zs ∧ zs.length ≤ 1000 ∧ Below W6.heap.size W6 wx)
      case first =>
        by_cases hp0 : p = 0
        · have dz : (p != 0) = false := by simpa using hp0
          clear hp0
          go_wp2
          go_meet
          case rel => exact ⟨A5, c5, ys, rfl, oy, hyl, Below.refl _ _⟩
        · have dz : (p != 0) = true := by simpa using hp0
          clear hp0
          have ot := own_two W6 w3.heap.size d6.keep.size 0 1
          have kk := kbelow W6 (.cells #[.int .i64 0, .int .i64 1] 2)
          go_wp2
          go_meet
          case rel => exact ⟨some ⟨W6.heap.size, 0, none⟩, 2, [0, 1], rfl, ot, by simp, kk⟩
      case rest =>
        obtain ⟨A6, c6, zs, rfl, oz, hzl, hbc2⟩ := hcut
        have d7 := d6.below hbc2
        clear oy d6 hbc2
        obtain ⟨W7, rfl⟩ : ∃ W7, W7 = wc := ⟨_, rfl⟩
        have HOW := Lib.hid (l01Own_c A6 c6 zs W7 oz.see' oz.nilok (by omega))
        have hz7 := d7.keep.size
        go_wp2_with fail
        refine HOW.out.mono ?_
        rintro e w8 ⟨v8, rfl, o8, hb8⟩
        clear HOW oz
        obtain ⟨A8, c8, rfl, _⟩ := o8.see
        have d8 := d7.below hb8
        have hlt7 : b < W7.heap.size := by omega
        have HN12 := Lib.hid (l01Next_c 12 w8 d8.src (by omega))
        clear d7
        go_wp2_with fail
        refine HN12.out.mono ?_
        rintro e w9 ⟨t, rfl, _, _, hd9⟩
        clear HN12
        have o9 := o8.drawn hlt7 hd9
        have d9 := d8.trans hd9
        have hz89 := hd9.keep.size
        clear o8 d8 hd9
        by_cases ht0 : t = 0
        · subst ht0
          by_cases hpos : 0 < zs.length
          · have p0 : (0 : Int) < zs.length := by omega
            obtain ⟨g8, c8', hv8⟩ := o9.someI (List.length_pos_iff.1 hpos)
            simp only [Value.slice.injEq] at hv8
            obtain ⟨rfl, _, rfl⟩ := hv8
            have HNL := Lib.hid (l01Next_c (zs.length : Int) w9 d9.src (by omega))
            go_wp2_with fail
            refine HNL.out.mono ?_
            rintro e w10 ⟨i, rfl, hi, _, hd10⟩
            obtain ⟨i0, i1⟩ := hi p0
            clear HNL hi
            have o10 := o9.drawn hlt7 hd10
            have d10 := d9.trans hd10
            have HN4 := Lib.hid (l01Next_c 4 w10 d10.src (by omega))
            clear o9 d9 hd10
            go_wp2_with fail
            refine HN4.out.mono ?_
            rintro e w11 ⟨x, rfl, _, _, hd11⟩
            clear HN4
            have o11 := o10.drawn hlt7 hd11
            have d11 := d10.trans hd11
            obtain ⟨I, rfl⟩ := Int.eq_ofNat_of_zero_le i0
            have hput := o11.put I x
            have hfree := o11.free
            have hgl := o11.lt g8 rfl
            have hd12 := d11.set hlt3 (a := ⟨g8, I, none⟩) (by show w3.heap.size ≤ g8; omega) (.int .i64 x)
            obtain ⟨y, hy⟩ := el (xs := zs) (k := I) (by omega)
            have hcell := o11.at_ hy
            have HF := Lib.hid (⟨sm.drawn far1 hd12, nm, hin1, by rw [List.length_set]; exact hput.mono (by omega), by rw [List.length_set]; omega, h7, Drawn.newer bl3 hb hd12⟩ : SeeMaps (w11.setCell ⟨g8, I, none⟩ (.int .i64 x)) A1 ms ∧ NilOk A1 c1 ∧ InS (fun k => w.heap.size ≤ k) A1 ∧ OwnInts (w11.setCell ⟨g8, I, none⟩ (.int .i64 x)) w.heap.size (.slice (some ⟨g8, 0, none⟩) (zs.set I x).length c8) (zs.set I x) ∧ (zs.set I x).length ≤ 1001 ∧ ms.length ≤ 7 ∧ Below w.heap.size w (w11.setCell ⟨g8, I, none⟩ (.int .i64 x)))
            clear o10 o11 d10 d11 hd11 hput hd12 hy
            go_wp2
            go_returns
            exact ⟨A1, c1, ms, _, c8, zs.set I x, by rw [List.length_set]; rfl, HF.out⟩
          · have p0 : ¬ (0 : Int) < zs.length := by omega
            have HF := Lib.hid (⟨sm.drawn far1 d9, nm, hin1, o9.mono (by omega), by omega, h7, Drawn.newer bl3 hb d9⟩ : SeeMaps w9 A1 ms ∧ NilOk A1 c1 ∧ InS (fun k => w.heap.size ≤ k) A1 ∧ OwnInts w9 w.heap.size (.slice A8 zs.length c8) zs ∧ zs.length ≤ 1001 ∧ ms.length ≤ 7 ∧ Below w.heap.size w w9)
            clear o9 d9
            go_wp2
            go_returns
            exact ⟨A1, c1, ms, A8, c8, zs, rfl, HF.out⟩
        · have dt0 : (t == 0) = false := by simpa using ht0
          clear ht0
          by_cases ht1 : t = 1
          · subst ht1
            clear dt0
            have k10 := kbelow w9 (.cells #[.int .i64 0] 2)
            have o10 := o9.below k10
            have d10 := d9.below k10
            have hz10 := d10.keep.size
            have hz9 := k10.size
            have hw9 : W7.heap.size ≤ w9.heap.size := by have := hb8.size; omega
            clear o9 d9
            go_wp2_with (at_builtin; go_must (refine wpList_push_int _ rfl (.tmp 57) (.tmp 58) rfl W7.heap.size (.slice A8 zs.length c8) zs rfl o10 ⟨w9.heap.size, 0, none⟩ 0 rfl (by simp [go_sem]) (by omega) (by omega) ?_; intro v11 w11 o11 hg11 hv11; have h11 := o11.see; obtain ⟨A11, c11, rfl, _⟩ := h11))
            have d11 : Drawn w3 w11 b A c code := d10.grown hlt3 hg11 (fun k hk => by have := (o10.lt k hk).1; omega)
            have HF := Lib.hid (⟨sm.drawn far1 d11, nm, hin1, o11.mono (by omega), by rw [List.length_append, List.length_singleton]; omega, h7, Drawn.newer bl3 hb d11⟩ : SeeMaps w11 A1 ms ∧ NilOk A1 c1 ∧ InS (fun k => w.heap.size ≤ k) A1 ∧ OwnInts w11 w.heap.size (.slice A11 (zs ++ [0]).length c11) (zs ++ [0]) ∧ (zs ++ [0]).length ≤ 1001 ∧ ms.length ≤ 7 ∧ Below w.heap.size w w11)
            go_returns
            exact ⟨A1, c1, ms, A11, c11, zs ++ [0], by rw [List.length_append, List.length_singleton]; rfl, HF.out⟩
          · have dt1 : (t == 1) = false := by simpa using ht1
            clear ht1
            have HF := Lib.hid (⟨sm.drawn far1 d9, nm, hin1, o9.mono (by omega), by omega, h7, Drawn.newer bl3 hb d9⟩ : SeeMaps w9 A1 ms ∧ NilOk A1 c1 ∧ InS (fun k => w.heap.size ≤ k) A1 ∧ OwnInts w9 w.heap.size (.slice A8 zs.length c8) zs ∧ zs.length ≤ 1001 ∧ ms.length ≤ 7 ∧ Below w.heap.size w w9)
            clear o9 d9
            go_wp2
            go_returns
            exact ⟨A1, c1, ms, A8, c8, zs, rfl, HF.out⟩
/-- a list of maps and two classes that a draw from a code hands back -/
def MtwoPost (w : World) (e : Ending) (w' : World) : Prop :=
  ∃ (A1 : Option Addr) (c1 : Nat) (ms : List Mp) (A2 : Option Addr) (c2 : Nat) (xs : List Int) (A3 : Option Addr) (c3 : Nat) (ys : List Int), e = .returned (.tuple #[.slice A1 ms.length c1, .slice A2 xs.length c2, .slice A3 ys.length c3]) ∧ SeeMaps w' A1 ms ∧ NilOk A1 c1 ∧ SeeInts w' A2 xs ∧ NilOk A2 c2 ∧ xs.length ≤ 1001 ∧ SeeInts w' A3 ys ∧ NilOk A3 c3 ∧ ys.length ≤ 1001 ∧ ms.length ≤ 7 ∧ Below w.heap.size w w'
set_option maxHeartbeats 16000000 in
set_option maxRecDepth 100000 in
theorem l06DrawTwo_c {c : Nat} {A : Option Addr} {code : List Int} (w : World) (h : SeeBytes w A code) (hl : code.length ≤ 4611686018427387904) :
    Calls Tryz.prog 66 #[.slice A code.length c] w (MtwoPost w) := by
  unfold MtwoPost
  have HFR := Lib.hid (l01From_c (c := c) w h hl)
  have HSRC := Lib.hid (⟨h, hl⟩ : SeeBytes w A code ∧ code.length ≤ 4611686018427387904)
  clear h hl
  go_enter Tryz.func66, Tryz.ntmps66
  go_wp2_with fail
  refine HFR.out.mono ?_
  rintro e w2 ⟨b, rfl, hb, hsrc, hb2⟩
  clear HFR
  have HDP := Lib.hid (l06DrawClasses_c (c := c) w2 (HSRC.out.1.below hb2) HSRC.out.2)
  unfold MclPost at HDP
  have hlt2 := hsrc.lt
  go_wp2_with fail
  refine HDP.out.mono ?_
  rintro e w3 ⟨A1, c1, ms, A2, c2, xs, rfl, sm, nm, hin, ox, hxl, h7, hb3⟩
  clear HDP
  have bl3 := btrans hb2 hb3
  have hz2 := hb2.size
  have hz3 := hb3.size
  have hlt3 : b < w3.heap.size := by omega
  have d3 : Drawn w3 w3 b A c code := Drawn.refl (hsrc.below hb3)
  have far1 : InS (fun k => k ≠ b) A1 := hin.mono fun k hk => by omega
  go_upto_region 3 with fail
  go_cut [8] from 11 (fun s8 wx => (∃ n : Int, s8 = .int .i64 n ∧ 1 ≤ n ∧ n ≤ 1001) ∧ wx = w3)
  case first =>
    by_cases hp : 1 ≤ xs.length
    · have i1 : (1 : Int) ≤ xs.length := by omega
      have i2 : ¬ (xs.length : Int) < 1 := by omega
      have i3 : max (xs.length : Int) 1 = xs.length := by omega
      go_wp2
      go_meet
      case rel => exact ⟨⟨(xs.length : Int), by first | rfl | simp [i3], i1, by omega⟩, rfl⟩
    · have hx0 : xs = [] := List.eq_nil_of_length_eq_zero (by omega)
      subst hx0
      go_wp2
      go_meet
      case rel => exact ⟨⟨1, by first | rfl | simp, by omega, by omega⟩, rfl⟩
  case rest =>
    obtain ⟨⟨n, rfl, n1, n2⟩, rfl⟩ := hcut
    have HNX := Lib.hid (l01Next_c n wc d3.src (by omega))
    go_wp2_with fail
    refine HNX.out.mono ?_
    rintro e w4 ⟨x, rfl, _, _, hd4⟩
    have HNY := Lib.hid (l01Next_c n w4 hd4.src (by omega))
    clear HNX
    go_wp2_with fail
    refine HNY.out.mono ?_
    rintro e w5 ⟨y, rfl, _, _, hd5⟩
    clear HNY
    have d5 := hd4.trans hd5
    have ox5 := (ox.drawn (by omega) hd4).drawn (by omega) hd5
    have k1 := kbelow w5 (.cells #[.int .i64 x, .int .i64 y] 2)
    have k2 := btrans k1 (kbelow _ (.cells #[.slice (some ⟨w5.heap.size, 0, none⟩) 2 2] 38))
    have sp : SeeTab ((w5.alloc (.cells #[.int .i64 x, .int .i64 y] 2)).alloc (.cells #[.slice (some ⟨w5.heap.size, 0, none⟩) 2 2] 38)) (some ⟨w5.heap.size + 1, 0, none⟩) [[x, y]] := by
      refine see_tab1 (A := some ⟨w5.heap.size, 0, none⟩) (c := 2) (by simp [go_sem]) (fun _ => ⟨w5.heap.size, 0, rfl, fun k z hk => ?_⟩) (fun e => by cases e)
      match k, hk with
      | 0, hk => simp at hk; subst hk; simp [go_sem]
      | 1, hk => simp at hk; subst hk; simp [go_sem]
    obtain ⟨⟨ys, q⟩, hr⟩ : ∃ r, RCongruenceOf ms [[x, y]] = r := ⟨_, rfl⟩
    have hyl : ys.length ≤ 1000 := by have := RCongruenceOf_len ms [[x, y]]; rw [hr] at this; exact this
    have hcg := ci_of (specCongruenceOf_l (c := c1) (c' := 1) ((sm.drawn far1 d5).below k2) (by omega) nm sp (by simp) (fun r hr => by rw [List.mem_singleton.1 hr]; simp)) hr
    have d7 := d5.below k2
    have ox7 := ox5.below k2
    obtain ⟨W7, hW7⟩ : ∃ W7, W7 = (w5.alloc (.cells #[.int .i64 x, .int .i64 y] 2)).alloc (.cells #[.slice (some ⟨w5.heap.size, 0, none⟩) 2 2] 38) := ⟨_, rfl⟩
    rw [← hW7] at hcg d7 ox7
    have HCG := Lib.hid (show Calls Tryz.prog 23 #[.slice A1 ms.length c1, .slice (some ⟨w5.heap.size + 1, 0, none⟩) 1 1] W7 _ from hcg)
    clear hcg sp k1 k2 hr hd4 hd5 d5 ox5 d3 ox
    go_wp2_with fail
    rw [← hW7]
    clear hW7
    refine HCG.out.mono ?_
    rintro e w8 ⟨A8, c8, rfl, oy, hb8⟩
    clear HCG
    have d8 := d7.below hb8
    have ox8 := ox7.below hb8
    clear ox7
    by_cases hq : q = 0
    · have dz : (q == 0) = true := by simpa using hq
      have HN12 := Lib.hid (l01Next_c 12 w8 d8.src (by omega))
      clear hq
      go_wp2_with fail
      refine HN12.out.mono ?_
      rintro e w9 ⟨t, rfl, _, _, hd9⟩
      clear HN12
      have d9 := d8.trans hd9
      have ox9 := ox8.drawn (by omega) hd9
      have oy9 := oy.drawn (Nat.lt_of_lt_of_le hlt3 d7.keep.size) hd9
      have HF := Lib.hid (⟨sm.drawn far1 d9, nm, ox9.see', ox9.nilok, hxl, oy9.see', oy9.nilok, h7, Drawn.newer bl3 hb d9⟩ : SeeMaps w9 A1 ms ∧ NilOk A1 c1 ∧ SeeInts w9 A2 xs ∧ NilOk A2 c2 ∧ xs.length ≤ 1001 ∧ SeeInts w9 A8 ys ∧ NilOk A8 c8 ∧ ms.length ≤ 7 ∧ Below w.heap.size w w9)
      clear d9 ox9 oy9 ox8 oy d8 hd9
      obtain ⟨f1, f2, f3, f4, f5, f6, f7, f8, f9⟩ := HF.out
      by_cases ht : 0 < t
      · clear f1 f2 f3 f4 f5 f6 f7 f8 f9
        go_wp2
        go_returns
        exact ⟨A1, c1, ms, A2, c2, xs, A8, c8, ys, rfl, HF.out.1, HF.out.2.1, HF.out.2.2.1, HF.out.2.2.2.1, HF.out.2.2.2.2.1, HF.out.2.2.2.2.2.1, HF.out.2.2.2.2.2.2.1, by omega, HF.out.2.2.2.2.2.2.2⟩
      · have nt : ¬ (0 : Int) < t := by omega
        clear f1 f2 f3 f4 f5 f6 f7 f8 f9
        go_wp2
        go_returns
        exact ⟨A1, c1, ms, A2, c2, xs, A2, c2, xs, rfl, HF.out.1, HF.out.2.1, HF.out.2.2.1, HF.out.2.2.2.1, HF.out.2.2.2.2.1, HF.out.2.2.1, HF.out.2.2.2.1, HF.out.2.2.2.2.1, HF.out.2.2.2.2.2.2.2⟩
    · have dz : (q == 0) = false := by simpa using hq
      have HF := Lib.hid (⟨sm.drawn far1 d8, nm, ox8.see', ox8.nilok, hxl, Drawn.newer bl3 hb d8⟩ : SeeMaps w8 A1 ms ∧ NilOk A1 c1 ∧ SeeInts w8 A2 xs ∧ NilOk A2 c2 ∧ xs.length ≤ 1001 ∧ Below w.heap.size w w8)
      clear hq d8 ox8 oy
      go_wp2
      go_returns
      exact ⟨A1, c1, ms, A2, c2, xs, A2, c2, xs, rfl, HF.out.1, HF.out.2.1, HF.out.2.2.1, HF.out.2.2.2.1, HF.out.2.2.2.2.1, HF.out.2.2.1, HF.out.2.2.2.1, HF.out.2.2.2.2.1, h7, HF.out.2.2.2.2.2⟩
set_option maxHeartbeats 2000000 in
theorem DrawCongruenceOf_c {c : Nat} {A : Option Addr} {code : List Int} (w : World) (h : SeeBytes w A code) (hl : code.length ≤ 4611686018427387904) :
    Calls Tryz.prog 21 #[.slice A code.length c] w (MpsPost w) := by
  unfold MpsPost
  have HDP := Lib.hid (l06DrawPairs_c (c := c) w h hl)
  unfold MpsPost at HDP
  clear h hl
  go_enter Tryz.func21, Tryz.ntmps21
  go_wp2_with fail
  refine HDP.out.mono ?_
  rintro e w2 ⟨A1, c1, ms, A2, c2, prs, rfl, hf⟩
  have HF := Lib.hid hf
  clear HDP hf
  go_wp2
  go_returns
  exact ⟨A1, c1, ms, A2, c2, prs, rfl, HF.out⟩
set_option maxHeartbeats 2000000 in
theorem DrawIsCongruence_c {c : Nat} {A : Option Addr} {code : List Int} (w : World) (h : SeeBytes w A code) (hl : code.length ≤ 4611686018427387904) :
    Calls Tryz.prog 27 #[.slice A code.length c] w (MclPost w) := by
  unfold MclPost
  have HDP := Lib.hid (l06DrawClasses_c (c := c) w h hl)
  unfold MclPost at HDP
  clear h hl
  go_enter Tryz.func27, Tryz.ntmps27
  go_wp2_with fail
  refine HDP.out.mono ?_
  rintro e w2 ⟨A1, c1, ms, A2, c2, xs, rfl, hf⟩
  have HF := Lib.hid hf
  clear HDP hf
  go_wp2
  go_returns
  exact ⟨A1, c1, ms, A2, c2, xs, rfl, HF.out⟩
set_option maxHeartbeats 2000000 in
theorem DrawJoinCongruences_c {c : Nat} {A : Option Addr} {code : List Int} (w : World) (h : SeeBytes w A code) (hl : code.length ≤ 4611686018427387904) :
    Calls Tryz.prog 32 #[.slice A code.length c] w (MtwoPost w) := by
  unfold MtwoPost
  have HDP := Lib.hid (l06DrawTwo_c (c := c) w h hl)
  unfold MtwoPost at HDP
  clear h hl
  go_enter Tryz.func32, Tryz.ntmps32
  go_wp2_with fail
  refine HDP.out.mono ?_
  rintro e w2 ⟨A1, c1, ms, A2, c2, xs, A3, c3, ys, rfl, hf⟩
  have HF := Lib.hid hf
  clear HDP hf
  go_wp2
  go_returns
  exact ⟨A1, c1, ms, A2, c2, xs, A3, c3, ys, rfl, HF.out⟩
end Go.Proofs.YtjepmbjneccagaaGreat
