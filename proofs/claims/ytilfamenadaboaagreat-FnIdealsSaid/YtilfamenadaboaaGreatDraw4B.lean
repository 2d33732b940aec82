/- Draws of lists and maps for inverses: 'l04Draw', 'l04With', 'DrawRegularElements', 'DrawInversesIn'. No condition. -/
import Derived.Test.YtilfamenadaboaaGreatDraw2
import Derived.Test.YtilfamenadaboaaGreatInvC
import Derived.Test.YtilfamenadaboaaGreatElBelow
import Derived.Deep.Cut
namespace Go.Proofs.YtilfamenadaboaaGreat
set_option linter.unusedSimpArgs false
set_option linter.unusedVariables false
set_option linter.unusedSectionVars false
open Go.RowKit
theorem MpAt.keepS {S : Nat → Prop} {w w1 : World} {b o : Nat} {m : Mp} (h : MpAt w b o m) (hs : S b) (hk : Keep S w w1) : MpAt w1 b o m :=
  ⟨hk.cell (p := ⟨b, o, none⟩) hs h.1, hk.cell (p := ⟨b, o + 1, none⟩) hs h.2, hk.cell (p := ⟨b, o + 2, none⟩) hs h.3, hk.cell (p := ⟨b, o + 3, none⟩) hs h.4, hk.cell (p := ⟨b, o + 4, none⟩) hs h.5, hk.cell (p := ⟨b, o + 5, none⟩) hs h.6⟩
set_option maxHeartbeats 4000000 in
theorem l04Draw_c {b c : Nat} {A : Option Addr} {code : List Int} (w : World) (h : SrcAt w b A c code) :
    Calls Tryz.prog 47 #[.pointer (some ⟨b, 0, none⟩)] w (MqPost 7 w b A c code) := by
  unfold MqPost
  have hlt := h.lt
  have HNX := Lib.hid (l01Next_c 3 w h (by omega))
  go_enter Tryz.func47, Tryz.ntmps47
  go_wp2_with fail
  refine HNX.out.mono ?_
  rintro e w2 ⟨x, rfl, hx, _, hd⟩
  clear HNX hx
  by_cases hz : x = 0
  · subst hz
    have HLD := Lib.hid (l02Draw_c w2 hd.src)
    unfold MqPost at HLD
    go_wp2_with fail
    refine HLD.out.mono ?_
    rintro e w3 ⟨A3, c3, ms3, rfl, sm, nm, hin0, h7, hd3⟩
    have hin : InS (fun k => k ≠ b ∧ w.heap.size ≤ k) A3 := hin0.mono fun k hk => ⟨hk.1, Nat.le_trans hd.keep.size hk.2⟩
    have hd3' := hd.trans hd3
    have HF := Lib.hid (⟨sm, nm, hin, h7, hd3'⟩ : SeeMaps w3 A3 ms3 ∧ NilOk A3 c3 ∧ InS (fun k => k ≠ b ∧ w.heap.size ≤ k) A3 ∧ ms3.length ≤ 7 ∧ Drawn w w3 b A c code)
    clear HLD sm nm hin hin0 hd3 hd3'
    go_wp2
    go_returns
    exact ⟨A3, c3, ms3, rfl, HF.out⟩
  · have dx : (x == 0) = false := by simpa using hz
    have HPK := Lib.hid (pick_any [1, 2, 3, 3] 4 rfl (by omega) (by omega) hd.src w2.heap.size rfl _ rfl)
    clear hz
    go_wp2_with fail
    obtain ⟨W2, hW2⟩ : ∃ W2, W2 = w2.alloc (.cells ([1, 2, 3, 3].map (Value.int .i64)).toArray 2) := ⟨_, rfl⟩
    have hW3 : W2 = w2.alloc (.cells #[.int .i64 1, .int .i64 2, .int .i64 3, .int .i64 3] 2) := hW2
    rw [← hW2] at HPK
    rw [← hW3]
    clear hW2 hW3
    refine HPK.out.mono ?_
    rintro e w3 ⟨y, rfl, hy, hd3⟩
    obtain ⟨n, rfl, n1, n5⟩ : ∃ n : Nat, y = (n : Int) ∧ 1 ≤ n ∧ n ≤ 5 := by
      simp at hy
      refine ⟨y.toNat, ?_, ?_, ?_⟩ <;> omega
    have hd3' := hd.trans hd3
    have HDL := Lib.hid (l01DrawList_c n w3 hd3'.src n1 n5)
    unfold MlPost at HDL
    clear hy HPK hd hd3
    go_wp2_with fail
    refine HDL.out.mono ?_
    rintro e w4 ⟨v, ms, rfl, own, hr, hd4⟩
    have hd4' := hd3'.trans hd4
    have hlt3 := hd3'.src.lt
    obtain ⟨A4, c4, rfl, _⟩ := own.see
    have HF := Lib.hid (⟨own.see', own.nilok, own.farB hlt3 hd3'.keep.size, by have := hr.six; omega, hd4'⟩ : SeeMaps w4 A4 ms ∧ NilOk A4 c4 ∧ InS (fun k => k ≠ b ∧ w.heap.size ≤ k) A4 ∧ ms.length ≤ 7 ∧ Drawn w w4 b A c code)
    clear HDL own hr hd3' hd4
    go_wp2
    go_returns
    exact ⟨A4, c4, ms, rfl, HF.out⟩
theorem els_pos {ms l : List Mp} (h : RElementsOf ms = (l, 0)) : 0 < l.length ∧ l.length ≤ 300 := by
  by_cases hc : moC ms [] = 0
  · rw [RElementsOf_ok hc] at h
    have e : elsOf ms = l := congrArg Prod.fst h
    rw [← e]
    exact ⟨List.length_pos_of_mem (id_mem (MonR.of hc).list), (MonR.of hc).len⟩
  · rw [RElementsOf_bad hc] at h
    exact absurd (congrArg Prod.snd h) hc
/-- a drawn list and a map -/
def MwPost (w : World) (b : Nat) (A : Option Addr) (c : Nat) (code : List Int) (e : Ending) (w' : World) : Prop :=
  ∃ (A' : Option Addr) (c' : Nat) (ms : List Mp) (f : Mp), e = .returned (.tuple #[.slice A' ms.length c', .agg #[.int .i64 f.p, .int .i64 f.a, .int .i64 f.b, .int .i64 f.c, .int .i64 f.d, .int .i64 f.e]]) ∧ SeeMaps w' A' ms ∧ NilOk A' c' ∧ InS (fun k => k ≠ b ∧ w.heap.size ≤ k) A' ∧ ms.length ≤ 7 ∧ Drawn w w' b A c code
set_option maxHeartbeats 8000000 in
set_option maxRecDepth 100000 in
theorem l04With_c {b c : Nat} {A : Option Addr} {code : List Int} (w : World) (h : SrcAt w b A c code) :
    Calls Tryz.prog 70 #[.pointer (some ⟨b, 0, none⟩)] w (MwPost w b A c code) := by
  unfold MwPost
  have hlt := h.lt
  obtain ⟨W1, hW1⟩ : ∃ W1, W1 = w.alloc (.cells #[.int .i64 0, .int .i64 0, .int .i64 0, .int .i64 0, .int .i64 0, .int .i64 0] 27) := ⟨_, rfl⟩
  have z1 : W1.heap.size = w.heap.size + 1 := by rw [hW1, World.size_alloc]
  have k1 : Below w.heap.size w W1 := by rw [hW1]; go_grown
  have bz : MpBox W1 w.heap.size Mp.z := by rw [hW1]; exact MpBox.new Mp.z 27 rfl
  have d1 : Drawn w W1 b A c code := (Drawn.refl h).below k1
  have HDR := Lib.hid (l04Draw_c W1 d1.src)
  unfold MqPost at HDR
  go_enter Tryz.func70, Tryz.ntmps70
  go_wp2_with fail
  rw [← hW1]
  clear hW1
  refine HDR.out.mono ?_
  rintro e w2 ⟨A2, c2, ms, rfl, sm, nm, hin, h7, hd2⟩
  have hd := d1.trans hd2
  have bz2 := bz.drawn (by omega) hd2
  have HEL := Lib.hid (specElementsOf_l (c := c2) sm (by omega))
  unfold MsPost at HEL
  obtain ⟨⟨l, q⟩, hr⟩ : ∃ r, RElementsOf ms = r := ⟨_, rfl⟩
  rw [hr] at HEL
  have HRE := Lib.hid hr
  clear hr HDR bz d1 k1 hd2
  go_wp2_with fail
  have hds := hd.src.lt
  refine HEL.out.mono ?_
  rintro e w3 ⟨v3, rfl, own, hb3⟩
  clear HEL
  obtain ⟨A3, c3, rfl, _⟩ := own.see
  replace sm := sm.below hb3
  replace hd := hd.below hb3
  replace bz2 := bz2.below hb3
  have hin1 : InS (fun k => k ≠ b ∧ w.heap.size ≤ k) A2 := hin.mono fun k hk => ⟨hk.1, by omega⟩
  have hin2 : InS (fun k => k ≠ w.heap.size) A2 := hin.mono fun k hk => by have := hk.2; omega
  have hzw := hd.keep.size
  have hd2s := hds
  by_cases hq : q = 0
  · subst hq
    have HNX := Lib.hid (l01Next_c 12 w3 hd.src (by omega))
    go_wp2_with fail
    refine HNX.out.mono ?_
    rintro e w4 ⟨x, rfl, _, _, hd4⟩
    clear HNX
    by_cases hx : 0 < x
    · obtain ⟨lpos, llen⟩ : 0 < l.length ∧ l.length ≤ 300 := els_pos HRE.out
      obtain ⟨b3, o3, rfl, g3⟩ := own.see' (List.ne_nil_of_length_pos lpos)
      have far3 : ∀ a, (some ⟨b3, o3, none⟩ : Option Addr) = some a → a.block ≠ b := fun a ha => (own.far hd2s) a ha
      have hd4' := hd.trans hd4
      have sm4 := sm.drawn hin.ne hd4
      have bz4 := bz2.drawn (by omega) hd4
      have g4 : ∀ k m, l[k]? = some m → MpAt w4 b3 (o3 + k * 6) m := fun k m hk => (g3 k m hk).keepS (far3 _ rfl) hd4.keep
      have G4 := Lib.hid g4
      have HN2 := Lib.hid (l01Next_c (l.length : Int) w4.drew (hd4'.below (Below.drew (Below.refl _ w4))).src (by omega))
      have hdd : Drawn w w4.drew b A c code := hd4'.below (Below.drew (Below.refl _ w4))
      clear g3 g4 own hd4
      go_wp2
      refine wp_region_headS 9 (fun w' => True) (by kernel_rfl) (by kernel_rfl) trivial (fun hHeld => ?_)
      simp only [List.drop]
      refine headH_takeS (i := 0) (v := ?_) 21 rfl (by kernel_rfl) (by kernel_rfl) (fun _ _ _ h => h) (Or.inl ⟨by rfl, ?_⟩) hHeld ?_
      rotate_left
      · intro w hSw
        (try dsimp only at hSw)
        go_simp
        try with_reducible rfl
      try simp only [Act.put, List.setIfInBounds_toArray, List.set_cons_zero, List.set_cons_succ]
      refine headH_takeS (i := 1) (v := ?_) 22 rfl (by kernel_rfl) (by kernel_rfl) (fun _ _ _ h => h) (Or.inl ⟨by rfl, ?_⟩) hHeld ?_
      rotate_left
      · intro w hSw
        (try dsimp only at hSw)
        go_simp
        try with_reducible rfl
      try simp only [Act.put, List.setIfInBounds_toArray, List.set_cons_zero, List.set_cons_succ]
      refine headH_takeS (i := 2) (v := ?_) 23 rfl (by kernel_rfl) (by kernel_rfl) (fun _ _ _ h => h) (Or.inl ⟨by rfl, ?_⟩) hHeld ?_
      rotate_left
      · intro w hSw
        (try dsimp only at hSw)
        go_simp
        try with_reducible rfl
      try simp only [Act.put, List.setIfInBounds_toArray, List.set_cons_zero, List.set_cons_succ]
      refine headH_takeS (i := 3) (v := ?_) 24 rfl (by kernel_rfl) (by kernel_rfl) (fun _ _ _ h => h) (Or.inl ⟨by rfl, ?_⟩) hHeld ?_
      rotate_left
      · intro w hSw
        (try dsimp only at hSw)
        go_simp
        try with_reducible rfl
      try simp only [Act.put, List.setIfInBounds_toArray, List.set_cons_zero, List.set_cons_succ]
      refine headH_takeS (i := 4) (v := ?_) 25 rfl (by kernel_rfl) (by kernel_rfl) (fun _ _ _ h => h) (Or.inl ⟨by rfl, ?_⟩) hHeld ?_
      rotate_left
      · intro w hSw
        (try dsimp only at hSw)
        go_simp
        try with_reducible rfl
      try simp only [Act.put, List.setIfInBounds_toArray, List.set_cons_zero, List.set_cons_succ]
      refine headH_all (rs := [5]) (by kernel_rfl) (by kernel_rfl) (headH_cons rfl (fun K hK => ?_) headH_nil)
      go_simp
      refine HN2.out.mono ?_
      rintro e w5 ⟨y, rfl, hy, _, hd5⟩
      obtain ⟨j0, j1⟩ := hy (by omega)
      obtain ⟨j, rfl⟩ := Int.eq_ofNat_of_zero_le j0
      have hj : j < l.length := by omega
      obtain ⟨f, hf⟩ := el hj
      have hdE := hdd.trans hd5
      have gf : MpAt w5 b3 (o3 + j * 6) f := ((G4.out j f hf).below (Below.drew (Below.refl _ w4))).keepS (far3 _ rfl) hd5.keep
      obtain ⟨f0, f1, f2, f3, f4, f5⟩ := gf
      have bzE := (bz4.below (Below.drew (Below.refl _ w4))).drawn (by omega) hd5
      have smE := (sm4.below (Below.drew (Below.refl _ w4))).drawn hin.ne hd5
      clear hy HN2 hdd hd5
      refine hK.out _ _ trivial (fun hHeldn => ?_)
      clear hK K hHeld
      have hHeld := hHeldn
      clear hHeldn
      try simp only [Act.put, List.setIfInBounds_toArray, List.set_cons_zero, List.set_cons_succ]
      refine headH_takeS (i := 8) (v := ?_) 2 rfl (by kernel_rfl) (by kernel_rfl) (fun _ _ _ h => h) (Or.inl ⟨by rfl, ?_⟩) hHeld ?_
      rotate_left
      · intro w hSw
        (try dsimp only at hSw)
        go_simp
        try with_reducible rfl
      try simp only [Act.put, List.setIfInBounds_toArray, List.set_cons_zero, List.set_cons_succ]
      refine headH_all (rs := [6]) (by kernel_rfl) (by kernel_rfl) (headH_cons rfl (fun K hK => ?_) headH_nil)
      go_simp
      refine hK.out _ _ trivial (fun hHeldn => ?_)
      clear hK K hHeld
      have hHeld := hHeldn
      clear hHeldn
      try simp only [Act.put, List.setIfInBounds_toArray, List.set_cons_zero, List.set_cons_succ]
      refine headH_all (rs := [7]) (by kernel_rfl) (by kernel_rfl) (headH_cons rfl (fun K hK => ?_) headH_nil)
      go_simp
      refine hK.out _ _ trivial (fun hHeldn => ?_)
      clear hK K hHeld
      have hHeld := hHeldn
      clear hHeldn
      try simp only [Act.put, List.setIfInBounds_toArray, List.set_cons_zero, List.set_cons_succ]
      refine headH_tail (by kernel_rfl) ?_
      clear hHeld
      obtain ⟨y0, y1, y2, y3, y4, y5⟩ := bzE.at.cells0
      have yf := bzE.free
      have ylt := bzE.lt
      have sm6 : SeeMaps ((((((w5.setCell ⟨w.heap.size, 0, none⟩ (.int .i64 f.p)).setCell ⟨w.heap.size, 1, none⟩ (.int .i64 f.a)).setCell ⟨w.heap.size, 2, none⟩ (.int .i64 f.b)).setCell ⟨w.heap.size, 3, none⟩ (.int .i64 f.c)).setCell ⟨w.heap.size, 4, none⟩ (.int .i64 f.d)).setCell ⟨w.heap.size, 5, none⟩ (.int .i64 f.e)) A2 ms :=
        smE.keep hin2 ((((((Keep.refl (fun k => k ≠ w.heap.size) w5).setCell (fun h => h rfl) _).setCell (fun h => h rfl) _).setCell (fun h => h rfl) _).setCell (fun h => h rfl) _).setCell (fun h => h rfl) _ |>.setCell (fun h => h rfl) _)
      have HF := Lib.hid (⟨sm6, nm, hin1, h7, hdE.set6 hlt (Nat.le_refl _) (.int .i64 f.p) (.int .i64 f.a) (.int .i64 f.b) (.int .i64 f.c) (.int .i64 f.d) (.int .i64 f.e)⟩ : SeeMaps _ A2 ms ∧ NilOk A2 c2 ∧ InS (fun k => k ≠ b ∧ w.heap.size ≤ k) A2 ∧ ms.length ≤ 7 ∧ Drawn w ((((((w5.setCell ⟨w.heap.size, 0, none⟩ (.int .i64 f.p)).setCell ⟨w.heap.size, 1, none⟩ (.int .i64 f.a)).setCell ⟨w.heap.size, 2, none⟩ (.int .i64 f.b)).setCell ⟨w.heap.size, 3, none⟩ (.int .i64 f.c)).setCell ⟨w.heap.size, 4, none⟩ (.int .i64 f.d)).setCell ⟨w.heap.size, 5, none⟩ (.int .i64 f.e)) b A c code)
      clear sm6 smE hin1 hin2 hin nm hdE
      go_wp2
      exact bodyPost_ret (v := .tuple #[.slice A2 ms.length c2, .agg #[.int .i64 f.p, .int .i64 f.a, .int .i64 f.b, .int .i64 f.c, .int .i64 f.d, .int .i64 f.e]]) (by simp [results, Tryz.results70, go_sem, y0, y1, y2, y3, y4, y5]) rfl ⟨A2, c2, ms, f, rfl, HF.out⟩
    · have nx : ¬ (0 : Int) < x := by omega
      have hd4' := hd.trans hd4
      have HSP := Lib.hid (l01Spoil_c w4 hd4'.src)
      unfold MvPost at HSP
      go_wp2_with fail
      refine HSP.out.mono ?_
      rintro e w5 ⟨f, rfl, _, hd5⟩
      have hdE := hd4'.trans hd5
      have bzE := (bz2.drawn (by omega) hd4).drawn (by omega) hd5
      have smE := (sm.drawn hin.ne hd4).drawn hin.ne hd5
      clear HSP hd5
      obtain ⟨y0, y1, y2, y3, y4, y5⟩ := bzE.at.cells0
      have yf := bzE.free
      have ylt := bzE.lt
      have sm6 : SeeMaps ((((((w5.setCell ⟨w.heap.size, 0, none⟩ (.int .i64 f.p)).setCell ⟨w.heap.size, 1, none⟩ (.int .i64 f.a)).setCell ⟨w.heap.size, 2, none⟩ (.int .i64 f.b)).setCell ⟨w.heap.size, 3, none⟩ (.int .i64 f.c)).setCell ⟨w.heap.size, 4, none⟩ (.int .i64 f.d)).setCell ⟨w.heap.size, 5, none⟩ (.int .i64 f.e)) A2 ms :=
        smE.keep hin2 ((((((Keep.refl (fun k => k ≠ w.heap.size) w5).setCell (fun h => h rfl) _).setCell (fun h => h rfl) _).setCell (fun h => h rfl) _).setCell (fun h => h rfl) _).setCell (fun h => h rfl) _ |>.setCell (fun h => h rfl) _)
      have HF := Lib.hid (⟨sm6, nm, hin1, h7, hdE.set6 hlt (Nat.le_refl _) (.int .i64 f.p) (.int .i64 f.a) (.int .i64 f.b) (.int .i64 f.c) (.int .i64 f.d) (.int .i64 f.e)⟩ : SeeMaps _ A2 ms ∧ NilOk A2 c2 ∧ InS (fun k => k ≠ b ∧ w.heap.size ≤ k) A2 ∧ ms.length ≤ 7 ∧ Drawn w ((((((w5.setCell ⟨w.heap.size, 0, none⟩ (.int .i64 f.p)).setCell ⟨w.heap.size, 1, none⟩ (.int .i64 f.a)).setCell ⟨w.heap.size, 2, none⟩ (.int .i64 f.b)).setCell ⟨w.heap.size, 3, none⟩ (.int .i64 f.c)).setCell ⟨w.heap.size, 4, none⟩ (.int .i64 f.d)).setCell ⟨w.heap.size, 5, none⟩ (.int .i64 f.e)) b A c code)
      clear sm6 smE hin1 hin2 hin nm hdE
      go_wp2
      exact bodyPost_ret (v := .tuple #[.slice A2 ms.length c2, .agg #[.int .i64 f.p, .int .i64 f.a, .int .i64 f.b, .int .i64 f.c, .int .i64 f.d, .int .i64 f.e]]) (by simp [results, Tryz.results70, go_sem, y0, y1, y2, y3, y4, y5]) rfl ⟨A2, c2, ms, f, rfl, HF.out⟩
  · have dq : (q == 0) = false := by simpa using hq
    clear hq
    have HSP := Lib.hid (l01Spoil_c w3 hd.src)
    unfold MvPost at HSP
    go_wp2_with fail
    refine HSP.out.mono ?_
    rintro e w5 ⟨f, rfl, _, hd5⟩
    have hdE := hd.trans hd5
    have bzE := (bz2).drawn (by omega) hd5
    have smE := (sm).drawn hin.ne hd5
    clear HSP hd5
    obtain ⟨y0, y1, y2, y3, y4, y5⟩ := bzE.at.cells0
    have yf := bzE.free
    have ylt := bzE.lt
    have sm6 : SeeMaps ((((((w5.setCell ⟨w.heap.size, 0, none⟩ (.int .i64 f.p)).setCell ⟨w.heap.size, 1, none⟩ (.int .i64 f.a)).setCell ⟨w.heap.size, 2, none⟩ (.int .i64 f.b)).setCell ⟨w.heap.size, 3, none⟩ (.int .i64 f.c)).setCell ⟨w.heap.size, 4, none⟩ (.int .i64 f.d)).setCell ⟨w.heap.size, 5, none⟩ (.int .i64 f.e)) A2 ms :=
      smE.keep hin2 ((((((Keep.refl (fun k => k ≠ w.heap.size) w5).setCell (fun h => h rfl) _).setCell (fun h => h rfl) _).setCell (fun h => h rfl) _).setCell (fun h => h rfl) _).setCell (fun h => h rfl) _ |>.setCell (fun h => h rfl) _)
    have HF := Lib.hid (⟨sm6, nm, hin1, h7, hdE.set6 hlt (Nat.le_refl _) (.int .i64 f.p) (.int .i64 f.a) (.int .i64 f.b) (.int .i64 f.c) (.int .i64 f.d) (.int .i64 f.e)⟩ : SeeMaps _ A2 ms ∧ NilOk A2 c2 ∧ InS (fun k => k ≠ b ∧ w.heap.size ≤ k) A2 ∧ ms.length ≤ 7 ∧ Drawn w ((((((w5.setCell ⟨w.heap.size, 0, none⟩ (.int .i64 f.p)).setCell ⟨w.heap.size, 1, none⟩ (.int .i64 f.a)).setCell ⟨w.heap.size, 2, none⟩ (.int .i64 f.b)).setCell ⟨w.heap.size, 3, none⟩ (.int .i64 f.c)).setCell ⟨w.heap.size, 4, none⟩ (.int .i64 f.d)).setCell ⟨w.heap.size, 5, none⟩ (.int .i64 f.e)) b A c code)
    clear sm6 smE hin1 hin2 hin nm hdE
    go_wp2
    exact bodyPost_ret (v := .tuple #[.slice A2 ms.length c2, .agg #[.int .i64 f.p, .int .i64 f.a, .int .i64 f.b, .int .i64 f.c, .int .i64 f.d, .int .i64 f.e]]) (by simp [results, Tryz.results70, go_sem, y0, y1, y2, y3, y4, y5]) rfl ⟨A2, c2, ms, f, rfl, HF.out⟩
theorem Drawn.newer {w w1 w2 : World} {b c : Nat} {A : Option Addr} {code : List Int} (h0 : Below w.heap.size w w1) (hb : w.heap.size ≤ b) (h : Drawn w1 w2 b A c code) : Below w.heap.size w w2 := h0.trans (h.keep.below h0.size fun k hk => by omega)
/-- a list and a map that a draw from a code hands back -/
def MdPost (w : World) (e : Ending) (w' : World) : Prop :=
  ∃ (A' : Option Addr) (c' : Nat) (ms : List Mp) (f : Mp), e = .returned (.tuple #[.slice A' ms.length c', .agg #[.int .i64 f.p, .int .i64 f.a, .int .i64 f.b, .int .i64 f.c, .int .i64 f.d, .int .i64 f.e]]) ∧ SeeMaps w' A' ms ∧ NilOk A' c' ∧ InS (fun k => w.heap.size < k) A' ∧ ms.length ≤ 7 ∧ Below w.heap.size w w'
set_option maxHeartbeats 8000000 in
set_option maxRecDepth 100000 in
theorem DrawIsRegularIn_c {c : Nat} {A : Option Addr} {code : List Int} (w : World) (h : SeeBytes w A code) (hl : code.length ≤ 4611686018427387904) :
    Calls Tryz.prog 39 #[.slice A code.length c] w (MdPost w) := by
  unfold MdPost
  obtain ⟨W1, hW1⟩ : ∃ W1, W1 = w.alloc (.cells #[.int .i64 0, .int .i64 0, .int .i64 0, .int .i64 0, .int .i64 0, .int .i64 0] 27) := ⟨_, rfl⟩
  have z1 : W1.heap.size = w.heap.size + 1 := by rw [hW1, World.size_alloc]
  have k1 : Below w.heap.size w W1 := by rw [hW1]; go_grown
  have bz : MpBox W1 w.heap.size Mp.z := by rw [hW1]; exact MpBox.new Mp.z 27 rfl
  have HFR := Lib.hid (l01From_c (c := c) W1 (h.below k1) hl)
  clear h
  go_enter Tryz.func39, Tryz.ntmps39
  go_wp2_with fail
  rw [← hW1]
  clear hW1
  refine HFR.out.mono ?_
  rintro e w2 ⟨b, rfl, hb, hsrc, hb2⟩
  clear HFR
  have hz2 := hb2.size
  have bz2 := bz.below hb2
  have HWI := Lib.hid (l04With_c w2 hsrc)
  unfold MwPost at HWI
  have hbl := btrans k1 hb2
  clear bz
  go_wp2_with fail
  refine HWI.out.mono ?_
  rintro e w3 ⟨A2, c2, ms, f, rfl, sm, nm, hin, h7, hd⟩
  clear HWI
  have hb3 : Below w.heap.size w w3 := Drawn.newer hbl (by omega) hd
  have bz3 := bz2.drawn (by omega) hd
  have hz3 := hd.keep.size
  obtain ⟨W4, hW4⟩ : ∃ W4, W4 = w3.alloc (.cells #[.int .i64 f.p, .int .i64 f.a, .int .i64 f.b, .int .i64 f.c, .int .i64 f.d, .int .i64 f.e] 27) := ⟨_, rfl⟩
  have z4 : W4.heap.size = w3.heap.size + 1 := by rw [hW4, World.size_alloc]
  have k4 : Below w3.heap.size w3 W4 := by rw [hW4]; exact kbelow _ _
  have bq : MpBox W4 w3.heap.size f := by rw [hW4]; exact MpBox.new f 27 rfl
  have hbE0 : Below w.heap.size w W4 := btrans hb3 k4
  have bz4 := bz3.below k4
  have sm4 := sm.below k4
  have hin2 : InS (fun k => k ≠ w.heap.size) A2 := hin.mono fun k hk => by have := hk.2; omega
  have hin3 : InS (fun k => w.heap.size < k) A2 := hin.mono fun k hk => by have := hk.2; omega
  obtain ⟨q0, q1, q2, q3, q4, q5⟩ := bq.at.cells0
  have hbE : Below w.heap.size w W4.drew := hbE0.drew
  have bzE : MpBox W4.drew w.heap.size Mp.z := bz4.below (Below.drew (Below.refl _ _))
  have smE : SeeMaps W4.drew A2 ms := sm4.below (Below.drew (Below.refl _ _))
  clear sm hin bz2 bz3 bz4 sm4 hd bq
  go_wp2
  rw [← hW4]
  clear hW4
  refine wp_region_headS 3 (fun w' => w'.cell? ⟨w3.heap.size, 0, none⟩ = some (.int .i64 f.p) ∧ w'.cell? ⟨w3.heap.size, 1, none⟩ = some (.int .i64 f.a) ∧ w'.cell? ⟨w3.heap.size, 2, none⟩ = some (.int .i64 f.b) ∧ w'.cell? ⟨w3.heap.size, 3, none⟩ = some (.int .i64 f.c) ∧ w'.cell? ⟨w3.heap.size, 4, none⟩ = some (.int .i64 f.d) ∧ w'.cell? ⟨w3.heap.size, 5, none⟩ = some (.int .i64 f.e)) (by kernel_rfl) (by kernel_rfl) ⟨q0, q1, q2, q3, q4, q5⟩ (fun hHeld => ?_)
  simp only [List.drop]
  refine headH_takeS (i := 0) (v := ?_) 12 rfl (by kernel_rfl) (by kernel_rfl) (fun _ _ _ h => h) (Or.inl ⟨by rfl, ?_⟩) hHeld ?_
  rotate_left
  · intro w hSw
    (try dsimp only at hSw)
    go_simp
    try with_reducible rfl
  try simp only [Act.put, List.setIfInBounds_toArray, List.set_cons_zero, List.set_cons_succ]
  refine headH_takeS (i := 1) (v := ?_) 13 rfl (by kernel_rfl) (by kernel_rfl) (fun _ _ _ h => h) (Or.inl ⟨by rfl, ?_⟩) hHeld ?_
  rotate_left
  · intro w hSw
    (try dsimp only at hSw)
    go_simp
    try with_reducible rfl
  try simp only [Act.put, List.setIfInBounds_toArray, List.set_cons_zero, List.set_cons_succ]
  refine headH_takeS (i := 2) (v := ?_) 2 rfl (by kernel_rfl) (by kernel_rfl) (fun _ _ _ h => h) (Or.inl ⟨by rfl, ?_⟩) hHeld ?_
  rotate_left
  · intro w hSw
    (try dsimp only at hSw)
    go_simp
    try with_reducible rfl
  try simp only [Act.put, List.setIfInBounds_toArray, List.set_cons_zero, List.set_cons_succ]
  refine headH_tail (by kernel_rfl) ?_
  clear hHeld
  obtain ⟨W5, hW5⟩ : ∃ W5, W5 = W4.drew := ⟨_, rfl⟩
  rw [← hW5] at hbE bzE smE ⊢
  clear hW5
  obtain ⟨y0, y1, y2, y3, y4, y5⟩ := bzE.at.cells0
  have yf := bzE.free
  have ylt := bzE.lt
  have sm6 : SeeMaps ((((((W5.setCell ⟨w.heap.size, 0, none⟩ (.int .i64 f.p)).setCell ⟨w.heap.size, 1, none⟩ (.int .i64 f.a)).setCell ⟨w.heap.size, 2, none⟩ (.int .i64 f.b)).setCell ⟨w.heap.size, 3, none⟩ (.int .i64 f.c)).setCell ⟨w.heap.size, 4, none⟩ (.int .i64 f.d)).setCell ⟨w.heap.size, 5, none⟩ (.int .i64 f.e)) A2 ms :=
    smE.keep hin2 ((((((Keep.refl (fun k => k ≠ w.heap.size) W5).setCell (fun h => h rfl) _).setCell (fun h => h rfl) _).setCell (fun h => h rfl) _).setCell (fun h => h rfl) _).setCell (fun h => h rfl) _ |>.setCell (fun h => h rfl) _)
  have hb6 : Below w.heap.size w ((((((W5.setCell ⟨w.heap.size, 0, none⟩ (.int .i64 f.p)).setCell ⟨w.heap.size, 1, none⟩ (.int .i64 f.a)).setCell ⟨w.heap.size, 2, none⟩ (.int .i64 f.b)).setCell ⟨w.heap.size, 3, none⟩ (.int .i64 f.c)).setCell ⟨w.heap.size, 4, none⟩ (.int .i64 f.d)).setCell ⟨w.heap.size, 5, none⟩ (.int .i64 f.e)) := Below.setCell (Below.setCell (Below.setCell (Below.setCell (Below.setCell (Below.setCell hbE (Nat.le_refl _) _) (Nat.le_refl _) _) (Nat.le_refl _) _) (Nat.le_refl _) _) (Nat.le_refl _) _) (Nat.le_refl _) _
  have HF := Lib.hid (⟨sm6, nm, hin3, h7, hb6⟩ : SeeMaps _ A2 ms ∧ NilOk A2 c2 ∧ InS (fun k => w.heap.size < k) A2 ∧ ms.length ≤ 7 ∧ Below w.heap.size w ((((((W5.setCell ⟨w.heap.size, 0, none⟩ (.int .i64 f.p)).setCell ⟨w.heap.size, 1, none⟩ (.int .i64 f.a)).setCell ⟨w.heap.size, 2, none⟩ (.int .i64 f.b)).setCell ⟨w.heap.size, 3, none⟩ (.int .i64 f.c)).setCell ⟨w.heap.size, 4, none⟩ (.int .i64 f.d)).setCell ⟨w.heap.size, 5, none⟩ (.int .i64 f.e)))
  clear sm6 smE hin2 hin3 nm hb6 hbE
  go_wp2
  exact bodyPost_ret (v := .tuple #[.slice A2 ms.length c2, .agg #[.int .i64 f.p, .int .i64 f.a, .int .i64 f.b, .int .i64 f.c, .int .i64 f.d, .int .i64 f.e]]) (by simp [results, Tryz.results39, go_sem, y0, y1, y2, y3, y4, y5]) rfl ⟨A2, c2, ms, f, rfl, HF.out⟩
set_option maxHeartbeats 8000000 in
set_option maxRecDepth 100000 in
theorem DrawInversesIn_c {c : Nat} {A : Option Addr} {code : List Int} (w : World) (h : SeeBytes w A code) (hl : code.length ≤ 4611686018427387904) :
    Calls Tryz.prog 6 #[.slice A code.length c] w (MdPost w) := by
  unfold MdPost
  obtain ⟨W1, hW1⟩ : ∃ W1, W1 = w.alloc (.cells #[.int .i64 0, .int .i64 0, .int .i64 0, .int .i64 0, .int .i64 0, .int .i64 0] 27) := ⟨_, rfl⟩
  have z1 : W1.heap.size = w.heap.size + 1 := by rw [hW1, World.size_alloc]
  have k1 : Below w.heap.size w W1 := by rw [hW1]; go_grown
  have bz : MpBox W1 w.heap.size Mp.z := by rw [hW1]; exact MpBox.new Mp.z 27 rfl
  have HRI := Lib.hid (DrawIsRegularIn_c (c := c) W1 (h.below k1) hl)
  unfold MdPost at HRI
  clear h
  go_enter Tryz.func6, Tryz.ntmps6
  go_wp2_with fail
  rw [← hW1]
  clear hW1
  refine HRI.out.mono ?_
  rintro e w2 ⟨A2, c2, ms, f, rfl, smE, nm, hin, h7, hb2⟩
  clear HRI
  have hbE := btrans k1 hb2
  have bzE := bz.below hb2
  have hin2 : InS (fun k => k ≠ w.heap.size) A2 := hin.mono fun k hk => by omega
  have hin3 : InS (fun k => w.heap.size < k) A2 := hin.mono fun k hk => by omega
  clear hin bz
  obtain ⟨y0, y1, y2, y3, y4, y5⟩ := bzE.at.cells0
  have yf := bzE.free
  have ylt := bzE.lt
  have sm6 : SeeMaps ((((((w2.setCell ⟨w.heap.size, 0, none⟩ (.int .i64 f.p)).setCell ⟨w.heap.size, 1, none⟩ (.int .i64 f.a)).setCell ⟨w.heap.size, 2, none⟩ (.int .i64 f.b)).setCell ⟨w.heap.size, 3, none⟩ (.int .i64 f.c)).setCell ⟨w.heap.size, 4, none⟩ (.int .i64 f.d)).setCell ⟨w.heap.size, 5, none⟩ (.int .i64 f.e)) A2 ms :=
    smE.keep hin2 ((((((Keep.refl (fun k => k ≠ w.heap.size) w2).setCell (fun h => h rfl) _).setCell (fun h => h rfl) _).setCell (fun h => h rfl) _).setCell (fun h => h rfl) _).setCell (fun h => h rfl) _ |>.setCell (fun h => h rfl) _)
  have hb6 : Below w.heap.size w ((((((w2.setCell ⟨w.heap.size, 0, none⟩ (.int .i64 f.p)).setCell ⟨w.heap.size, 1, none⟩ (.int .i64 f.a)).setCell ⟨w.heap.size, 2, none⟩ (.int .i64 f.b)).setCell ⟨w.heap.size, 3, none⟩ (.int .i64 f.c)).setCell ⟨w.heap.size, 4, none⟩ (.int .i64 f.d)).setCell ⟨w.heap.size, 5, none⟩ (.int .i64 f.e)) := Below.setCell (Below.setCell (Below.setCell (Below.setCell (Below.setCell (Below.setCell hbE (Nat.le_refl _) _) (Nat.le_refl _) _) (Nat.le_refl _) _) (Nat.le_refl _) _) (Nat.le_refl _) _) (Nat.le_refl _) _
  have HF := Lib.hid (⟨sm6, nm, hin3, h7, hb6⟩ : SeeMaps _ A2 ms ∧ NilOk A2 c2 ∧ InS (fun k => w.heap.size < k) A2 ∧ ms.length ≤ 7 ∧ Below w.heap.size w ((((((w2.setCell ⟨w.heap.size, 0, none⟩ (.int .i64 f.p)).setCell ⟨w.heap.size, 1, none⟩ (.int .i64 f.a)).setCell ⟨w.heap.size, 2, none⟩ (.int .i64 f.b)).setCell ⟨w.heap.size, 3, none⟩ (.int .i64 f.c)).setCell ⟨w.heap.size, 4, none⟩ (.int .i64 f.d)).setCell ⟨w.heap.size, 5, none⟩ (.int .i64 f.e)))
  clear sm6 smE hin2 hin3 nm hb6 hbE
  go_wp2
  exact bodyPost_ret (v := .tuple #[.slice A2 ms.length c2, .agg #[.int .i64 f.p, .int .i64 f.a, .int .i64 f.b, .int .i64 f.c, .int .i64 f.d, .int .i64 f.e]]) (by simp [results, Tryz.results6, go_sem, y0, y1, y2, y3, y4, y5]) rfl ⟨A2, c2, ms, f, rfl, HF.out⟩
set_option maxHeartbeats 8000000 in
set_option maxRecDepth 100000 in
theorem DrawIdealOf_c {c : Nat} {A : Option Addr} {code : List Int} (w : World) (h : SeeBytes w A code) (hl : code.length ≤ 4611686018427387904) :
    Calls Tryz.prog 22 #[.slice A code.length c] w (MdPost w) := by
  unfold MdPost
  obtain ⟨W1, hW1⟩ : ∃ W1, W1 = w.alloc (.cells #[.int .i64 0, .int .i64 0, .int .i64 0, .int .i64 0, .int .i64 0, .int .i64 0] 27) := ⟨_, rfl⟩
  have z1 : W1.heap.size = w.heap.size + 1 := by rw [hW1, World.size_alloc]
  have k1 : Below w.heap.size w W1 := by rw [hW1]; go_grown
  have bz : MpBox W1 w.heap.size Mp.z := by rw [hW1]; exact MpBox.new Mp.z 27 rfl
  have HRI := Lib.hid (DrawIsRegularIn_c (c := c) W1 (h.below k1) hl)
  unfold MdPost at HRI
  clear h
  go_enter Tryz.func22, Tryz.ntmps22
  go_wp2_with fail
  rw [← hW1]
  clear hW1
  refine HRI.out.mono ?_
  rintro e w2 ⟨A2, c2, ms, f, rfl, smE, nm, hin, h7, hb2⟩
  clear HRI
  have hbE := btrans k1 hb2
  have bzE := bz.below hb2
  have hin2 : InS (fun k => k ≠ w.heap.size) A2 := hin.mono fun k hk => by omega
  have hin3 : InS (fun k => w.heap.size < k) A2 := hin.mono fun k hk => by omega
  clear hin bz
  obtain ⟨y0, y1, y2, y3, y4, y5⟩ := bzE.at.cells0
  have yf := bzE.free
  have ylt := bzE.lt
  have sm6 : SeeMaps ((((((w2.setCell ⟨w.heap.size, 0, none⟩ (.int .i64 f.p)).setCell ⟨w.heap.size, 1, none⟩ (.int .i64 f.a)).setCell ⟨w.heap.size, 2, none⟩ (.int .i64 f.b)).setCell ⟨w.heap.size, 3, none⟩ (.int .i64 f.c)).setCell ⟨w.heap.size, 4, none⟩ (.int .i64 f.d)).setCell ⟨w.heap.size, 5, none⟩ (.int .i64 f.e)) A2 ms :=
    smE.keep hin2 ((((((Keep.refl (fun k => k ≠ w.heap.size) w2).setCell (fun h => h rfl) _).setCell (fun h => h rfl) _).setCell (fun h => h rfl) _).setCell (fun h => h rfl) _).setCell (fun h => h rfl) _ |>.setCell (fun h => h rfl) _)
  have hb6 : Below w.heap.size w ((((((w2.setCell ⟨w.heap.size, 0, none⟩ (.int .i64 f.p)).setCell ⟨w.heap.size, 1, none⟩ (.int .i64 f.a)).setCell ⟨w.heap.size, 2, none⟩ (.int .i64 f.b)).setCell ⟨w.heap.size, 3, none⟩ (.int .i64 f.c)).setCell ⟨w.heap.size, 4, none⟩ (.int .i64 f.d)).setCell ⟨w.heap.size, 5, none⟩ (.int .i64 f.e)) := Below.setCell (Below.setCell (Below.setCell (Below.setCell (Below.setCell (Below.setCell hbE (Nat.le_refl _) _) (Nat.le_refl _) _) (Nat.le_refl _) _) (Nat.le_refl _) _) (Nat.le_refl _) _) (Nat.le_refl _) _
  have HF := Lib.hid (⟨sm6, nm, hin3, h7, hb6⟩ : SeeMaps _ A2 ms ∧ NilOk A2 c2 ∧ InS (fun k => w.heap.size < k) A2 ∧ ms.length ≤ 7 ∧ Below w.heap.size w ((((((w2.setCell ⟨w.heap.size, 0, none⟩ (.int .i64 f.p)).setCell ⟨w.heap.size, 1, none⟩ (.int .i64 f.a)).setCell ⟨w.heap.size, 2, none⟩ (.int .i64 f.b)).setCell ⟨w.heap.size, 3, none⟩ (.int .i64 f.c)).setCell ⟨w.heap.size, 4, none⟩ (.int .i64 f.d)).setCell ⟨w.heap.size, 5, none⟩ (.int .i64 f.e)))
  clear sm6 smE hin2 hin3 nm hb6 hbE
  go_wp2
  exact bodyPost_ret (v := .tuple #[.slice A2 ms.length c2, .agg #[.int .i64 f.p, .int .i64 f.a, .int .i64 f.b, .int .i64 f.c, .int .i64 f.d, .int .i64 f.e]]) (by simp [results, Tryz.results22, go_sem, y0, y1, y2, y3, y4, y5]) rfl ⟨A2, c2, ms, f, rfl, HF.out⟩
set_option maxHeartbeats 4000000 in
theorem DrawRegularElements_c {c : Nat} {A : Option Addr} {code : List Int} (w : World) (h : SeeBytes w A code) (hl : code.length ≤ 4611686018427387904) :
    Calls Tryz.prog 12 #[.slice A code.length c] w fun e w' => ∃ (A' : Option Addr) (c' : Nat) (ms : List Mp), e = .returned (.slice A' ms.length c') ∧ SeeMaps w' A' ms ∧ NilOk A' c' ∧ ms.length ≤ 7 ∧ Below w.heap.size w w' := by
  have HFR := Lib.hid (l01From_c (c := c) w h hl)
  clear h
  go_enter Tryz.func12, Tryz.ntmps12
  go_wp2_with fail
  refine HFR.out.mono ?_
  rintro e w2 ⟨b, rfl, hb, hsrc, hb2⟩
  clear HFR
  have HDR := Lib.hid (l04Draw_c w2 hsrc)
  unfold MqPost at HDR
  go_wp2_with fail
  refine HDR.out.mono ?_
  rintro e w3 ⟨A3, c3, ms3, rfl, sm, nm, _, h7, hd3⟩
  have HF := Lib.hid (⟨sm, nm, h7, Drawn.newer hb2 hb hd3⟩ : SeeMaps w3 A3 ms3 ∧ NilOk A3 c3 ∧ ms3.length ≤ 7 ∧ Below w.heap.size w w3)
  clear HDR sm nm hd3
  go_wp2
  go_returns
  exact ⟨A3, c3, ms3, rfl, HF.out⟩
/-! The draw of a list and two maps: 'DrawIsBelow'. (Printed by tools/gen_draw4b.py.) -/
/-- a list and two maps that a draw from a code hands back -/
def MbPost (w : World) (e : Ending) (w' : World) : Prop :=
  ∃ (A' : Option Addr) (c' : Nat) (ms : List Mp) (f g : Mp), e = .returned (.tuple #[.slice A' ms.length c', .agg #[.int .i64 f.p, .int .i64 f.a, .int .i64 f.b, .int .i64 f.c, .int .i64 f.d, .int .i64 f.e], .agg #[.int .i64 g.p, .int .i64 g.a, .int .i64 g.b, .int .i64 g.c, .int .i64 g.d, .int .i64 g.e]]) ∧ SeeMaps w' A' ms ∧ NilOk A' c' ∧ ms.length ≤ 7 ∧ Below w.heap.size w w'
theorem bel_pos {ms own : List Mp} {h : Mp} (e : RElementsBelow ms h = (own, 0)) : 0 < own.length ∧ own.length ≤ 300 := by
  by_cases hc : moC ms [h] = 0
  · have hm := MonR.of hc
    have hh := hm.mem h (by simp)
    have hid : idM (ptsL ms) ∈ elsOf ms := id_mem hm.list
    have hN := hm.clo.all h hh
    have iN := hm.clo.all _ hid
    unfold RElementsBelow ROf at e
    rw [if_pos hc] at e
    have e1 : (elsOf ms).filter (fun x => belowB (elsOf ms) x h) = own := congrArg Prod.fst e
    rw [← e1]
    refine ⟨List.length_pos_of_mem (List.mem_filter.2 ⟨hh, ?_⟩), Nat.le_trans (List.length_filter_le _ _) hm.len⟩
    have hi : idemB (idM (ptsL ms)) = true := by unfold idemB; exact decide_eq_true (mulM_id_left iN)
    unfold belowB
    rw [Bool.and_eq_true, List.any_eq_true, List.any_eq_true]
    exact ⟨⟨_, hid, by unfold lB; rw [hi, mulM_id_left hN]; simp⟩, ⟨_, hid, by unfold rB; rw [hi, mulM_id_right hN]; simp⟩⟩
  · unfold RElementsBelow ROf at e
    rw [if_neg hc] at e
    exact absurd (congrArg Prod.snd e) hc
theorem MpBox.keepS {S : Nat → Prop} {w w1 : World} {b : Nat} {m : Mp} (h : MpBox w b m) (hs : S b) (hk : Keep S w w1) : MpBox w1 b m := by
  obtain ⟨t, h⟩ := h
  exact ⟨t, (hk.block b (Array.getElem?_eq_some_iff.1 h).1 hs).trans h⟩
set_option maxHeartbeats 16000000 in
set_option maxRecDepth 100000 in
theorem DrawIsBelow_c {c : Nat} {A : Option Addr} {code : List Int} (w : World) (h : SeeBytes w A code) (hl : code.length ≤ 4611686018427387904) :
    Calls Tryz.prog 33 #[.slice A code.length c] w (MbPost w) := by
  unfold MbPost
  obtain ⟨W1, hW1⟩ : ∃ W1, W1 = (w.alloc (.cells #[.int .i64 0, .int .i64 0, .int .i64 0, .int .i64 0, .int .i64 0, .int .i64 0] 27)).alloc (.cells #[.int .i64 0, .int .i64 0, .int .i64 0, .int .i64 0, .int .i64 0, .int .i64 0] 27) := ⟨_, rfl⟩
  have z1 : W1.heap.size = w.heap.size + 2 := by rw [hW1, World.size_alloc, World.size_alloc]
  have k1 : Below w.heap.size w W1 := by rw [hW1]; go_grown
  have bz : MpBox W1 w.heap.size Mp.z := by rw [hW1]; exact (MpBox.new Mp.z 27 rfl).keep _
  have bx : MpBox W1 (w.heap.size + 1) Mp.z := by rw [hW1]; exact MpBox.new Mp.z 27 (by simp)
  have HFR := Lib.hid (l01From_c (c := c) W1 (h.below k1) hl)
  clear h
  go_enter Tryz.func33, Tryz.ntmps33
  go_wp2_with fail
  rw [← hW1]
  clear hW1
  refine HFR.out.mono ?_
  rintro e w2 ⟨b, rfl, hb, hsrc, hb2⟩
  clear HFR
  have hz2 := hb2.size
  have hlt2 := hsrc.lt
  have hbl2 := btrans k1 hb2
  have HWI := Lib.hid (l04With_c w2 hsrc)
  unfold MwPost at HWI
  go_wp2_with fail
  refine HWI.out.mono ?_
  rintro e w2' ⟨A2, c2, ms, g, rfl, sm, nm, hin, h7, hd⟩
  clear HWI
  have hz3 := hd.keep.size
  obtain ⟨w3, hW4⟩ : ∃ w3, w3 = w2'.alloc (.cells #[.int .i64 g.p, .int .i64 g.a, .int .i64 g.b, .int .i64 g.c, .int .i64 g.d, .int .i64 g.e] 27) := ⟨_, rfl⟩
  have z4 : w3.heap.size = w2'.heap.size + 1 := by rw [hW4, World.size_alloc]
  have k4 : Below w2'.heap.size w2' w3 := by rw [hW4]; exact kbelow _ _
  obtain ⟨bg, hbg⟩ : ∃ bg, bg = w2'.heap.size := ⟨_, rfl⟩
  have bg3 : MpBox w3 bg g := by rw [hW4]; exact MpBox.new g 27 hbg
  have hbl3 : Below w.heap.size w w3 := btrans (Drawn.newer hbl2 (by omega) hd) k4
  have bz3 := ((bz.below hb2).drawn (by omega) hd).below k4
  have bx3 := ((bx.below hb2).drawn (by omega) hd).below k4
  have sm3 := sm.below k4
  have d3 : Drawn w3 w3 b A c code := Drawn.refl (hd.src.below k4)
  have hlt3 : b < w3.heap.size := d3.src.lt
  have hin2 : InS (fun k => k ≠ w.heap.size ∧ k ≠ w.heap.size + 1) A2 := hin.mono fun k hk => by have := hk.2; omega
  have hbgb : bg ≠ b := by omega
  have hbgw : w.heap.size + 1 < bg := by omega
  obtain ⟨g0, g1, g2, g3, g4, g5⟩ := bg3.at.cells0
  obtain ⟨⟨own0, q0⟩, hr⟩ : ∃ r, RElementsBelow ms g = r := ⟨_, rfl⟩
  have hEB := specElementsBelow_l (f := g) (c := c2) sm3 (by omega) nm
  rw [hr] at hEB
  have HEB := Lib.hid hEB
  have HRB := Lib.hid hr
  clear hr hEB sm bz bx hd
  go_upto_region 3 with fail
  rw [← hW4, ← hbg]
  clear hW4 hbg
  go_wp2_with fail
  refine HEB.out.mono ?_
  rintro e w5 ⟨v5, rfl, own, hb5⟩
  clear HEB g0 g1 g2 g3 g4 g5
  obtain ⟨A5, c5, rfl, _⟩ := own.see
  have d5 := d3.below hb5
  have bg5 := bg3.below hb5
  by_cases hq : q0 = 0
  · subst hq
    have HN := Lib.hid (l01Next_c 2 w5 d5.src (by omega))
    go_wp2_with fail
    refine HN.out.mono ?_
    rintro e w6 ⟨x, rfl, _, _, hd6⟩
    clear HN
    have d6 := d5.trans hd6
    have bgN := bg5.drawn hbgb hd6
    by_cases hx : x = 0
    · subst hx
      obtain ⟨lpos, llen⟩ := bel_pos HRB.out
      obtain ⟨b3, o3, rfl, g3⟩ := own.see' (List.ne_nil_of_length_pos lpos)
      have far3 : ∀ a, (some ⟨b3, o3, none⟩ : Option Addr) = some a → a.block ≠ b := fun a ha => (own.far hlt3) a ha
      have g4 : ∀ k m, own0[k]? = some m → MpAt w6 b3 (o3 + k * 6) m := fun k m hk => (g3 k m hk).keepS (far3 _ rfl) hd6.keep
      have G3 := Lib.hid g4
      clear g3 g4 own hd6 d5 bg5
      have HN2 := Lib.hid (l01Next_c (own0.length : Int) w6.drew (d6.below (Below.drew (Below.refl _ w6))).src (by omega))
      have hdd : Drawn w3 w6.drew b A c code := d6.below (Below.drew (Below.refl _ w6))
      have bgd := bgN.below (Below.drew (Below.refl _ w6))
      obtain ⟨s0, s1, s2, s3, s4, s5⟩ := bgd.at.cells0
      obtain ⟨r0, r1, r2, r3, r4, r5⟩ := bgN.at.cells0
      go_wp2
      refine wp_region_headS 11 (fun w' => w'.cell? ⟨bg, 0, none⟩ = some (.int .i64 g.p) ∧ w'.cell? ⟨bg, 1, none⟩ = some (.int .i64 g.a) ∧ w'.cell? ⟨bg, 2, none⟩ = some (.int .i64 g.b) ∧ w'.cell? ⟨bg, 3, none⟩ = some (.int .i64 g.c) ∧ w'.cell? ⟨bg, 4, none⟩ = some (.int .i64 g.d) ∧ w'.cell? ⟨bg, 5, none⟩ = some (.int .i64 g.e)) (by kernel_rfl) (by kernel_rfl) ⟨r0, r1, r2, r3, r4, r5⟩ (fun hHeld => ?_)
      simp only [List.drop]
      refine headH_takeS (i := 0) (v := ?_) 32 rfl (by kernel_rfl) (by kernel_rfl) (fun _ _ _ h => h) (Or.inl ⟨by rfl, ?_⟩) hHeld ?_
      rotate_left
      · intro w hSw
        (try dsimp only at hSw)
        go_simp
        try with_reducible rfl
      try simp only [Act.put, List.setIfInBounds_toArray, List.set_cons_zero, List.set_cons_succ]
      refine headH_takeS (i := 1) (v := ?_) 33 rfl (by kernel_rfl) (by kernel_rfl) (fun _ _ _ h => h) (Or.inl ⟨by rfl, ?_⟩) hHeld ?_
      rotate_left
      · intro w hSw
        (try dsimp only at hSw)
        go_simp
        try with_reducible rfl
      try simp only [Act.put, List.setIfInBounds_toArray, List.set_cons_zero, List.set_cons_succ]
      refine headH_takeS (i := 2) (v := ?_) 34 rfl (by kernel_rfl) (by kernel_rfl) (fun _ _ _ h => h) (Or.inl ⟨by rfl, ?_⟩) hHeld ?_
      rotate_left
      · intro w hSw
        (try dsimp only at hSw)
        go_simp
        try with_reducible rfl
      try simp only [Act.put, List.setIfInBounds_toArray, List.set_cons_zero, List.set_cons_succ]
      refine headH_takeS (i := 3) (v := ?_) 35 rfl (by kernel_rfl) (by kernel_rfl) (fun _ _ _ h => h) (Or.inl ⟨by rfl, ?_⟩) hHeld ?_
      rotate_left
      · intro w hSw
        (try dsimp only at hSw)
        go_simp
        try with_reducible rfl
      try simp only [Act.put, List.setIfInBounds_toArray, List.set_cons_zero, List.set_cons_succ]
      refine headH_takeS (i := 4) (v := ?_) 36 rfl (by kernel_rfl) (by kernel_rfl) (fun _ _ _ h => h) (Or.inl ⟨by rfl, ?_⟩) hHeld ?_
      rotate_left
      · intro w hSw
        (try dsimp only at hSw)
        go_simp
        try with_reducible rfl
      try simp only [Act.put, List.setIfInBounds_toArray, List.set_cons_zero, List.set_cons_succ]
      refine headH_takeS (i := 8) (v := ?_) 40 rfl (by kernel_rfl) (by kernel_rfl) (fun _ _ _ h => h) (Or.inl ⟨by rfl, ?_⟩) hHeld ?_
      rotate_left
      · intro w hSw
        (try dsimp only at hSw)
        go_simp
        try with_reducible rfl
      try simp only [Act.put, List.setIfInBounds_toArray, List.set_cons_zero, List.set_cons_succ]
      refine headH_all (rs := [5]) (by kernel_rfl) (by kernel_rfl) (headH_cons rfl (fun K hK => ?_) headH_nil)
      go_simp
      refine HN2.out.mono ?_
      rintro e w8 ⟨y, rfl, hy, _, hd8⟩
      obtain ⟨j0, j1⟩ := hy (by omega)
      obtain ⟨j, rfl⟩ := Int.eq_ofNat_of_zero_le j0
      have hj : j < own0.length := by omega
      obtain ⟨f, hf⟩ := el hj
      have hdE := hdd.trans hd8
      have gf : MpAt w8 b3 (o3 + j * 6) f := ((G3.out j f hf).below (Below.drew (Below.refl _ w6))).keepS (far3 _ rfl) hd8.keep
      obtain ⟨f0, f1, f2, f3, f4, f5⟩ := gf
      have bg8 := bgd.drawn (by omega) hd8
      obtain ⟨v0, v1, v2, v3, v4, v5⟩ := bg8.at.cells0
      clear hy HN2 hdd hd8
      refine hK.out _ _ ⟨v0, v1, v2, v3, v4, v5⟩ (fun hHeldn => ?_)
      clear hK K hHeld
      have hHeld := hHeldn
      clear hHeldn
      try simp only [Act.put, List.setIfInBounds_toArray, List.set_cons_zero, List.set_cons_succ]
      refine headH_takeS (i := 9) (v := ?_) 2 rfl (by kernel_rfl) (by kernel_rfl) (fun _ _ _ h => h) (Or.inl ⟨by rfl, ?_⟩) hHeld ?_
      rotate_left
      · intro w hSw
        (try dsimp only at hSw)
        go_simp
        try with_reducible rfl
      try simp only [Act.put, List.setIfInBounds_toArray, List.set_cons_zero, List.set_cons_succ]
      refine headH_all (rs := [6]) (by kernel_rfl) (by kernel_rfl) (headH_cons rfl (fun K hK => ?_) headH_nil)
      go_simp
      refine hK.out _ _ ⟨v0, v1, v2, v3, v4, v5⟩ (fun hHeldn => ?_)
      clear hK K hHeld
      have hHeld := hHeldn
      clear hHeldn
      try simp only [Act.put, List.setIfInBounds_toArray, List.set_cons_zero, List.set_cons_succ]
      refine headH_all (rs := [7]) (by kernel_rfl) (by kernel_rfl) (headH_cons rfl (fun K hK => ?_) headH_nil)
      go_simp
      refine hK.out _ _ ⟨v0, v1, v2, v3, v4, v5⟩ (fun hHeldn => ?_)
      clear hK K hHeld
      have hHeld := hHeldn
      clear hHeldn
      try simp only [Act.put, List.setIfInBounds_toArray, List.set_cons_zero, List.set_cons_succ]
      have bz8 := bz3.drawn (by omega) hdE
      have bx8 := bx3.drawn (by omega) hdE
      have sm8 := sm3.drawn hin.ne hdE
      have hb8 := Drawn.newer hbl3 (by omega) hdE
      obtain ⟨y0, y1, y2, y3, y4, y5⟩ := bz8.at.cells0
      have yf := bz8.free
      have ylt := bz8.lt
      refine headH_all (rs := [10]) (by kernel_rfl) (by kernel_rfl) (headH_cons rfl (fun K hK => ?_) headH_nil)
      go_simp
      have kp9 : Keep (fun k => k ≠ w.heap.size) w8 ((((((w8.setCell ⟨w.heap.size, 0, none⟩ (.int .i64 f.p)).setCell ⟨w.heap.size, 1, none⟩ (.int .i64 f.a)).setCell ⟨w.heap.size, 2, none⟩ (.int .i64 f.b)).setCell ⟨w.heap.size, 3, none⟩ (.int .i64 f.c)).setCell ⟨w.heap.size, 4, none⟩ (.int .i64 f.d)).setCell ⟨w.heap.size, 5, none⟩ (.int .i64 f.e)) := (((((((Keep.refl (fun k => k ≠ w.heap.size) w8).setCell (fun h => h rfl) _).setCell (fun h => h rfl) _).setCell (fun h => h rfl) _).setCell (fun h => h rfl) _).setCell (fun h => h rfl) _).setCell (fun h => h rfl) _)
      have bg9 := (bg8.at).keepS (S := fun k => k ≠ w.heap.size) (by omega) kp9
      obtain ⟨u0, u1, u2, u3, u4, u5⟩ := bg9.cells0
      have bx9 := bx8.keepS (S := fun k => k ≠ w.heap.size) (by omega) kp9
      have sm9 := sm8.keep (hin2.mono fun k hk => hk.1) kp9
      have hb9 : Below w.heap.size w ((((((w8.setCell ⟨w.heap.size, 0, none⟩ (.int .i64 f.p)).setCell ⟨w.heap.size, 1, none⟩ (.int .i64 f.a)).setCell ⟨w.heap.size, 2, none⟩ (.int .i64 f.b)).setCell ⟨w.heap.size, 3, none⟩ (.int .i64 f.c)).setCell ⟨w.heap.size, 4, none⟩ (.int .i64 f.d)).setCell ⟨w.heap.size, 5, none⟩ (.int .i64 f.e)) := (Below.setCell (Below.setCell (Below.setCell (Below.setCell (Below.setCell (Below.setCell hb8 (Nat.le_refl _) _) (Nat.le_refl _) _) (Nat.le_refl _) _) (Nat.le_refl _) _) (Nat.le_refl _) _) (Nat.le_refl _) _)
      have bz9 := bz8.store f
      refine hK.out _ _ ⟨u0, u1, u2, u3, u4, u5⟩ (fun hHeldn => ?_)
      clear hK K hHeld
      have hHeld := hHeldn
      clear hHeldn
      try simp only [Act.put, List.setIfInBounds_toArray, List.set_cons_zero, List.set_cons_succ]
      refine headH_tail (by kernel_rfl) ?_
      clear hHeld
      clear v0 v1 v2 v3 v4 v5 s0 s1 s2 s3 s4 s5 r0 r1 r2 r3 r4 r5 f0 f1 f2 f3 f4 f5 bgd bg8 bgN
      obtain ⟨wE, hwE⟩ : ∃ wE, wE = ((((((w8.setCell ⟨w.heap.size, 0, none⟩ (.int .i64 f.p)).setCell ⟨w.heap.size, 1, none⟩ (.int .i64 f.a)).setCell ⟨w.heap.size, 2, none⟩ (.int .i64 f.b)).setCell ⟨w.heap.size, 3, none⟩ (.int .i64 f.c)).setCell ⟨w.heap.size, 4, none⟩ (.int .i64 f.d)).setCell ⟨w.heap.size, 5, none⟩ (.int .i64 f.e)) := ⟨_, rfl⟩
      rw [← hwE] at bx9 sm9 hb9 bz9
      have bzE : MpBox wE w.heap.size f := bz9
      have bxE : MpBox wE (w.heap.size + 1) Mp.z := bx9
      have smE : SeeMaps wE A2 ms := sm9
      have hbE : Below w.heap.size w wE := hb9
      rw [← hwE]
      clear hwE bx9 sm9 hb9 bz9 bg9 kp9 bz8 bx8 sm8 hb8 y0 y1 y2 y3 y4 y5 yf ylt u0 u1 u2 u3 u4 u5
      obtain ⟨y0, y1, y2, y3, y4, y5⟩ := bzE.at.cells0
      obtain ⟨x0, x1, x2, x3, x4, x5⟩ := bxE.at.cells0
      have xf := bxE.free
      have xlt := bxE.lt
      have sm6 : SeeMaps ((((((wE.setCell ⟨(w.heap.size + 1), 0, none⟩ (.int .i64 g.p)).setCell ⟨(w.heap.size + 1), 1, none⟩ (.int .i64 g.a)).setCell ⟨(w.heap.size + 1), 2, none⟩ (.int .i64 g.b)).setCell ⟨(w.heap.size + 1), 3, none⟩ (.int .i64 g.c)).setCell ⟨(w.heap.size + 1), 4, none⟩ (.int .i64 g.d)).setCell ⟨(w.heap.size + 1), 5, none⟩ (.int .i64 g.e)) A2 ms := smE.keep (hin2.mono fun k hk => hk.2) (((((((Keep.refl (fun k => k ≠ w.heap.size + 1) wE).setCell (fun h => h rfl) _).setCell (fun h => h rfl) _).setCell (fun h => h rfl) _).setCell (fun h => h rfl) _).setCell (fun h => h rfl) _).setCell (fun h => h rfl) _)
      have hb6 : Below w.heap.size w ((((((wE.setCell ⟨(w.heap.size + 1), 0, none⟩ (.int .i64 g.p)).setCell ⟨(w.heap.size + 1), 1, none⟩ (.int .i64 g.a)).setCell ⟨(w.heap.size + 1), 2, none⟩ (.int .i64 g.b)).setCell ⟨(w.heap.size + 1), 3, none⟩ (.int .i64 g.c)).setCell ⟨(w.heap.size + 1), 4, none⟩ (.int .i64 g.d)).setCell ⟨(w.heap.size + 1), 5, none⟩ (.int .i64 g.e)) := (Below.setCell (Below.setCell (Below.setCell (Below.setCell (Below.setCell (Below.setCell hbE (Nat.le_succ _) _) (Nat.le_succ _) _) (Nat.le_succ _) _) (Nat.le_succ _) _) (Nat.le_succ _) _) (Nat.le_succ _) _)
      have HF := Lib.hid (⟨sm6, nm, h7, hb6⟩ : SeeMaps _ A2 ms ∧ NilOk A2 c2 ∧ ms.length ≤ 7 ∧ Below w.heap.size w ((((((wE.setCell ⟨(w.heap.size + 1), 0, none⟩ (.int .i64 g.p)).setCell ⟨(w.heap.size + 1), 1, none⟩ (.int .i64 g.a)).setCell ⟨(w.heap.size + 1), 2, none⟩ (.int .i64 g.b)).setCell ⟨(w.heap.size + 1), 3, none⟩ (.int .i64 g.c)).setCell ⟨(w.heap.size + 1), 4, none⟩ (.int .i64 g.d)).setCell ⟨(w.heap.size + 1), 5, none⟩ (.int .i64 g.e)))
      clear sm6 smE hin2 nm hb6 hbE
      go_wp2
      exact bodyPost_ret (v := .tuple #[.slice A2 ms.length c2, .agg #[.int .i64 f.p, .int .i64 f.a, .int .i64 f.b, .int .i64 f.c, .int .i64 f.d, .int .i64 f.e], .agg #[.int .i64 g.p, .int .i64 g.a, .int .i64 g.b, .int .i64 g.c, .int .i64 g.d, .int .i64 g.e]]) (by simp [results, Tryz.results33, go_sem, y0, y1, y2, y3, y4, y5, x0, x1, x2, x3, x4, x5]) rfl ⟨A2, c2, ms, f, g, rfl, HF.out⟩
    · have dx : (x == 0) = false := by simpa using hx
      have dN := d6
      have smN := sm3.drawn hin.ne d6
      clear hx own hd6 d5 d6 bg5
      have HEL := Lib.hid (specElementsOf_l (c := c2) (smN) (by omega))
      unfold MsPost at HEL
      obtain ⟨⟨l, q⟩, hr⟩ : ∃ r, RElementsOf ms = r := ⟨_, rfl⟩
      rw [hr] at HEL
      have HRE := Lib.hid hr
      clear hr
      go_wp2_with fail
      refine HEL.out.mono ?_
      rintro e w6 ⟨v6, rfl, own, hb6⟩
      clear HEL
      obtain ⟨A6, c6, rfl, _⟩ := own.see
      have dN' := dN.below hb6
      have bgN' := bgN.below hb6
      have hlo := dN.keep.size
      clear dN bgN smN
      have dN := dN'
      have bgN := bgN'
      clear dN' bgN'
      by_cases hq2 : q = 0
      · subst hq2
        obtain ⟨lpos, llen⟩ : 0 < l.length ∧ l.length ≤ 300 := els_pos HRE.out
        obtain ⟨b3, o3, rfl, g3⟩ := own.see' (List.ne_nil_of_length_pos lpos)
        have far3 : ∀ a, (some ⟨b3, o3, none⟩ : Option Addr) = some a → a.block ≠ b := fun a ha => (own.far (by omega)) a ha
        have G3 := Lib.hid g3
        clear g3 own
        obtain ⟨wN, hwN⟩ : ∃ wN, wN = w6 := ⟨_, rfl⟩
        subst hwN
        have HN2 := Lib.hid (l01Next_c (l.length : Int) wN.drew (dN.below (Below.drew (Below.refl _ wN))).src (by omega))
        have hdd : Drawn w3 wN.drew b A c code := dN.below (Below.drew (Below.refl _ wN))
        have bgd := bgN.below (Below.drew (Below.refl _ wN))
        obtain ⟨s0, s1, s2, s3, s4, s5⟩ := bgd.at.cells0
        obtain ⟨r0, r1, r2, r3, r4, r5⟩ := bgN.at.cells0
        go_wp2
        refine wp_region_headS 11 (fun w' => w'.cell? ⟨bg, 0, none⟩ = some (.int .i64 g.p) ∧ w'.cell? ⟨bg, 1, none⟩ = some (.int .i64 g.a) ∧ w'.cell? ⟨bg, 2, none⟩ = some (.int .i64 g.b) ∧ w'.cell? ⟨bg, 3, none⟩ = some (.int .i64 g.c) ∧ w'.cell? ⟨bg, 4, none⟩ = some (.int .i64 g.d) ∧ w'.cell? ⟨bg, 5, none⟩ = some (.int .i64 g.e)) (by kernel_rfl) (by kernel_rfl) ⟨r0, r1, r2, r3, r4, r5⟩ (fun hHeld => ?_)
        simp only [List.drop]
        refine headH_takeS (i := 0) (v := ?_) 48 rfl (by kernel_rfl) (by kernel_rfl) (fun _ _ _ h => h) (Or.inl ⟨by rfl, ?_⟩) hHeld ?_
        rotate_left
        · intro w hSw
          (try dsimp only at hSw)
          go_simp
          try with_reducible rfl
        try simp only [Act.put, List.setIfInBounds_toArray, List.set_cons_zero, List.set_cons_succ]
        refine headH_takeS (i := 1) (v := ?_) 49 rfl (by kernel_rfl) (by kernel_rfl) (fun _ _ _ h => h) (Or.inl ⟨by rfl, ?_⟩) hHeld ?_
        rotate_left
        · intro w hSw
          (try dsimp only at hSw)
          go_simp
          try with_reducible rfl
        try simp only [Act.put, List.setIfInBounds_toArray, List.set_cons_zero, List.set_cons_succ]
        refine headH_takeS (i := 2) (v := ?_) 50 rfl (by kernel_rfl) (by kernel_rfl) (fun _ _ _ h => h) (Or.inl ⟨by rfl, ?_⟩) hHeld ?_
        rotate_left
        · intro w hSw
          (try dsimp only at hSw)
          go_simp
          try with_reducible rfl
        try simp only [Act.put, List.setIfInBounds_toArray, List.set_cons_zero, List.set_cons_succ]
        refine headH_takeS (i := 3) (v := ?_) 51 rfl (by kernel_rfl) (by kernel_rfl) (fun _ _ _ h => h) (Or.inl ⟨by rfl, ?_⟩) hHeld ?_
        rotate_left
        · intro w hSw
          (try dsimp only at hSw)
          go_simp
          try with_reducible rfl
        try simp only [Act.put, List.setIfInBounds_toArray, List.set_cons_zero, List.set_cons_succ]
        refine headH_takeS (i := 4) (v := ?_) 52 rfl (by kernel_rfl) (by kernel_rfl) (fun _ _ _ h => h) (Or.inl ⟨by rfl, ?_⟩) hHeld ?_
        rotate_left
        · intro w hSw
          (try dsimp only at hSw)
          go_simp
          try with_reducible rfl
        try simp only [Act.put, List.setIfInBounds_toArray, List.set_cons_zero, List.set_cons_succ]
        refine headH_takeS (i := 8) (v := ?_) 56 rfl (by kernel_rfl) (by kernel_rfl) (fun _ _ _ h => h) (Or.inl ⟨by rfl, ?_⟩) hHeld ?_
        rotate_left
        · intro w hSw
          (try dsimp only at hSw)
          go_simp
          try with_reducible rfl
        try simp only [Act.put, List.setIfInBounds_toArray, List.set_cons_zero, List.set_cons_succ]
        refine headH_all (rs := [5]) (by kernel_rfl) (by kernel_rfl) (headH_cons rfl (fun K hK => ?_) headH_nil)
        go_simp
        refine HN2.out.mono ?_
        rintro e w8 ⟨y, rfl, hy, _, hd8⟩
        obtain ⟨j0, j1⟩ := hy (by omega)
        obtain ⟨j, rfl⟩ := Int.eq_ofNat_of_zero_le j0
        have hj : j < l.length := by omega
        obtain ⟨f, hf⟩ := el hj
        have hdE := hdd.trans hd8
        have gf : MpAt w8 b3 (o3 + j * 6) f := ((G3.out j f hf).below (Below.drew (Below.refl _ wN))).keepS (far3 _ rfl) hd8.keep
        obtain ⟨f0, f1, f2, f3, f4, f5⟩ := gf
        have bg8 := bgd.drawn (by omega) hd8
        obtain ⟨v0, v1, v2, v3, v4, v5⟩ := bg8.at.cells0
        clear hy HN2 hdd hd8
        refine hK.out _ _ ⟨v0, v1, v2, v3, v4, v5⟩ (fun hHeldn => ?_)
        clear hK K hHeld
        have hHeld := hHeldn
        clear hHeldn
        try simp only [Act.put, List.setIfInBounds_toArray, List.set_cons_zero, List.set_cons_succ]
        refine headH_takeS (i := 9) (v := ?_) 2 rfl (by kernel_rfl) (by kernel_rfl) (fun _ _ _ h => h) (Or.inl ⟨by rfl, ?_⟩) hHeld ?_
        rotate_left
        · intro w hSw
          (try dsimp only at hSw)
          go_simp
          try with_reducible rfl
        try simp only [Act.put, List.setIfInBounds_toArray, List.set_cons_zero, List.set_cons_succ]
        refine headH_all (rs := [6]) (by kernel_rfl) (by kernel_rfl) (headH_cons rfl (fun K hK => ?_) headH_nil)
        go_simp
        refine hK.out _ _ ⟨v0, v1, v2, v3, v4, v5⟩ (fun hHeldn => ?_)
        clear hK K hHeld
        have hHeld := hHeldn
        clear hHeldn
        try simp only [Act.put, List.setIfInBounds_toArray, List.set_cons_zero, List.set_cons_succ]
        refine headH_all (rs := [7]) (by kernel_rfl) (by kernel_rfl) (headH_cons rfl (fun K hK => ?_) headH_nil)
        go_simp
        refine hK.out _ _ ⟨v0, v1, v2, v3, v4, v5⟩ (fun hHeldn => ?_)
        clear hK K hHeld
        have hHeld := hHeldn
        clear hHeldn
        try simp only [Act.put, List.setIfInBounds_toArray, List.set_cons_zero, List.set_cons_succ]
        have bz8 := bz3.drawn (by omega) hdE
        have bx8 := bx3.drawn (by omega) hdE
        have sm8 := sm3.drawn hin.ne hdE
        have hb8 := Drawn.newer hbl3 (by omega) hdE
        obtain ⟨y0, y1, y2, y3, y4, y5⟩ := bz8.at.cells0
        have yf := bz8.free
        have ylt := bz8.lt
        refine headH_all (rs := [10]) (by kernel_rfl) (by kernel_rfl) (headH_cons rfl (fun K hK => ?_) headH_nil)
        go_simp
        have kp9 : Keep (fun k => k ≠ w.heap.size) w8 ((((((w8.setCell ⟨w.heap.size, 0, none⟩ (.int .i64 f.p)).setCell ⟨w.heap.size, 1, none⟩ (.int .i64 f.a)).setCell ⟨w.heap.size, 2, none⟩ (.int .i64 f.b)).setCell ⟨w.heap.size, 3, none⟩ (.int .i64 f.c)).setCell ⟨w.heap.size, 4, none⟩ (.int .i64 f.d)).setCell ⟨w.heap.size, 5, none⟩ (.int .i64 f.e)) := (((((((Keep.refl (fun k => k ≠ w.heap.size) w8).setCell (fun h => h rfl) _).setCell (fun h => h rfl) _).setCell (fun h => h rfl) _).setCell (fun h => h rfl) _).setCell (fun h => h rfl) _).setCell (fun h => h rfl) _)
        have bg9 := (bg8.at).keepS (S := fun k => k ≠ w.heap.size) (by omega) kp9
        obtain ⟨u0, u1, u2, u3, u4, u5⟩ := bg9.cells0
        have bx9 := bx8.keepS (S := fun k => k ≠ w.heap.size) (by omega) kp9
        have sm9 := sm8.keep (hin2.mono fun k hk => hk.1) kp9
        have hb9 : Below w.heap.size w ((((((w8.setCell ⟨w.heap.size, 0, none⟩ (.int .i64 f.p)).setCell ⟨w.heap.size, 1, none⟩ (.int .i64 f.a)).setCell ⟨w.heap.size, 2, none⟩ (.int .i64 f.b)).setCell ⟨w.heap.size, 3, none⟩ (.int .i64 f.c)).setCell ⟨w.heap.size, 4, none⟩ (.int .i64 f.d)).setCell ⟨w.heap.size, 5, none⟩ (.int .i64 f.e)) := (Below.setCell (Below.setCell (Below.setCell (Below.setCell (Below.setCell (Below.setCell hb8 (Nat.le_refl _) _) (Nat.le_refl _) _) (Nat.le_refl _) _) (Nat.le_refl _) _) (Nat.le_refl _) _) (Nat.le_refl _) _)
        have bz9 := bz8.store f
        refine hK.out _ _ ⟨u0, u1, u2, u3, u4, u5⟩ (fun hHeldn => ?_)
        clear hK K hHeld
        have hHeld := hHeldn
        clear hHeldn
        try simp only [Act.put, List.setIfInBounds_toArray, List.set_cons_zero, List.set_cons_succ]
        refine headH_tail (by kernel_rfl) ?_
        clear hHeld
        clear v0 v1 v2 v3 v4 v5 s0 s1 s2 s3 s4 s5 r0 r1 r2 r3 r4 r5 f0 f1 f2 f3 f4 f5 bgd bg8 bgN
        obtain ⟨wE, hwE⟩ : ∃ wE, wE = ((((((w8.setCell ⟨w.heap.size, 0, none⟩ (.int .i64 f.p)).setCell ⟨w.heap.size, 1, none⟩ (.int .i64 f.a)).setCell ⟨w.heap.size, 2, none⟩ (.int .i64 f.b)).setCell ⟨w.heap.size, 3, none⟩ (.int .i64 f.c)).setCell ⟨w.heap.size, 4, none⟩ (.int .i64 f.d)).setCell ⟨w.heap.size, 5, none⟩ (.int .i64 f.e)) := ⟨_, rfl⟩
        rw [← hwE] at bx9 sm9 hb9 bz9
        have bzE : MpBox wE w.heap.size f := bz9
        have bxE : MpBox wE (w.heap.size + 1) Mp.z := bx9
        have smE : SeeMaps wE A2 ms := sm9
        have hbE : Below w.heap.size w wE := hb9
        rw [← hwE]
        clear hwE bx9 sm9 hb9 bz9 bg9 kp9 bz8 bx8 sm8 hb8 y0 y1 y2 y3 y4 y5 yf ylt u0 u1 u2 u3 u4 u5
        obtain ⟨y0, y1, y2, y3, y4, y5⟩ := bzE.at.cells0
        obtain ⟨x0, x1, x2, x3, x4, x5⟩ := bxE.at.cells0
        have xf := bxE.free
        have xlt := bxE.lt
        have sm6 : SeeMaps ((((((wE.setCell ⟨(w.heap.size + 1), 0, none⟩ (.int .i64 g.p)).setCell ⟨(w.heap.size + 1), 1, none⟩ (.int .i64 g.a)).setCell ⟨(w.heap.size + 1), 2, none⟩ (.int .i64 g.b)).setCell ⟨(w.heap.size + 1), 3, none⟩ (.int .i64 g.c)).setCell ⟨(w.heap.size + 1), 4, none⟩ (.int .i64 g.d)).setCell ⟨(w.heap.size + 1), 5, none⟩ (.int .i64 g.e)) A2 ms := smE.keep (hin2.mono fun k hk => hk.2) (((((((Keep.refl (fun k => k ≠ w.heap.size + 1) wE).setCell (fun h => h rfl) _).setCell (fun h => h rfl) _).setCell (fun h => h rfl) _).setCell (fun h => h rfl) _).setCell (fun h => h rfl) _).setCell (fun h => h rfl) _)
        have hb6 : Below w.heap.size w ((((((wE.setCell ⟨(w.heap.size + 1), 0, none⟩ (.int .i64 g.p)).setCell ⟨(w.heap.size + 1), 1, none⟩ (.int .i64 g.a)).setCell ⟨(w.heap.size + 1), 2, none⟩ (.int .i64 g.b)).setCell ⟨(w.heap.size + 1), 3, none⟩ (.int .i64 g.c)).setCell ⟨(w.heap.size + 1), 4, none⟩ (.int .i64 g.d)).setCell ⟨(w.heap.size + 1), 5, none⟩ (.int .i64 g.e)) := (Below.setCell (Below.setCell (Below.setCell (Below.setCell (Below.setCell (Below.setCell hbE (Nat.le_succ _) _) (Nat.le_succ _) _) (Nat.le_succ _) _) (Nat.le_succ _) _) (Nat.le_succ _) _) (Nat.le_succ _) _)
        have HF := Lib.hid (⟨sm6, nm, h7, hb6⟩ : SeeMaps _ A2 ms ∧ NilOk A2 c2 ∧ ms.length ≤ 7 ∧ Below w.heap.size w ((((((wE.setCell ⟨(w.heap.size + 1), 0, none⟩ (.int .i64 g.p)).setCell ⟨(w.heap.size + 1), 1, none⟩ (.int .i64 g.a)).setCell ⟨(w.heap.size + 1), 2, none⟩ (.int .i64 g.b)).setCell ⟨(w.heap.size + 1), 3, none⟩ (.int .i64 g.c)).setCell ⟨(w.heap.size + 1), 4, none⟩ (.int .i64 g.d)).setCell ⟨(w.heap.size + 1), 5, none⟩ (.int .i64 g.e)))
        clear sm6 smE hin2 nm hb6 hbE
        go_wp2
        exact bodyPost_ret (v := .tuple #[.slice A2 ms.length c2, .agg #[.int .i64 f.p, .int .i64 f.a, .int .i64 f.b, .int .i64 f.c, .int .i64 f.d, .int .i64 f.e], .agg #[.int .i64 g.p, .int .i64 g.a, .int .i64 g.b, .int .i64 g.c, .int .i64 g.d, .int .i64 g.e]]) (by simp [results, Tryz.results33, go_sem, y0, y1, y2, y3, y4, y5, x0, x1, x2, x3, x4, x5]) rfl ⟨A2, c2, ms, f, g, rfl, HF.out⟩
      · have dq2 : (q == 0) = false := by simpa using hq2
        obtain ⟨wN, hwN⟩ : ∃ wN, wN = w6 := ⟨_, rfl⟩
        subst hwN
        clear hq2 own
        have HSP := Lib.hid (fun W (hs : SrcAt W b A c code) => l01Spoil_c W hs)
        have hdd : Drawn w3 wN.drew b A c code := dN.below (Below.drew (Below.refl _ wN))
        have bgd := bgN.below (Below.drew (Below.refl _ wN))
        obtain ⟨r0, r1, r2, r3, r4, r5⟩ := bgN.at.cells0
        unfold MvPost at HSP
        go_wp2
        refine wp_region_headS 6 (fun w' => w'.cell? ⟨bg, 0, none⟩ = some (.int .i64 g.p) ∧ w'.cell? ⟨bg, 1, none⟩ = some (.int .i64 g.a) ∧ w'.cell? ⟨bg, 2, none⟩ = some (.int .i64 g.b) ∧ w'.cell? ⟨bg, 3, none⟩ = some (.int .i64 g.c) ∧ w'.cell? ⟨bg, 4, none⟩ = some (.int .i64 g.d) ∧ w'.cell? ⟨bg, 5, none⟩ = some (.int .i64 g.e)) (by kernel_rfl) (by kernel_rfl) ⟨r0, r1, r2, r3, r4, r5⟩ (fun hHeld => ?_)
        simp only [List.drop]
        refine headH_takeS (i := 0) (v := ?_) 57 rfl (by kernel_rfl) (by kernel_rfl) (fun _ _ _ h => h) (Or.inl ⟨by rfl, ?_⟩) hHeld ?_
        rotate_left
        · intro w hSw
          (try dsimp only at hSw)
          go_simp
          try with_reducible rfl
        try simp only [Act.put, List.setIfInBounds_toArray, List.set_cons_zero, List.set_cons_succ]
        refine headH_takeS (i := 1) (v := ?_) 58 rfl (by kernel_rfl) (by kernel_rfl) (fun _ _ _ h => h) (Or.inl ⟨by rfl, ?_⟩) hHeld ?_
        rotate_left
        · intro w hSw
          (try dsimp only at hSw)
          go_simp
          try with_reducible rfl
        try simp only [Act.put, List.setIfInBounds_toArray, List.set_cons_zero, List.set_cons_succ]
        refine headH_takeS (i := 3) (v := ?_) 60 rfl (by kernel_rfl) (by kernel_rfl) (fun _ _ _ h => h) (Or.inl ⟨by rfl, ?_⟩) hHeld ?_
        rotate_left
        · intro w hSw
          (try dsimp only at hSw)
          go_simp
          try with_reducible rfl
        try simp only [Act.put, List.setIfInBounds_toArray, List.set_cons_zero, List.set_cons_succ]
        refine headH_all (rs := [2]) (by kernel_rfl) (by kernel_rfl) (headH_cons rfl (fun K hK => ?_) headH_nil)
        go_simp
        refine (HSP.out _ hdd.src).mono ?_
        rintro e w8 ⟨f, rfl, _, hd8⟩
        have hdE := hdd.trans hd8
        have bg8 := bgd.drawn (by omega) hd8
        obtain ⟨v0, v1, v2, v3, v4, v5⟩ := bg8.at.cells0
        clear HSP hdd hd8
        refine hK.out _ _ ⟨v0, v1, v2, v3, v4, v5⟩ (fun hHeldn => ?_)
        clear hK K hHeld
        have hHeld := hHeldn
        clear hHeldn
        try simp only [Act.put, List.setIfInBounds_toArray, List.set_cons_zero, List.set_cons_succ]
        refine headH_takeS (i := 4) (v := ?_) 2 rfl (by kernel_rfl) (by kernel_rfl) (fun _ _ _ h => h) (Or.inl ⟨by rfl, ?_⟩) hHeld ?_
        rotate_left
        · intro w hSw
          (try dsimp only at hSw)
          go_simp
          try with_reducible rfl
        try simp only [Act.put, List.setIfInBounds_toArray, List.set_cons_zero, List.set_cons_succ]
        have bz8 := bz3.drawn (by omega) hdE
        have bx8 := bx3.drawn (by omega) hdE
        have sm8 := sm3.drawn hin.ne hdE
        have hb8 := Drawn.newer hbl3 (by omega) hdE
        obtain ⟨y0, y1, y2, y3, y4, y5⟩ := bz8.at.cells0
        have yf := bz8.free
        have ylt := bz8.lt
        refine headH_all (rs := [5]) (by kernel_rfl) (by kernel_rfl) (headH_cons rfl (fun K hK => ?_) headH_nil)
        go_simp
        have kp9 : Keep (fun k => k ≠ w.heap.size) w8 ((((((w8.setCell ⟨w.heap.size, 0, none⟩ (.int .i64 f.p)).setCell ⟨w.heap.size, 1, none⟩ (.int .i64 f.a)).setCell ⟨w.heap.size, 2, none⟩ (.int .i64 f.b)).setCell ⟨w.heap.size, 3, none⟩ (.int .i64 f.c)).setCell ⟨w.heap.size, 4, none⟩ (.int .i64 f.d)).setCell ⟨w.heap.size, 5, none⟩ (.int .i64 f.e)) := (((((((Keep.refl (fun k => k ≠ w.heap.size) w8).setCell (fun h => h rfl) _).setCell (fun h => h rfl) _).setCell (fun h => h rfl) _).setCell (fun h => h rfl) _).setCell (fun h => h rfl) _).setCell (fun h => h rfl) _)
        have bg9 := (bg8.at).keepS (S := fun k => k ≠ w.heap.size) (by omega) kp9
        obtain ⟨u0, u1, u2, u3, u4, u5⟩ := bg9.cells0
        have bx9 := bx8.keepS (S := fun k => k ≠ w.heap.size) (by omega) kp9
        have sm9 := sm8.keep (hin2.mono fun k hk => hk.1) kp9
        have hb9 : Below w.heap.size w ((((((w8.setCell ⟨w.heap.size, 0, none⟩ (.int .i64 f.p)).setCell ⟨w.heap.size, 1, none⟩ (.int .i64 f.a)).setCell ⟨w.heap.size, 2, none⟩ (.int .i64 f.b)).setCell ⟨w.heap.size, 3, none⟩ (.int .i64 f.c)).setCell ⟨w.heap.size, 4, none⟩ (.int .i64 f.d)).setCell ⟨w.heap.size, 5, none⟩ (.int .i64 f.e)) := (Below.setCell (Below.setCell (Below.setCell (Below.setCell (Below.setCell (Below.setCell hb8 (Nat.le_refl _) _) (Nat.le_refl _) _) (Nat.le_refl _) _) (Nat.le_refl _) _) (Nat.le_refl _) _) (Nat.le_refl _) _)
        have bz9 := bz8.store f
        refine hK.out _ _ ⟨u0, u1, u2, u3, u4, u5⟩ (fun hHeldn => ?_)
        clear hK K hHeld
        have hHeld := hHeldn
        clear hHeldn
        try simp only [Act.put, List.setIfInBounds_toArray, List.set_cons_zero, List.set_cons_succ]
        refine headH_tail (by kernel_rfl) ?_
        clear hHeld
        clear v0 v1 v2 v3 v4 v5 r0 r1 r2 r3 r4 r5 bgd bg8 bgN
        obtain ⟨wE, hwE⟩ : ∃ wE, wE = ((((((w8.setCell ⟨w.heap.size, 0, none⟩ (.int .i64 f.p)).setCell ⟨w.heap.size, 1, none⟩ (.int .i64 f.a)).setCell ⟨w.heap.size, 2, none⟩ (.int .i64 f.b)).setCell ⟨w.heap.size, 3, none⟩ (.int .i64 f.c)).setCell ⟨w.heap.size, 4, none⟩ (.int .i64 f.d)).setCell ⟨w.heap.size, 5, none⟩ (.int .i64 f.e)) := ⟨_, rfl⟩
        rw [← hwE] at bx9 sm9 hb9 bz9
        have bzE : MpBox wE w.heap.size f := bz9
        have bxE : MpBox wE (w.heap.size + 1) Mp.z := bx9
        have smE : SeeMaps wE A2 ms := sm9
        have hbE : Below w.heap.size w wE := hb9
        rw [← hwE]
        clear hwE bx9 sm9 hb9 bz9 bg9 kp9 bz8 bx8 sm8 hb8 y0 y1 y2 y3 y4 y5 yf ylt u0 u1 u2 u3 u4 u5
        obtain ⟨y0, y1, y2, y3, y4, y5⟩ := bzE.at.cells0
        obtain ⟨x0, x1, x2, x3, x4, x5⟩ := bxE.at.cells0
        have xf := bxE.free
        have xlt := bxE.lt
        have sm6 : SeeMaps ((((((wE.setCell ⟨(w.heap.size + 1), 0, none⟩ (.int .i64 g.p)).setCell ⟨(w.heap.size + 1), 1, none⟩ (.int .i64 g.a)).setCell ⟨(w.heap.size + 1), 2, none⟩ (.int .i64 g.b)).setCell ⟨(w.heap.size + 1), 3, none⟩ (.int .i64 g.c)).setCell ⟨(w.heap.size + 1), 4, none⟩ (.int .i64 g.d)).setCell ⟨(w.heap.size + 1), 5, none⟩ (.int .i64 g.e)) A2 ms := smE.keep (hin2.mono fun k hk => hk.2) (((((((Keep.refl (fun k => k ≠ w.heap.size + 1) wE).setCell (fun h => h rfl) _).setCell (fun h => h rfl) _).setCell (fun h => h rfl) _).setCell (fun h => h rfl) _).setCell (fun h => h rfl) _).setCell (fun h => h rfl) _)
        have hb6 : Below w.heap.size w ((((((wE.setCell ⟨(w.heap.size + 1), 0, none⟩ (.int .i64 g.p)).setCell ⟨(w.heap.size + 1), 1, none⟩ (.int .i64 g.a)).setCell ⟨(w.heap.size + 1), 2, none⟩ (.int .i64 g.b)).setCell ⟨(w.heap.size + 1), 3, none⟩ (.int .i64 g.c)).setCell ⟨(w.heap.size + 1), 4, none⟩ (.int .i64 g.d)).setCell ⟨(w.heap.size + 1), 5, none⟩ (.int .i64 g.e)) := (Below.setCell (Below.setCell (Below.setCell (Below.setCell (Below.setCell (Below.setCell hbE (Nat.le_succ _) _) (Nat.le_succ _) _) (Nat.le_succ _) _) (Nat.le_succ _) _) (Nat.le_succ _) _) (Nat.le_succ _) _)
        have HF := Lib.hid (⟨sm6, nm, h7, hb6⟩ : SeeMaps _ A2 ms ∧ NilOk A2 c2 ∧ ms.length ≤ 7 ∧ Below w.heap.size w ((((((wE.setCell ⟨(w.heap.size + 1), 0, none⟩ (.int .i64 g.p)).setCell ⟨(w.heap.size + 1), 1, none⟩ (.int .i64 g.a)).setCell ⟨(w.heap.size + 1), 2, none⟩ (.int .i64 g.b)).setCell ⟨(w.heap.size + 1), 3, none⟩ (.int .i64 g.c)).setCell ⟨(w.heap.size + 1), 4, none⟩ (.int .i64 g.d)).setCell ⟨(w.heap.size + 1), 5, none⟩ (.int .i64 g.e)))
        clear sm6 smE hin2 nm hb6 hbE
        go_wp2
        exact bodyPost_ret (v := .tuple #[.slice A2 ms.length c2, .agg #[.int .i64 f.p, .int .i64 f.a, .int .i64 f.b, .int .i64 f.c, .int .i64 f.d, .int .i64 f.e], .agg #[.int .i64 g.p, .int .i64 g.a, .int .i64 g.b, .int .i64 g.c, .int .i64 g.d, .int .i64 g.e]]) (by simp [results, Tryz.results33, go_sem, y0, y1, y2, y3, y4, y5, x0, x1, x2, x3, x4, x5]) rfl ⟨A2, c2, ms, f, g, rfl, HF.out⟩
  · have dq : (q0 == 0) = false := by simpa using hq
    have dN := d5
    have bgN := bg5
    have smN := sm3.drawn hin.ne d5
    clear hq own d5 bg5
    have HEL := Lib.hid (specElementsOf_l (c := c2) (smN) (by omega))
    unfold MsPost at HEL
    obtain ⟨⟨l, q⟩, hr⟩ : ∃ r, RElementsOf ms = r := ⟨_, rfl⟩
    rw [hr] at HEL
    have HRE := Lib.hid hr
    clear hr
    go_wp2_with fail
    refine HEL.out.mono ?_
    rintro e w6 ⟨v6, rfl, own, hb6⟩
    clear HEL
    obtain ⟨A6, c6, rfl, _⟩ := own.see
    have dN' := dN.below hb6
    have bgN' := bgN.below hb6
    have hlo := dN.keep.size
    clear dN bgN smN
    have dN := dN'
    have bgN := bgN'
    clear dN' bgN'
    by_cases hq2 : q = 0
    · subst hq2
      obtain ⟨lpos, llen⟩ : 0 < l.length ∧ l.length ≤ 300 := els_pos HRE.out
      obtain ⟨b3, o3, rfl, g3⟩ := own.see' (List.ne_nil_of_length_pos lpos)
      have far3 : ∀ a, (some ⟨b3, o3, none⟩ : Option Addr) = some a → a.block ≠ b := fun a ha => (own.far (by omega)) a ha
      have G3 := Lib.hid g3
      clear g3 own
      obtain ⟨wN, hwN⟩ : ∃ wN, wN = w6 := ⟨_, rfl⟩
      subst hwN
      have HN2 := Lib.hid (l01Next_c (l.length : Int) wN.drew (dN.below (Below.drew (Below.refl _ wN))).src (by omega))
      have hdd : Drawn w3 wN.drew b A c code := dN.below (Below.drew (Below.refl _ wN))
      have bgd := bgN.below (Below.drew (Below.refl _ wN))
      obtain ⟨s0, s1, s2, s3, s4, s5⟩ := bgd.at.cells0
      obtain ⟨r0, r1, r2, r3, r4, r5⟩ := bgN.at.cells0
      go_wp2
      refine wp_region_headS 11 (fun w' => w'.cell? ⟨bg, 0, none⟩ = some (.int .i64 g.p) ∧ w'.cell? ⟨bg, 1, none⟩ = some (.int .i64 g.a) ∧ w'.cell? ⟨bg, 2, none⟩ = some (.int .i64 g.b) ∧ w'.cell? ⟨bg, 3, none⟩ = some (.int .i64 g.c) ∧ w'.cell? ⟨bg, 4, none⟩ = some (.int .i64 g.d) ∧ w'.cell? ⟨bg, 5, none⟩ = some (.int .i64 g.e)) (by kernel_rfl) (by kernel_rfl) ⟨r0, r1, r2, r3, r4, r5⟩ (fun hHeld => ?_)
      simp only [List.drop]
      refine headH_takeS (i := 0) (v := ?_) 48 rfl (by kernel_rfl) (by kernel_rfl) (fun _ _ _ h => h) (Or.inl ⟨by rfl, ?_⟩) hHeld ?_
      rotate_left
      · intro w hSw
        (try dsimp only at hSw)
        go_simp
        try with_reducible rfl
      try simp only [Act.put, List.setIfInBounds_toArray, List.set_cons_zero, List.set_cons_succ]
      refine headH_takeS (i := 1) (v := ?_) 49 rfl (by kernel_rfl) (by kernel_rfl) (fun _ _ _ h => h) (Or.inl ⟨by rfl, ?_⟩) hHeld ?_
      rotate_left
      · intro w hSw
        (try dsimp only at hSw)
        go_simp
        try with_reducible rfl
      try simp only [Act.put, List.setIfInBounds_toArray, List.set_cons_zero, List.set_cons_succ]
      refine headH_takeS (i := 2) (v := ?_) 50 rfl (by kernel_rfl) (by kernel_rfl) (fun _ _ _ h => h) (Or.inl ⟨by rfl, ?_⟩) hHeld ?_
      rotate_left
      · intro w hSw
        (try dsimp only at hSw)
        go_simp
        try with_reducible rfl
      try simp only [Act.put, List.setIfInBounds_toArray, List.set_cons_zero, List.set_cons_succ]
      refine headH_takeS (i := 3) (v := ?_) 51 rfl (by kernel_rfl) (by kernel_rfl) (fun _ _ _ h => h) (Or.inl ⟨by rfl, ?_⟩) hHeld ?_
      rotate_left
      · intro w hSw
        (try dsimp only at hSw)
        go_simp
        try with_reducible rfl
      try simp only [Act.put, List.setIfInBounds_toArray, List.set_cons_zero, List.set_cons_succ]
      refine headH_takeS (i := 4) (v := ?_) 52 rfl (by kernel_rfl) (by kernel_rfl) (fun _ _ _ h => h) (Or.inl ⟨by rfl, ?_⟩) hHeld ?_
      rotate_left
      · intro w hSw
        (try dsimp only at hSw)
        go_simp
        try with_reducible rfl
      try simp only [Act.put, List.setIfInBounds_toArray, List.set_cons_zero, List.set_cons_succ]
      refine headH_takeS (i := 8) (v := ?_) 56 rfl (by kernel_rfl) (by kernel_rfl) (fun _ _ _ h => h) (Or.inl ⟨by rfl, ?_⟩) hHeld ?_
      rotate_left
      · intro w hSw
        (try dsimp only at hSw)
        go_simp
        try with_reducible rfl
      try simp only [Act.put, List.setIfInBounds_toArray, List.set_cons_zero, List.set_cons_succ]
      refine headH_all (rs := [5]) (by kernel_rfl) (by kernel_rfl) (headH_cons rfl (fun K hK => ?_) headH_nil)
      go_simp
      refine HN2.out.mono ?_
      rintro e w8 ⟨y, rfl, hy, _, hd8⟩
      obtain ⟨j0, j1⟩ := hy (by omega)
      obtain ⟨j, rfl⟩ := Int.eq_ofNat_of_zero_le j0
      have hj : j < l.length := by omega
      obtain ⟨f, hf⟩ := el hj
      have hdE := hdd.trans hd8
      have gf : MpAt w8 b3 (o3 + j * 6) f := ((G3.out j f hf).below (Below.drew (Below.refl _ wN))).keepS (far3 _ rfl) hd8.keep
      obtain ⟨f0, f1, f2, f3, f4, f5⟩ := gf
      have bg8 := bgd.drawn (by omega) hd8
      obtain ⟨v0, v1, v2, v3, v4, v5⟩ := bg8.at.cells0
      clear hy HN2 hdd hd8
      refine hK.out _ _ ⟨v0, v1, v2, v3, v4, v5⟩ (fun hHeldn => ?_)
      clear hK K hHeld
      have hHeld := hHeldn
      clear hHeldn
      try simp only [Act.put, List.setIfInBounds_toArray, List.set_cons_zero, List.set_cons_succ]
      refine headH_takeS (i := 9) (v := ?_) 2 rfl (by kernel_rfl) (by kernel_rfl) (fun _ _ _ h => h) (Or.inl ⟨by rfl, ?_⟩) hHeld ?_
      rotate_left
      · intro w hSw
        (try dsimp only at hSw)
        go_simp
        try with_reducible rfl
      try simp only [Act.put, List.setIfInBounds_toArray, List.set_cons_zero, List.set_cons_succ]
      refine headH_all (rs := [6]) (by kernel_rfl) (by kernel_rfl) (headH_cons rfl (fun K hK => ?_) headH_nil)
      go_simp
      refine hK.out _ _ ⟨v0, v1, v2, v3, v4, v5⟩ (fun hHeldn => ?_)
      clear hK K hHeld
      have hHeld := hHeldn
      clear hHeldn
      try simp only [Act.put, List.setIfInBounds_toArray, List.set_cons_zero, List.set_cons_succ]
      refine headH_all (rs := [7]) (by kernel_rfl) (by kernel_rfl) (headH_cons rfl (fun K hK => ?_) headH_nil)
      go_simp
      refine hK.out _ _ ⟨v0, v1, v2, v3, v4, v5⟩ (fun hHeldn => ?_)
      clear hK K hHeld
      have hHeld := hHeldn
      clear hHeldn
      try simp only [Act.put, List.setIfInBounds_toArray, List.set_cons_zero, List.set_cons_succ]
      have bz8 := bz3.drawn (by omega) hdE
      have bx8 := bx3.drawn (by omega) hdE
      have sm8 := sm3.drawn hin.ne hdE
      have hb8 := Drawn.newer hbl3 (by omega) hdE
      obtain ⟨y0, y1, y2, y3, y4, y5⟩ := bz8.at.cells0
      have yf := bz8.free
      have ylt := bz8.lt
      refine headH_all (rs := [10]) (by kernel_rfl) (by kernel_rfl) (headH_cons rfl (fun K hK => ?_) headH_nil)
      go_simp
      have kp9 : Keep (fun k => k ≠ w.heap.size) w8 ((((((w8.setCell ⟨w.heap.size, 0, none⟩ (.int .i64 f.p)).setCell ⟨w.heap.size, 1, none⟩ (.int .i64 f.a)).setCell ⟨w.heap.size, 2, none⟩ (.int .i64 f.b)).setCell ⟨w.heap.size, 3, none⟩ (.int .i64 f.c)).setCell ⟨w.heap.size, 4, none⟩ (.int .i64 f.d)).setCell ⟨w.heap.size, 5, none⟩ (.int .i64 f.e)) := (((((((Keep.refl (fun k => k ≠ w.heap.size) w8).setCell (fun h => h rfl) _).setCell (fun h => h rfl) _).setCell (fun h => h rfl) _).setCell (fun h => h rfl) _).setCell (fun h => h rfl) _).setCell (fun h => h rfl) _)
      have bg9 := (bg8.at).keepS (S := fun k => k ≠ w.heap.size) (by omega) kp9
      obtain ⟨u0, u1, u2, u3, u4, u5⟩ := bg9.cells0
      have bx9 := bx8.keepS (S := fun k => k ≠ w.heap.size) (by omega) kp9
      have sm9 := sm8.keep (hin2.mono fun k hk => hk.1) kp9
      have hb9 : Below w.heap.size w ((((((w8.setCell ⟨w.heap.size, 0, none⟩ (.int .i64 f.p)).setCell ⟨w.heap.size, 1, none⟩ (.int .i64 f.a)).setCell ⟨w.heap.size, 2, none⟩ (.int .i64 f.b)).setCell ⟨w.heap.size, 3, none⟩ (.int .i64 f.c)).setCell ⟨w.heap.size, 4, none⟩ (.int .i64 f.d)).setCell ⟨w.heap.size, 5, none⟩ (.int .i64 f.e)) := (Below.setCell (Below.setCell (Below.setCell (Below.setCell (Below.setCell (Below.setCell hb8 (Nat.le_refl _) _) (Nat.le_refl _) _) (Nat.le_refl _) _) (Nat.le_refl _) _) (Nat.le_refl _) _) (Nat.le_refl _) _)
      have bz9 := bz8.store f
      refine hK.out _ _ ⟨u0, u1, u2, u3, u4, u5⟩ (fun hHeldn => ?_)
      clear hK K hHeld
      have hHeld := hHeldn
      clear hHeldn
      try simp only [Act.put, List.setIfInBounds_toArray, List.set_cons_zero, List.set_cons_succ]
      refine headH_tail (by kernel_rfl) ?_
      clear hHeld
      clear v0 v1 v2 v3 v4 v5 s0 s1 s2 s3 s4 s5 r0 r1 r2 r3 r4 r5 f0 f1 f2 f3 f4 f5 bgd bg8 bgN
      obtain ⟨wE, hwE⟩ : ∃ wE, wE = ((((((w8.setCell ⟨w.heap.size, 0, none⟩ (.int .i64 f.p)).setCell ⟨w.heap.size, 1, none⟩ (.int .i64 f.a)).setCell ⟨w.heap.size, 2, none⟩ (.int .i64 f.b)).setCell ⟨w.heap.size, 3, none⟩ (.int .i64 f.c)).setCell ⟨w.heap.size, 4, none⟩ (.int .i64 f.d)).setCell ⟨w.heap.size, 5, none⟩ (.int .i64 f.e)) := ⟨_, rfl⟩
      rw [← hwE] at bx9 sm9 hb9 bz9
      have bzE : MpBox wE w.heap.size f := bz9
      have bxE : MpBox wE (w.heap.size + 1) Mp.z := bx9
      have smE : SeeMaps wE A2 ms := sm9
      have hbE : Below w.heap.size w wE := hb9
      rw [← hwE]
      clear hwE bx9 sm9 hb9 bz9 bg9 kp9 bz8 bx8 sm8 hb8 y0 y1 y2 y3 y4 y5 yf ylt u0 u1 u2 u3 u4 u5
      obtain ⟨y0, y1, y2, y3, y4, y5⟩ := bzE.at.cells0
      obtain ⟨x0, x1, x2, x3, x4, x5⟩ := bxE.at.cells0
      have xf := bxE.free
      have xlt := bxE.lt
      have sm6 : SeeMaps ((((((wE.setCell ⟨(w.heap.size + 1), 0, none⟩ (.int .i64 g.p)).setCell ⟨(w.heap.size + 1), 1, none⟩ (.int .i64 g.a)).setCell ⟨(w.heap.size + 1), 2, none⟩ (.int .i64 g.b)).setCell ⟨(w.heap.size + 1), 3, none⟩ (.int .i64 g.c)).setCell ⟨(w.heap.size + 1), 4, none⟩ (.int .i64 g.d)).setCell ⟨(w.heap.size + 1), 5, none⟩ (.int .i64 g.e)) A2 ms := smE.keep (hin2.mono fun k hk => hk.2) (((((((Keep.refl (fun k => k ≠ w.heap.size + 1) wE).setCell (fun h => h rfl) _).setCell (fun h => h rfl) _).setCell (fun h => h rfl) _).setCell (fun h => h rfl) _).setCell (fun h => h rfl) _).setCell (fun h => h rfl) _)
      have hb6 : Below w.heap.size w ((((((wE.setCell ⟨(w.heap.size + 1), 0, none⟩ (.int .i64 g.p)).setCell ⟨(w.heap.size + 1), 1, none⟩ (.int .i64 g.a)).setCell ⟨(w.heap.size + 1), 2, none⟩ (.int .i64 g.b)).setCell ⟨(w.heap.size + 1), 3, none⟩ (.int .i64 g.c)).setCell ⟨(w.heap.size + 1), 4, none⟩ (.int .i64 g.d)).setCell ⟨(w.heap.size + 1), 5, none⟩ (.int .i64 g.e)) := (Below.setCell (Below.setCell (Below.setCell (Below.setCell (Below.setCell (Below.setCell hbE (Nat.le_succ _) _) (Nat.le_succ _) _) (Nat.le_succ _) _) (Nat.le_succ _) _) (Nat.le_succ _) _) (Nat.le_succ _) _)
      have HF := Lib.hid (⟨sm6, nm, h7, hb6⟩ : SeeMaps _ A2 ms ∧ NilOk A2 c2 ∧ ms.length ≤ 7 ∧ Below w.heap.size w ((((((wE.setCell ⟨(w.heap.size + 1), 0, none⟩ (.int .i64 g.p)).setCell ⟨(w.heap.size + 1), 1, none⟩ (.int .i64 g.a)).setCell ⟨(w.heap.size + 1), 2, none⟩ (.int .i64 g.b)).setCell ⟨(w.heap.size + 1), 3, none⟩ (.int .i64 g.c)).setCell ⟨(w.heap.size + 1), 4, none⟩ (.int .i64 g.d)).setCell ⟨(w.heap.size + 1), 5, none⟩ (.int .i64 g.e)))
      clear sm6 smE hin2 nm hb6 hbE
      go_wp2
      exact bodyPost_ret (v := .tuple #[.slice A2 ms.length c2, .agg #[.int .i64 f.p, .int .i64 f.a, .int .i64 f.b, .int .i64 f.c, .int .i64 f.d, .int .i64 f.e], .agg #[.int .i64 g.p, .int .i64 g.a, .int .i64 g.b, .int .i64 g.c, .int .i64 g.d, .int .i64 g.e]]) (by simp [results, Tryz.results33, go_sem, y0, y1, y2, y3, y4, y5, x0, x1, x2, x3, x4, x5]) rfl ⟨A2, c2, ms, f, g, rfl, HF.out⟩
    · have dq2 : (q == 0) = false := by simpa using hq2
      obtain ⟨wN, hwN⟩ : ∃ wN, wN = w6 := ⟨_, rfl⟩
      subst hwN
      clear hq2 own
      have HSP := Lib.hid (fun W (hs : SrcAt W b A c code) => l01Spoil_c W hs)
      have hdd : Drawn w3 wN.drew b A c code := dN.below (Below.drew (Below.refl _ wN))
      have bgd := bgN.below (Below.drew (Below.refl _ wN))
      obtain ⟨r0, r1, r2, r3, r4, r5⟩ := bgN.at.cells0
      unfold MvPost at HSP
      go_wp2
      refine wp_region_headS 6 (fun w' => w'.cell? ⟨bg, 0, none⟩ = some (.int .i64 g.p) ∧ w'.cell? ⟨bg, 1, none⟩ = some (.int .i64 g.a) ∧ w'.cell? ⟨bg, 2, none⟩ = some (.int .i64 g.b) ∧ w'.cell? ⟨bg, 3, none⟩ = some (.int .i64 g.c) ∧ w'.cell? ⟨bg, 4, none⟩ = some (.int .i64 g.d) ∧ w'.cell? ⟨bg, 5, none⟩ = some (.int .i64 g.e)) (by kernel_rfl) (by kernel_rfl) ⟨r0, r1, r2, r3, r4, r5⟩ (fun hHeld => ?_)
      simp only [List.drop]
      refine headH_takeS (i := 0) (v := ?_) 57 rfl (by kernel_rfl) (by kernel_rfl) (fun _ _ _ h => h) (Or.inl ⟨by rfl, ?_⟩) hHeld ?_
      rotate_left
      · intro w hSw
        (try dsimp only at hSw)
        go_simp
        try with_reducible rfl
      try simp only [Act.put, List.setIfInBounds_toArray, List.set_cons_zero, List.set_cons_succ]
      refine headH_takeS (i := 1) (v := ?_) 58 rfl (by kernel_rfl) (by kernel_rfl) (fun _ _ _ h => h) (Or.inl ⟨by rfl, ?_⟩) hHeld ?_
      rotate_left
      · intro w hSw
        (try dsimp only at hSw)
        go_simp
        try with_reducible rfl
      try simp only [Act.put, List.setIfInBounds_toArray, List.set_cons_zero, List.set_cons_succ]
      refine headH_takeS (i := 3) (v := ?_) 60 rfl (by kernel_rfl) (by kernel_rfl) (fun _ _ _ h => h) (Or.inl ⟨by rfl, ?_⟩) hHeld ?_
      rotate_left
      · intro w hSw
        (try dsimp only at hSw)
        go_simp
        try with_reducible rfl
      try simp only [Act.put, List.setIfInBounds_toArray, List.set_cons_zero, List.set_cons_succ]
      refine headH_all (rs := [2]) (by kernel_rfl) (by kernel_rfl) (headH_cons rfl (fun K hK => ?_) headH_nil)
      go_simp
      refine (HSP.out _ hdd.src).mono ?_
      rintro e w8 ⟨f, rfl, _, hd8⟩
      have hdE := hdd.trans hd8
      have bg8 := bgd.drawn (by omega) hd8
      obtain ⟨v0, v1, v2, v3, v4, v5⟩ := bg8.at.cells0
      clear HSP hdd hd8
      refine hK.out _ _ ⟨v0, v1, v2, v3, v4, v5⟩ (fun hHeldn => ?_)
      clear hK K hHeld
      have hHeld := hHeldn
      clear hHeldn
      try simp only [Act.put, List.setIfInBounds_toArray, List.set_cons_zero, List.set_cons_succ]
      refine headH_takeS (i := 4) (v := ?_) 2 rfl (by kernel_rfl) (by kernel_rfl) (fun _ _ _ h => h) (Or.inl ⟨by rfl, ?_⟩) hHeld ?_
      rotate_left
      · intro w hSw
        (try dsimp only at hSw)
        go_simp
        try with_reducible rfl
      try simp only [Act.put, List.setIfInBounds_toArray, List.set_cons_zero, List.set_cons_succ]
      have bz8 := bz3.drawn (by omega) hdE
      have bx8 := bx3.drawn (by omega) hdE
      have sm8 := sm3.drawn hin.ne hdE
      have hb8 := Drawn.newer hbl3 (by omega) hdE
      obtain ⟨y0, y1, y2, y3, y4, y5⟩ := bz8.at.cells0
      have yf := bz8.free
      have ylt := bz8.lt
      refine headH_all (rs := [5]) (by kernel_rfl) (by kernel_rfl) (headH_cons rfl (fun K hK => ?_) headH_nil)
      go_simp
      have kp9 : Keep (fun k => k ≠ w.heap.size) w8 ((((((w8.setCell ⟨w.heap.size, 0, none⟩ (.int .i64 f.p)).setCell ⟨w.heap.size, 1, none⟩ (.int .i64 f.a)).setCell ⟨w.heap.size, 2, none⟩ (.int .i64 f.b)).setCell ⟨w.heap.size, 3, none⟩ (.int .i64 f.c)).setCell ⟨w.heap.size, 4, none⟩ (.int .i64 f.d)).setCell ⟨w.heap.size, 5, none⟩ (.int .i64 f.e)) := (((((((Keep.refl (fun k => k ≠ w.heap.size) w8).setCell (fun h => h rfl) _).setCell (fun h => h rfl) _).setCell (fun h => h rfl) _).setCell (fun h => h rfl) _).setCell (fun h => h rfl) _).setCell (fun h => h rfl) _)
      have bg9 := (bg8.at).keepS (S := fun k => k ≠ w.heap.size) (by omega) kp9
      obtain ⟨u0, u1, u2, u3, u4, u5⟩ := bg9.cells0
      have bx9 := bx8.keepS (S := fun k => k ≠ w.heap.size) (by omega) kp9
      have sm9 := sm8.keep (hin2.mono fun k hk => hk.1) kp9
      have hb9 : Below w.heap.size w ((((((w8.setCell ⟨w.heap.size, 0, none⟩ (.int .i64 f.p)).setCell ⟨w.heap.size, 1, none⟩ (.int .i64 f.a)).setCell ⟨w.heap.size, 2, none⟩ (.int .i64 f.b)).setCell ⟨w.heap.size, 3, none⟩ (.int .i64 f.c)).setCell ⟨w.heap.size, 4, none⟩ (.int .i64 f.d)).setCell ⟨w.heap.size, 5, none⟩ (.int .i64 f.e)) := (Below.setCell (Below.setCell (Below.setCell (Below.setCell (Below.setCell (Below.setCell hb8 (Nat.le_refl _) _) (Nat.le_refl _) _) (Nat.le_refl _) _) (Nat.le_refl _) _) (Nat.le_refl _) _) (Nat.le_refl _) _)
      have bz9 := bz8.store f
      refine hK.out _ _ ⟨u0, u1, u2, u3, u4, u5⟩ (fun hHeldn => ?_)
      clear hK K hHeld
      have hHeld := hHeldn
      clear hHeldn
      try simp only [Act.put, List.setIfInBounds_toArray, List.set_cons_zero, List.set_cons_succ]
      refine headH_tail (by kernel_rfl) ?_
      clear hHeld
      clear v0 v1 v2 v3 v4 v5 r0 r1 r2 r3 r4 r5 bgd bg8 bgN
      obtain ⟨wE, hwE⟩ : ∃ wE, wE = ((((((w8.setCell ⟨w.heap.size, 0, none⟩ (.int .i64 f.p)).setCell ⟨w.heap.size, 1, none⟩ (.int .i64 f.a)).setCell ⟨w.heap.size, 2, none⟩ (.int .i64 f.b)).setCell ⟨w.heap.size, 3, none⟩ (.int .i64 f.c)).setCell ⟨w.heap.size, 4, none⟩ (.int .i64 f.d)).setCell ⟨w.heap.size, 5, none⟩ (.int .i64 f.e)) := ⟨_, rfl⟩
      rw [← hwE] at bx9 sm9 hb9 bz9
      have bzE : MpBox wE w.heap.size f := bz9
      have bxE : MpBox wE (w.heap.size + 1) Mp.z := bx9
      have smE : SeeMaps wE A2 ms := sm9
      have hbE : Below w.heap.size w wE := hb9
      rw [← hwE]
      clear hwE bx9 sm9 hb9 bz9 bg9 kp9 bz8 bx8 sm8 hb8 y0 y1 y2 y3 y4 y5 yf ylt u0 u1 u2 u3 u4 u5
      obtain ⟨y0, y1, y2, y3, y4, y5⟩ := bzE.at.cells0
      obtain ⟨x0, x1, x2, x3, x4, x5⟩ := bxE.at.cells0
      have xf := bxE.free
      have xlt := bxE.lt
      have sm6 : SeeMaps ((((((wE.setCell ⟨(w.heap.size + 1), 0, none⟩ (.int .i64 g.p)).setCell ⟨(w.heap.size + 1), 1, none⟩ (.int .i64 g.a)).setCell ⟨(w.heap.size + 1), 2, none⟩ (.int .i64 g.b)).setCell ⟨(w.heap.size + 1), 3, none⟩ (.int .i64 g.c)).setCell ⟨(w.heap.size + 1), 4, none⟩ (.int .i64 g.d)).setCell ⟨(w.heap.size + 1), 5, none⟩ (.int .i64 g.e)) A2 ms := smE.keep (hin2.mono fun k hk => hk.2) (((((((Keep.refl (fun k => k ≠ w.heap.size + 1) wE).setCell (fun h => h rfl) _).setCell (fun h => h rfl) _).setCell (fun h => h rfl) _).setCell (fun h => h rfl) _).setCell (fun h => h rfl) _).setCell (fun h => h rfl) _)
      have hb6 : Below w.heap.size w ((((((wE.setCell ⟨(w.heap.size + 1), 0, none⟩ (.int .i64 g.p)).setCell ⟨(w.heap.size + 1), 1, none⟩ (.int .i64 g.a)).setCell ⟨(w.heap.size + 1), 2, none⟩ (.int .i64 g.b)).setCell ⟨(w.heap.size + 1), 3, none⟩ (.int .i64 g.c)).setCell ⟨(w.heap.size + 1), 4, none⟩ (.int .i64 g.d)).setCell ⟨(w.heap.size + 1), 5, none⟩ (.int .i64 g.e)) := (Below.setCell (Below.setCell (Below.setCell (Below.setCell (Below.setCell (Below.setCell hbE (Nat.le_succ _) _) (Nat.le_succ _) _) (Nat.le_succ _) _) (Nat.le_succ _) _) (Nat.le_succ _) _) (Nat.le_succ _) _)
      have HF := Lib.hid (⟨sm6, nm, h7, hb6⟩ : SeeMaps _ A2 ms ∧ NilOk A2 c2 ∧ ms.length ≤ 7 ∧ Below w.heap.size w ((((((wE.setCell ⟨(w.heap.size + 1), 0, none⟩ (.int .i64 g.p)).setCell ⟨(w.heap.size + 1), 1, none⟩ (.int .i64 g.a)).setCell ⟨(w.heap.size + 1), 2, none⟩ (.int .i64 g.b)).setCell ⟨(w.heap.size + 1), 3, none⟩ (.int .i64 g.c)).setCell ⟨(w.heap.size + 1), 4, none⟩ (.int .i64 g.d)).setCell ⟨(w.heap.size + 1), 5, none⟩ (.int .i64 g.e)))
      clear sm6 smE hin2 nm hb6 hbE
      go_wp2
      exact bodyPost_ret (v := .tuple #[.slice A2 ms.length c2, .agg #[.int .i64 f.p, .int .i64 f.a, .int .i64 f.b, .int .i64 f.c, .int .i64 f.d, .int .i64 f.e], .agg #[.int .i64 g.p, .int .i64 g.a, .int .i64 g.b, .int .i64 g.c, .int .i64 g.d, .int .i64 g.e]]) (by simp [results, Tryz.results33, go_sem, y0, y1, y2, y3, y4, y5, x0, x1, x2, x3, x4, x5]) rfl ⟨A2, c2, ms, f, g, rfl, HF.out⟩
end Go.Proofs.YtilfamenadaboaaGreat
