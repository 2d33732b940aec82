/- Draws of lists of maps, seldom others: 'l01BadList'. No condition. -/
import Derived.Test.YtbodaefdaagelaaDrawL
namespace Go.Proofs.Ytbodaefdaagelaa
set_option linter.unusedSimpArgs false
set_option linter.unusedVariables false
set_option linter.unusedSectionVars false
open Go.RowKit
/-- a list of maps that a draw hands back: the call's own, or one that came in -/
def MsPost (AL : Option Addr) (R : List Mp → Prop) (w : World) (b : Nat) (A : Option Addr) (c : Nat) (code : List Int) (e : Ending) (w' : World) : Prop :=
  ∃ (A' : Option Addr) (c' : Nat) (ms : List Mp), e = .returned (.slice A' ms.length c') ∧ SeeMaps w' A' ms ∧ NilOk A' c' ∧ InS (fun k => k ≠ b) A' ∧ (A' = AL ∨ InS (fun k => w.heap.size ≤ k ∧ k < w'.heap.size) A') ∧ R ms ∧ Drawn w w' b A c code
def lenV : Value → Nat
  | .slice _ n _ => n
  | _ => 0
theorem OwnMaps.far {w : World} {base b n c : Nat} {A : Option Addr} {ms : List Mp} (h : OwnMaps w base (.slice A n c) ms) (hb : b < base) : InS (fun k => k ≠ b) A := fun a ha => by
  subst ha
  have := (h.lt a.block rfl).1
  show a.block ≠ b
  omega
theorem OwnMaps.inS {w : World} {base n c : Nat} {A : Option Addr} {ms : List Mp} (h : OwnMaps w base (.slice A n c) ms) : InS (fun k => base ≤ k ∧ k < w.heap.size) A := fun a ha => by
  subst ha
  exact h.lt a.block rfl
theorem SeeMaps.drawn {w w' : World} {b c : Nat} {A AL : Option Addr} {code : List Int} {ms : List Mp} (h : SeeMaps w AL ms) (hA : InS (fun k => k ≠ b) AL) (hd : Drawn w w' b A c code) : SeeMaps w' AL ms := h.keep hA hd.keep
set_option maxHeartbeats 8000000 in
set_option maxRecDepth 100000 in
theorem l01BadList_c {b c cL : Nat} {A AL : Option Addr} {code : List Int} {ms : List Mp} (w : World) (h : SrcAt w b A c code) (hs : SeeMaps w AL ms) (hA : NilOk AL cL) (hf : InS (fun k => k ≠ b) AL) (h0 : 0 < ms.length) (h6 : ms.length ≤ 6) :
    Calls Try.prog 126 #[.pointer (some ⟨b, 0, none⟩), .slice AL ms.length cL] w (MsPost AL (fun ms' => ms'.length ≤ 7) w b A c code) := by
  unfold MsPost
  have hlt := h.lt
  have own0 : OwnMaps (w.alloc (.cells #[] 67)) w.heap.size (.slice (some ⟨w.heap.size, 0, none⟩) 0 0) [] := ⟨[], own_mono (World.ownsRow_made (e := 67) (size := 6) w #[] 0 (Nat.le_refl _) (by decide) rfl) (Nat.le_refl _), ⟨rfl, fun k m hk => by simp at hk⟩⟩
  have d0 : Drawn w (w.alloc (.cells #[] 67)) b A c code := (Drawn.refl h).below (kbelow w _)
  have hs0 := hs.below (kbelow w (.cells #[] 67))
  obtain ⟨bL, oL, rfl, gL⟩ := hs (List.length_pos_iff.1 h0)
  obtain ⟨m0, hm0⟩ := el h0
  have hz0 := d0.keep.size
  have HS := Lib.hid hs
  have HA := Lib.hid hA
  have HM0 := Lib.hid hm0
  have HF := Lib.hid hf
  have hbL : bL ≠ b := hf ⟨bL, oL, none⟩ rfl
  clear hs hA gL hm0 hf
  go_enter Try.func126, Try.ntmps126
  go_wp2_with (at_builtin; go_must (refine wpList_cat_map _ rfl (.tmp 6) (.tmp 7) rfl w.heap.size _ [] ms rfl own0 ⟨bL, oL, none⟩ cL rfl hs0 (by simp; omega) hz0 ?_; intro v1 w1 hown1 hg1 hv1; have hs1 := hown1.see; obtain ⟨A1, c1, rfl, _⟩ := hs1))
  have hown2 : OwnMaps w1 w.heap.size (.slice A1 ms.length c1) ms := hown1
  have hd1 := d0.grown hlt hg1 (fun j hj => (own0.lt j hj).1)
  have HNX := Lib.hid (l01Next_c 40 w1 hd1.src (by omega))
  clear own0 d0 hs0 hown1 hg1 hv1
  refine HNX.out.mono ?_
  rintro e w2 ⟨x, rfl, _, _, hd2⟩
  have own := hown2.drawn hlt hd2
  have hd := hd1.trans hd2
  have hz2 := hd.keep.size
  clear HNX hd2 hd1 hown2
  by_cases e0 : x = 0
  · subst e0
    have hdd := hd.below (kbelow w2 (.cells #[] 67))
    go_wp2
    go_returns
    exact ⟨some ⟨w2.heap.size, 0, none⟩, 0, [], rfl, (fun hn => absurd rfl hn), (fun e => by cases e), (fun a ha => by have := Option.some.inj ha; subst this; show w2.heap.size ≠ b; omega), Or.inr (fun a ha => by have := Option.some.inj ha; subst this; exact ⟨hz2, by show w2.heap.size < _; rw [World.size_alloc]; omega⟩), by simp, hdd⟩
  · have d0 : (x == 0) = false := beq_eq_false_iff_ne.2 e0
    by_cases e1 : x = 1
    · subst e1
      have HSP := Lib.hid (l01Spoil_c w2 hd.src)
      unfold MvPost at HSP
      go_wp2_with fail
      refine HSP.out.mono ?_
      rintro e w3 ⟨m, rfl, _, hd3⟩
      have own3 := own.drawn hlt hd3
      have hd4 := hd.trans hd3
      have kk8 := kbelow w3 (.cells #[.int .i64 m.p, .int .i64 m.a, .int .i64 m.b, .int .i64 m.c, .int .i64 m.d, .int .i64 m.e] 67)
      have hd8 := hd4.below kk8
      have own8 := own3.below kk8
      clear HSP hd3 own own3 hd hd4
      go_wp2_with (at_builtin; go_must (refine wpList_push_map _ rfl (.tmp 16) (.tmp 19) rfl w.heap.size _ ms rfl own8 _ m rfl (MpBox.new m 67 (by first | (with_reducible rfl) | simp)) (by omega) hd8.keep.size ?_; intro v9 w9 hown9 hg9 hv9; have hs9 := hown9.see; obtain ⟨A9, c9, rfl, _⟩ := hs9))
      have hd9 := hd8.grown hlt hg9 (fun j hj => (own8.lt j hj).1)
      go_returns
      obtain ⟨A8, c8, e8, s8⟩ := hown9.see
      cases e8
      exact ⟨A9, c9, ms ++ [m], by simp, s8, hown9.nilok, hown9.far hlt, Or.inr hown9.inS, by simp; omega, hd9⟩
    · have d1 : (x == 1) = false := beq_eq_false_iff_ne.2 e1
      by_cases e2 : x = 2
      · subst e2
        go_wp2
        go_loopw [5] (fun v wr => ∃ (ns : List Mp), ns.length ≤ 7 ∧ OwnMaps wr w.heap.size v ns ∧ Drawn w wr b A c code) (fun v _ => 8 - lenV v)
        case atStart => exact ⟨ms, by omega, own, hd⟩
        case round =>
          clear own hd
          obtain ⟨ns, hns, own, hd⟩ := hrel
          obtain ⟨Av, cv, rfl, sv⟩ := own.see
          by_cases hl : ns.length ≤ 6
          · have hl1 : (ns.length : Int) ≤ 6 := by omega
            have hss := HS.out.drawn HF.out hd
            obtain ⟨bL', oL', e', gL⟩ := hss (List.length_pos_iff.1 h0)
            simp only [Option.some.injEq, Addr.mk.injEq] at e'
            obtain ⟨rfl, rfl, _⟩ := e'
            have hmt := gL 0 m0 HM0.out
            rw [Nat.zero_mul, Nat.add_zero] at hmt
            obtain ⟨q0, q1, q2, q3, q4, q5⟩ := hmt
            have kk8 := kbelow wr (.cells #[.int .i64 m0.p, .int .i64 m0.a, .int .i64 m0.b, .int .i64 m0.c, .int .i64 m0.d, .int .i64 m0.e] 67)
            have hd8 := hd.below kk8
            have own8 := own.below kk8
            clear own sv hss gL
            go_wp2_with (at_builtin; go_must (refine wpList_push_map _ rfl (.tmp 26) (.tmp 30) rfl w.heap.size _ ns rfl own8 _ m0 rfl (MpBox.new m0 67 (by first | (with_reducible rfl) | simp)) (by omega) hd8.keep.size ?_; intro v9 w9 hown9 hg9 hv9; have hs9 := hown9.see; obtain ⟨A9, c9, rfl, _⟩ := hs9))
            have hd9 := hd8.grown hlt hg9 (fun j hj => (own8.lt j hj).1)
            go_roundw
            case rel => exact ⟨ns ++ [m0], by simp; omega, by simpa using hown9, hd9⟩
            case measure => simp [lenV]; omega
          · have hl1 : ¬ (ns.length : Int) ≤ 6 := by omega
            have HO := Lib.hid own
            have hno := own.nilok
            have hfo := own.far hlt
            have hio := own.inS
            have HSV := Lib.hid sv
            clear own sv
            go_wp2
            go_returns
            exact ⟨_, _, ns, rfl, HSV.out, hno, hfo, Or.inr hio, hns, hd⟩
      · have d2 : (x == 2) = false := beq_eq_false_iff_ne.2 e2
        by_cases e3 : x = 3
        · subst e3
          have hss := HS.out.drawn HF.out hd
          obtain ⟨bL', oL', e', gL⟩ := hss (List.length_pos_iff.1 h0)
          simp only [Option.some.injEq, Addr.mk.injEq] at e'
          obtain ⟨rfl, rfl, _⟩ := e'
          have hmt := gL 0 m0 HM0.out
          rw [Nat.zero_mul, Nat.add_zero] at hmt
          obtain ⟨q0, q1, q2, q3, q4, q5⟩ := hmt
          obtain ⟨g1, rfl⟩ : ∃ g, A1 = some ⟨g, 0, none⟩ := by
            obtain ⟨zs, hz, _⟩ := own
            rcases hz.2 with ⟨e, _⟩ | ⟨g, cap, cur, e, _⟩
            · simp only [Value.slice.injEq] at e; omega
            · simp only [Value.slice.injEq] at e; exact ⟨g, e.1⟩
          have h01 : (0 : Int) < ms.length := by omega
          have hn7 := fun W (hs : SrcAt W b A c code) => l01Next_c (ms.length : Int) W hs (by omega)
          have HN7 := Lib.hid hn7
          have hbd := fun W (hs : SrcAt W b A c code) => l01Bad_c m0 W hs
          unfold MvPost at hbd
          have HBD := Lib.hid hbd
          have gk : ∀ W, Keep (fun k => k ≠ b) w2.drew W → W.cell? ⟨bL, oL, none⟩ = some (.int .i64 m0.p) ∧ W.cell? ⟨bL, oL + 1, none⟩ = some (.int .i64 m0.a) ∧ W.cell? ⟨bL, oL + 2, none⟩ = some (.int .i64 m0.b) ∧ W.cell? ⟨bL, oL + 3, none⟩ = some (.int .i64 m0.c) ∧ W.cell? ⟨bL, oL + 4, none⟩ = some (.int .i64 m0.d) ∧ W.cell? ⟨bL, oL + 5, none⟩ = some (.int .i64 m0.e) := fun W hk =>
            have kc := fun {o : Nat} {v : Value} (q : w2.cell? ⟨bL, o, none⟩ = some v) => hk.cell (p := ⟨bL, o, none⟩) (v := v) hbL (bcell (Below.drew (Below.refl _ w2)) q)
            ⟨kc q0, kc q1, kc q2, kc q3, kc q4, kc q5⟩
          clear hss gL hn7 hbd
          go_wp2
          refine wp_region_headS 10 (fun w' => w'.cell? ⟨bL, oL, none⟩ = some (.int .i64 m0.p) ∧ w'.cell? ⟨bL, oL + 1, none⟩ = some (.int .i64 m0.a) ∧ w'.cell? ⟨bL, oL + 2, none⟩ = some (.int .i64 m0.b) ∧ w'.cell? ⟨bL, oL + 3, none⟩ = some (.int .i64 m0.c) ∧ w'.cell? ⟨bL, oL + 4, none⟩ = some (.int .i64 m0.d) ∧ w'.cell? ⟨bL, oL + 5, none⟩ = some (.int .i64 m0.e)) (by kernel_rfl) (by kernel_rfl) ⟨q0, q1, q2, q3, q4, q5⟩ (fun hHeld => ?_)
          simp only [List.drop]
          refine headH_takeS (i := 0) (v := ?_) 35 rfl (by kernel_rfl) (by kernel_rfl) (fun _ _ _ h => h) (Or.inl ⟨by rfl, ?_⟩) hHeld ?_
          rotate_left
          · intro w hSw
            (try dsimp only at hSw)
            go_simp
            try with_reducible rfl
          try simp only [Act.put, List.setIfInBounds_toArray, List.set_cons_zero, List.set_cons_succ]
          refine headH_takeS (i := 1) (v := ?_) 36 rfl (by kernel_rfl) (by kernel_rfl) (fun _ _ _ h => h) (Or.inl ⟨by rfl, ?_⟩) hHeld ?_
          rotate_left
          · intro w hSw
            (try dsimp only at hSw)
            go_simp
            try with_reducible rfl
          try simp only [Act.put, List.setIfInBounds_toArray, List.set_cons_zero, List.set_cons_succ]
          refine headH_takeS (i := 2) (v := ?_) 37 rfl (by kernel_rfl) (by kernel_rfl) (fun _ _ _ h => h) (Or.inl ⟨by rfl, ?_⟩) hHeld ?_
          rotate_left
          · intro w hSw
            (try dsimp only at hSw)
            go_simp
            try with_reducible rfl
          try simp only [Act.put, List.setIfInBounds_toArray, List.set_cons_zero, List.set_cons_succ]
          refine headH_takeS (i := 3) (v := ?_) 38 rfl (by kernel_rfl) (by kernel_rfl) (fun _ _ _ h => h) (Or.inl ⟨by rfl, ?_⟩) hHeld ?_
          rotate_left
          · intro w hSw
            (try dsimp only at hSw)
            go_simp
            try with_reducible rfl
          try simp only [Act.put, List.setIfInBounds_toArray, List.set_cons_zero, List.set_cons_succ]
          refine headH_takeS (i := 5) (v := ?_) 40 rfl (by kernel_rfl) (by kernel_rfl) (fun _ _ _ h => h) (Or.inl ⟨by rfl, ?_⟩) hHeld ?_
          rotate_left
          · intro w hSw
            (try dsimp only at hSw)
            go_simp
            try with_reducible rfl
          try simp only [Act.put, List.setIfInBounds_toArray, List.set_cons_zero, List.set_cons_succ]
          refine headH_takeS (i := 6) (v := ?_) 41 rfl (by kernel_rfl) (by kernel_rfl) (fun _ _ _ h => h) (Or.inl ⟨by rfl, ?_⟩) hHeld ?_
          rotate_left
          · intro w hSw
            (try dsimp only at hSw)
            go_simp
            try with_reducible rfl
          try simp only [Act.put, List.setIfInBounds_toArray, List.set_cons_zero, List.set_cons_succ]
          refine headH_takeS (i := 7) (v := ?_) 42 rfl (by kernel_rfl) (by kernel_rfl) (fun _ _ _ h => h) (Or.inl ⟨by rfl, ?_⟩) hHeld ?_
          rotate_left
          · intro w hSw
            (try dsimp only at hSw)
            go_simp
            try with_reducible rfl
          try simp only [Act.put, List.setIfInBounds_toArray, List.set_cons_zero, List.set_cons_succ]
          refine headH_takeS (i := 8) (v := ?_) 43 rfl (by kernel_rfl) (by kernel_rfl) (fun _ _ _ h => h) (Or.inl ⟨by rfl, ?_⟩) hHeld ?_
          rotate_left
          · intro w hSw
            (try dsimp only at hSw)
            go_simp
            try with_reducible rfl
          try simp only [Act.put, List.setIfInBounds_toArray, List.set_cons_zero, List.set_cons_succ]
          refine headH_all (rs := [4]) (by kernel_rfl) (by kernel_rfl) (headH_cons rfl (fun K hK => ?_) headH_nil)
          go_simp
          have hd0 : Drawn w w2.drew b A c code := hd.below (Below.drew (Below.refl _ w2))
          have own0 := own.below (Below.drew (Below.refl _ w2))
          refine (HN7.out _ hd0.src).mono ?_
          rintro e w3 ⟨y, rfl, hy, _, hd3⟩
          obtain ⟨y0, y1⟩ := hy (by omega)
          obtain ⟨k, rfl⟩ := Int.eq_ofNat_of_zero_le y0
          have hkl : k < ms.length := by omega
          have own3 := own0.drawn hlt hd3
          have hmt3 := gk w3 hd3.keep
          refine hK.out _ _ hmt3 (fun hHeldn => ?_)
          clear hK K hHeld
          have hHeld := hHeldn
          clear hHeldn
          try simp only [Act.put, List.setIfInBounds_toArray, List.set_cons_zero, List.set_cons_succ]
          refine headH_all (rs := [9]) (by kernel_rfl) (by kernel_rfl) (headH_cons rfl (fun K hK => ?_) headH_nil)
          go_simp
          have hd3' := hd0.trans hd3
          refine (HBD.out _ hd3'.src).mono ?_
          rintro e w4 ⟨r, rfl, _, hd4⟩
          have own4 := own3.drawn hlt hd4
          have hd4' := hd3'.trans hd4
          have hmt4 := gk w4 (hd3.keep.trans hd4.keep)
          refine hK.out _ _ hmt4 (fun hHeldn => ?_)
          clear hK K hHeld
          have hHeld := hHeldn
          clear hHeldn
          try simp only [Act.put, List.setIfInBounds_toArray, List.set_cons_zero, List.set_cons_succ]
          refine headH_tail (by kernel_rfl) ?_
          obtain ⟨mk, hmk⟩ := el hkl
          obtain ⟨p0, p1, p2, p3, p4, p5⟩ := own4.at_ hmk
          have pf := own4.free
          have own5 := own4.put hkl r
          have hg := (own4.lt g1 rfl).1
          have hd5 := (((((hd4'.set hlt (a := ⟨g1, k * 6, none⟩) hg (.int .i64 r.p)).set hlt (a := ⟨g1, k * 6 + 1, none⟩) hg (.int .i64 r.a)).set hlt (a := ⟨g1, k * 6 + 2, none⟩) hg (.int .i64 r.b)).set hlt (a := ⟨g1, k * 6 + 3, none⟩) hg (.int .i64 r.c)).set hlt (a := ⟨g1, k * 6 + 4, none⟩) hg (.int .i64 r.d)).set hlt (a := ⟨g1, k * 6 + 5, none⟩) hg (.int .i64 r.e)
          have k0 : (0 : Int) ≤ k := by omega
          have k1 : (k : Int) < ms.length := by omega
          have HO := Lib.hid own5
          have HD := Lib.hid hd5
          clear own5 hd5 hHeld hmk own own0 own3 hmt3 hmt4 q0 q1 q2 q3 q4 q5 gk HN7 HBD
          go_wp2
          go_returns
          obtain ⟨A8, c8, e8, s8⟩ := HO.out.see
          have h5 : ms.length = (ms.set k r).length := List.length_set.symm
          simp only [Value.slice.injEq] at e8
          obtain ⟨rfl, _, rfl⟩ := e8
          exact ⟨some ⟨g1, 0, none⟩, c1, ms.set k r, by rw [← h5]; rfl, s8, HO.out.nilok, HO.out.far hlt, Or.inr HO.out.inS, by omega, HD.out⟩
        · have d3 : (x == 3) = false := beq_eq_false_iff_ne.2 e3
          have hss := HS.out.drawn HF.out hd
          go_wp2
          go_returns
          exact ⟨_, _, _, rfl, hss, HA.out, HF.out, Or.inl rfl, by omega, hd⟩
/-! Draws of lists of maps for words: 'l05DrawList'. -/
theorem MpBox.keepAt {w w' : World} {q q' : Nat} {m : Mp} (h : MpBox w q m) (hk : Keep (fun k => k ≠ q') w w') (hq : q ≠ q') : MpBox w' q m := by
  have hl := h.lt
  obtain ⟨t, h⟩ := h
  exact ⟨t, (hk.block q hl hq).trans h⟩
theorem two_maps (w : World) (f g : Mp) : OwnMaps (w.alloc (.cells #[.int .i64 f.p, .int .i64 f.a, .int .i64 f.b, .int .i64 f.c, .int .i64 f.d, .int .i64 f.e, .int .i64 g.p, .int .i64 g.a, .int .i64 g.b, .int .i64 g.c, .int .i64 g.d, .int .i64 g.e] 67)) w.heap.size (.slice (some ⟨w.heap.size, 0, none⟩) 2 2) [f, g] := by
  exact ⟨_, ⟨rfl, .inr ⟨w.heap.size, 2, _, rfl, Nat.le_refl _, heap_alloc_new w _, Nat.le_refl _, by decide, rfl, rfl⟩⟩, repCells [f, g]⟩
set_option maxHeartbeats 8000000 in
set_option maxRecDepth 100000 in
theorem l05DrawList_c {b c : Nat} {A : Option Addr} {code : List Int} (w : World) (h : SrcAt w b A c code) :
    Calls Try.prog 124 #[.pointer (some ⟨b, 0, none⟩)] w (MlPost (fun ms => ∃ n : Nat, 1 ≤ n ∧ n ≤ 5 ∧ RightL ms n) w b A c code) := by
  unfold MlPost
  have hlt := h.lt
  have hpk := pick_any [2, 3, 4, 5] 4 rfl (by omega) (by omega) h w.heap.size rfl _ rfl
  have HPK := Lib.hid hpk
  clear hpk
  go_enter Try.func124, Try.ntmps124
  go_wp2_with fail
  obtain ⟨W2, hW2⟩ : ∃ W2, W2 = w.alloc (.cells ([2, 3, 4, 5].map (Value.int .i64)).toArray 2) := ⟨_, rfl⟩
  have hW3 : W2 = w.alloc (.cells #[.int .i64 2, .int .i64 3, .int .i64 4, .int .i64 5] 2) := hW2
  rw [← hW2] at HPK
  rw [← hW3]
  clear hW2 hW3
  refine HPK.out.mono ?_
  rintro e w2 ⟨x, rfl, hx, hd⟩
  obtain ⟨n, rfl, n1, n5⟩ : ∃ n : Nat, x = (n : Int) ∧ 1 ≤ n ∧ n ≤ 5 := by
    simp at hx
    refine ⟨x.toNat, ?_, ?_, ?_⟩ <;> omega
  have HNX := Lib.hid (l01Next_c 3 w2 hd.src (by omega))
  clear hx HPK
  go_wp2_with fail
  refine HNX.out.mono ?_
  rintro e w3 ⟨t, rfl, ht, _, hd3⟩
  obtain ⟨t0, t3⟩ := ht (by omega)
  have hd3' := hd.trans hd3
  clear HNX ht hd hd3
  by_cases et : 0 < t
  · have HPK := Lib.hid (pick_any [1, 2, 3, 4, 5] 5 rfl (by omega) (by omega) hd3'.src w3.heap.size rfl _ rfl)
    go_wp2_with fail
    obtain ⟨W2, hW2⟩ : ∃ W2, W2 = w3.alloc (.cells ([1, 2, 3, 4, 5].map (Value.int .i64)).toArray 2) := ⟨_, rfl⟩
    have hW3 : W2 = w3.alloc (.cells #[.int .i64 1, .int .i64 2, .int .i64 3, .int .i64 4, .int .i64 5] 2) := hW2
    rw [← hW2] at HPK
    rw [← hW3]
    clear hW2 hW3
    refine HPK.out.mono ?_
    rintro e w4 ⟨x, rfl, hx, hd4⟩
    obtain ⟨m, rfl, m1, m5⟩ : ∃ m : Nat, x = (m : Int) ∧ 1 ≤ m ∧ m ≤ 5 := by
      simp at hx
      refine ⟨x.toNat, ?_, ?_, ?_⟩ <;> omega
    have hd4' := hd3'.trans hd4
    have HDL := Lib.hid (l01DrawList_c m w4 hd4'.src m1 m5)
    unfold MlPost at HDL
    clear hd4 hd3' HPK hx
    go_wp2_with fail
    refine HDL.out.mono ?_
    rintro e w5 ⟨v, ms, rfl, own, hr, hd5⟩
    have hd5' := hd4'.trans hd5
    have own' := own.mono hd4'.keep.size
    have HO := Lib.hid own'
    have HR := Lib.hid hr
    clear own own' hr
    go_wp2
    go_returns
    exact ⟨_, _, rfl, HO.out, ⟨m, m1, m5, HR.out⟩, hd5'⟩
  · have HDO := Lib.hid (l01DrawOrder_c n w3 hd3'.src n5)
    go_wp2_with fail
    refine HDO.out.mono ?_
    rintro e w4 ⟨v4, xs, rfl, hxl, hin, own4, hd4⟩
    have hd4' := hd3'.trans hd4
    obtain ⟨g, cx, rfl⟩ := own4.someI (by intro e; rw [e] at hxl; simp at hxl; omega)
    have own4' := own4.mono hd3'.keep.size
    have HID := Lib.hid (fun W => l01Identity_c (n : Int) W (by omega) (by omega))
    have hid := FillN.of (idM_MpN (n := (n : Int)) (by omega) (by omega))
    generalize idM (n : Int) = m1 at *
    have HFI := Lib.hid hid
    have HXL := Lib.hid hxl
    have HIN := Lib.hid hin
    clear HDO hd3' hd4 own4 hid hin
    rw [hxl] at own4' ⊢
    clear hxl
    go_wp2_with fail
    refine (HID.out w4).mono ?_
    rintro e w5 ⟨rfl, hb5⟩
    have own5 := own4'.below hb5
    have hd5 := hd4'.below hb5
    have hz5 := hd5.keep.size
    have b5 : b < w5.heap.size := hd5.src.lt
    obtain ⟨W6, hW6⟩ : ∃ W6, W6 = (w5.alloc (.cells #[.int .i64 (n : Int), .int .i64 0, .int .i64 0, .int .i64 0, .int .i64 0, .int .i64 0] 67)).alloc (.cells #[.int .i64 m1.p, .int .i64 m1.a, .int .i64 m1.b, .int .i64 m1.c, .int .i64 m1.d, .int .i64 m1.e] 67) := ⟨_, rfl⟩
    have k6 : Below w5.heap.size w5 W6 := by rw [hW6]; go_grown
    have bt : MpBox W6 w5.heap.size ⟨(n : Int), 0, 0, 0, 0, 0⟩ := by rw [hW6]; exact (MpBox.new ⟨(n : Int), 0, 0, 0, 0, 0⟩ 67 rfl).keep _
    have bs : MpBox W6 (w5.heap.size + 1) m1 := by rw [hW6]; exact MpBox.new m1 67 (by rw [World.size_alloc])
    have own6 := own5.below k6
    have hgl := (own5.lt g rfl).2
    have hd6 := hd5.below k6
    have hsee := own6.see'
    have HSEE := Lib.hid (fun (k : Nat) x (hk : xs[k]? = some x) => own6.at_ hk)
    have ft : FillN n ⟨(n : Int), 0, 0, 0, 0, 0⟩ := ⟨rfl, fun i hi => ⟨fun _ => by
      have e : Mp.to ⟨(n : Int), 0, 0, 0, 0, 0⟩ i = 0 := by match i, hi with | 0, _ => rfl | 1, _ => rfl | 2, _ => rfl | 3, _ => rfl | 4, _ => rfl
      rw [e]; omega, fun _ => by match i, hi with | 0, _ => rfl | 1, _ => rfl | 2, _ => rfl | 3, _ => rfl | 4, _ => rfl⟩⟩
    clear own4' own5 hd4' hd5 hsee
    go_wp2
    rw [← hW6]
    clear hW6
    go_loopw [7] (fun iv wr => ∃ (i : Nat) (m : Mp), i ≤ n ∧ iv = .int .i64 i ∧ FillN n m ∧ MpBox wr w5.heap.size m ∧ Keep (fun k => k ≠ w5.heap.size) W6 wr) (fun iv _ => n - (intOf iv).toNat)
    case atStart => exact ⟨0, _, Nat.zero_le _, rfl, ft, bt, Keep.refl _ _⟩
    case round =>
      clear ft bt
      obtain ⟨i, m, hi, rfl, ft, bt, kt⟩ := hrel
      have i0 : (0 : Int) ≤ i := by omega
      by_cases hin : i < n
      · have i1 : (i : Int) < n := by omega
        have wi : IntKind.i64.wrap ((i : Int) + 1) = (i : Int) + 1 := by rw [IntKind.wrap_i64]; omega
        obtain ⟨j, hj, hjn⟩ : ∃ j : Nat, Int.tmod ((i : Int) + 1) n = (j : Int) ∧ j < n := by
          have := rem_rng (x := (i : Int) + 1) (n := n) (by omega) (by omega)
          exact ⟨(Int.tmod ((i : Int) + 1) n).toNat, by omega, by omega⟩
        have j0 : (0 : Int) ≤ j := by omega
        have j1 : (j : Int) < n := by omega
        have hn0 : ¬ n = 0 := by omega
        obtain ⟨x, hx⟩ := el (xs := xs) (k := i) (by rw [HXL.out]; exact hin)
        obtain ⟨y, hy⟩ := el (xs := xs) (k := j) (by rw [HXL.out]; exact hjn)
        obtain ⟨x0, x1⟩ := HIN.out x (List.mem_of_getElem? hx)
        obtain ⟨y0, y1⟩ := HIN.out y (List.mem_of_getElem? hy)
        have q1 := kt.cell (p := ⟨g, i, none⟩) (by show g ≠ _; omega) (HSEE.out i x hx)
        have q2 := kt.cell (p := ⟨g, j, none⟩) (by show g ≠ _; omega) (HSEE.out j y hy)
        obtain ⟨xn, rfl⟩ := Int.eq_ofNat_of_zero_le x0
        have x5 : xn < 5 := by omega
        have x5' : (xn : Int) < 5 := by omega
        have qk := bt.at.to' x5
        have fr := bt.free
        have ft2 := ft.set (i := xn) (by omega) n5 y0 y1
        have bt2 := bt.drew.set x5 y
        have kt2 := (kt.trans (kb (Below.drew (Below.refl _ wr)))).set (a := ⟨w5.heap.size, 1 + xn, none⟩) (fun h => h rfl) (.int .i64 y)
        clear hx hy
        go_wp2
        refine wp_region_headS 13 (fun w' => w'.cell? ⟨g, i, none⟩ = some (.int .i64 xn) ∧ w'.cell? ⟨g, j, none⟩ = some (.int .i64 y)) (by kernel_rfl) (by kernel_rfl) ⟨q1, q2⟩ (fun hHeld => ?_)
        simp only [List.drop]
        refine headH_takeS (i := 0) (v := ?_) 32 rfl (by kernel_rfl) (by kernel_rfl) (fun _ _ _ h => h) (Or.inl ⟨by rfl, ?_⟩) hHeld ?_
        rotate_left
        · intro w hSw
          (try dsimp only at hSw)
          go_simp
          try with_reducible rfl
        try simp only [Act.put, List.setIfInBounds_toArray, List.set_cons_zero, List.set_cons_succ]
        refine headH_takeS (i := 1) (v := ?_) 33 rfl (by kernel_rfl) (by kernel_rfl) (fun _ _ _ h => h) (Or.inl ⟨by rfl, ?_⟩) hHeld ?_
        rotate_left
        · intro w hSw
          (try dsimp only at hSw)
          go_simp
          try with_reducible rfl
        try simp only [Act.put, List.setIfInBounds_toArray, List.set_cons_zero, List.set_cons_succ]
        refine headH_takeS (i := 2) (v := ?_) 34 rfl (by kernel_rfl) (by kernel_rfl) (fun _ _ _ h => h) (Or.inl ⟨by rfl, ?_⟩) hHeld ?_
        rotate_left
        · intro w hSw
          (try dsimp only at hSw)
          go_simp
          try with_reducible rfl
        try simp only [Act.put, List.setIfInBounds_toArray, List.set_cons_zero, List.set_cons_succ]
        refine headH_takeS (i := 3) (v := ?_) 35 rfl (by kernel_rfl) (by kernel_rfl) (fun _ _ _ h => h) (Or.inl ⟨by rfl, ?_⟩) hHeld ?_
        rotate_left
        · intro w hSw
          (try dsimp only at hSw)
          go_simp
          try with_reducible rfl
        try simp only [Act.put, List.setIfInBounds_toArray, List.set_cons_zero, List.set_cons_succ]
        refine headH_takeS (i := 4) (v := ?_) 36 rfl (by kernel_rfl) (by kernel_rfl) (fun _ _ _ h => h) (Or.inl ⟨by rfl, ?_⟩) hHeld ?_
        rotate_left
        · intro w hSw
          (try dsimp only at hSw)
          go_simp
          try with_reducible rfl
        try simp only [Act.put, List.setIfInBounds_toArray, List.set_cons_zero, List.set_cons_succ]
        refine headH_takeS (i := 5) (v := ?_) 37 rfl (by kernel_rfl) (by kernel_rfl) (fun _ _ _ h => h) (Or.inl ⟨by rfl, ?_⟩) hHeld ?_
        rotate_left
        · intro w hSw
          (try dsimp only at hSw)
          go_simp
          try with_reducible rfl
        try simp only [Act.put, List.setIfInBounds_toArray, List.set_cons_zero, List.set_cons_succ]
        refine headH_takeS (i := 6) (v := ?_) 38 rfl (by kernel_rfl) (by kernel_rfl) (fun _ _ _ h => h) (Or.inl ⟨by rfl, ?_⟩) hHeld ?_
        rotate_left
        · intro w hSw
          (try dsimp only at hSw)
          go_simp
          try with_reducible rfl
        try simp only [Act.put, List.setIfInBounds_toArray, List.set_cons_zero, List.set_cons_succ]
        refine headH_takeS (i := 7) (v := ?_) 39 rfl (by kernel_rfl) (by kernel_rfl) (fun _ _ _ h => h) (Or.inl ⟨by rfl, ?_⟩) hHeld ?_
        rotate_left
        · intro w hSw
          (try dsimp only at hSw)
          go_simp
          try with_reducible rfl
        try simp only [Act.put, List.setIfInBounds_toArray, List.set_cons_zero, List.set_cons_succ]
        refine headH_takeS (i := 8) (v := ?_) 40 rfl (by kernel_rfl) (by kernel_rfl) (fun _ _ _ h => h) (Or.inl ⟨by rfl, ?_⟩) hHeld ?_
        rotate_left
        · intro w hSw
          (try dsimp only at hSw)
          go_simp
          try with_reducible rfl
        try simp only [Act.put, List.setIfInBounds_toArray, List.set_cons_zero, List.set_cons_succ]
        refine headH_takeS (i := 9) (v := ?_) 41 rfl (by kernel_rfl) (by kernel_rfl) (fun _ _ _ h => h) (Or.inl ⟨by rfl, ?_⟩) hHeld ?_
        rotate_left
        · intro w hSw
          (try dsimp only at hSw)
          go_simp
          try with_reducible rfl
        try simp only [Act.put, List.setIfInBounds_toArray, List.set_cons_zero, List.set_cons_succ]
        refine headH_takeS (i := 10) (v := ?_) 42 rfl (by kernel_rfl) (by kernel_rfl) (fun _ _ _ h => h) (Or.inl ⟨by rfl, ?_⟩) hHeld ?_
        rotate_left
        · intro w hSw
          (try dsimp only at hSw)
          go_simp
          try with_reducible rfl
        try simp only [Act.put, List.setIfInBounds_toArray, List.set_cons_zero, List.set_cons_succ]
        refine headH_takeS (i := 11) (v := ?_) 43 rfl (by kernel_rfl) (by kernel_rfl) (fun _ _ _ h => h) (Or.inl ⟨by rfl, ?_⟩) hHeld ?_
        rotate_left
        · intro w hSw
          (try dsimp only at hSw)
          go_simp
          try with_reducible rfl
        try simp only [Act.put, List.setIfInBounds_toArray, List.set_cons_zero, List.set_cons_succ]
        refine headH_takeS (i := 12) (v := ?_) 44 rfl (by kernel_rfl) (by kernel_rfl) (fun _ _ _ h => h) (Or.inl ⟨by rfl, ?_⟩) hHeld ?_
        rotate_left
        · intro w hSw
          (try dsimp only at hSw)
          go_simp
          try with_reducible rfl
        try simp only [Act.put, List.setIfInBounds_toArray, List.set_cons_zero, List.set_cons_succ]
        refine headH_tail (by kernel_rfl) ?_
        clear hHeld
        go_wp2
        go_roundw
        case rel => exact ⟨i + 1, _, by omega, by go_num, ft2, bt2, kt2⟩
        case measure => simp [intOf]; omega
      · have ei : i = n := by omega
        have nlt : ¬ (i : Int) < n := by omega
        have bs6 := bs.keepAt kt (by omega)
        have hd7 := hd6.farBox hlt hz5 kt
        have HNX := Lib.hid (l01Next_c 2 wr hd7.src (by omega))
        have fs := HFI.out
        clear hd6 own6 k6 bs HSEE HID HFI kt
        go_wp2_with fail
        refine HNX.out.mono ?_
        rintro e w8 ⟨y, rfl, hy, _, hd8⟩
        obtain ⟨y0, y5⟩ := hy (by omega)
        have hd8' := hd7.trans hd8
        have bt8 := bt.drawn (by omega) hd8
        have bs8 := bs6.drawn (by omega) hd8
        have wy : wrap64 (1 + y) = 1 + y := by unfold wrap64; omega
        obtain ⟨K0, hK0, hK1, hK6⟩ : ∃ K0 : Nat, 1 + y = (K0 : Int) ∧ 1 ≤ K0 ∧ K0 ≤ 6 := ⟨(1 + y).toNat, by omega, by omega, by omega⟩
        rw [hK0] at wy
        have hq5 : w.heap.size ≤ w5.heap.size + 1 := by omega
        clear hy hd8 bt bs6 hd7 HNX
        go_wp2
        go_loopw [8] (fun kv wr => ∃ (k : Nat) (g' : Mp), k ≤ K0 ∧ kv = .int .i64 k ∧ FillN n g' ∧ MpBox wr w5.heap.size m ∧ MpBox wr (w5.heap.size + 1) g' ∧ Drawn w wr b A c code) (fun kv _ => (intOf kv).toNat)
        case atStart => exact ⟨K0, m1, Nat.le_refl _, rfl, fs, bt8, bs8, hd8'⟩
        case round =>
          clear fs bt8 bs8 hd8'
          obtain ⟨k, g', hk, rfl, fs, bt, bs, hd⟩ := hrel
          have hnx := fun W (hs : SrcAt W b A c code) => l01Next_c (n : Int) W hs (by omega)
          have HNX := Lib.hid hnx
          clear hnx
          by_cases hk0 : 0 < k
          · have k1 : (0 : Int) < k := by omega
            go_wp2_with fail
            refine (HNX.out wr hd.src).mono ?_
            rintro e w9 ⟨p, rfl, hp, _, hd9⟩
            obtain ⟨p0, p1⟩ := hp (by omega)
            have bt9 := bt.drawn (by omega) hd9
            have bs9 := bs.drawn (by omega) hd9
            have hd9' := hd.trans hd9
            clear hd9 hd bt bs hp
            go_wp2_with fail
            refine (HNX.out w9 hd9'.src).mono ?_
            rintro e w10 ⟨q, rfl, hq, _, hd10⟩
            obtain ⟨q0, q1⟩ := hq (by omega)
            have bt10 := bt9.drawn (by omega) hd10
            have bs10 := bs9.drawn (by omega) hd10
            have hd10' := hd9'.trans hd10
            obtain ⟨pn, rfl⟩ := Int.eq_ofNat_of_zero_le p0
            have p5 : pn < 5 := by omega
            have p5' : (pn : Int) < 5 := by omega
            have qk := bs10.at.to' p5
            have fr := bs10.free
            have fs2 := fs.set (i := pn) (by omega) n5 q0 q1
            have bs2 := bs10.set p5 q
            have bt2 := bt10.far (a := ⟨w5.heap.size + 1, 1 + pn, none⟩) (by simp) (.int .i64 q)
            have hd2 := hd10'.set hlt (a := ⟨w5.heap.size + 1, 1 + pn, none⟩) hq5 (.int .i64 q)
            have wk : IntKind.i64.wrap ((k : Int) - 1) = ((k - 1 : Nat) : Int) := by rw [IntKind.wrap_i64]; omega
            clear hd9' hd10 hd10' bt9 bs9 hq
            go_wp2
            go_roundw
            case rel => exact ⟨k - 1, _, by omega, by go_num, fs2, bt2, bs2, hd2⟩
            case measure => simp [intOf]; omega
          · have ek : k = 0 := by omega
            subst ek
            have HN2 := Lib.hid (l01Next_c 2 wr hd.src (by omega))
            have HF := Lib.hid ft
            have HG := Lib.hid fs
            clear ft fs
            go_wp2_with fail
            refine HN2.out.mono ?_
            rintro e w9 ⟨p, rfl, _, _, hd9⟩
            have bt9 := bt.drawn (by omega) hd9
            have bs9 := bs.drawn (by omega) hd9
            have hd9' := hd.trans hd9
            obtain ⟨s0, s1, s2, s3, s4, s5⟩ := bt9.at.cells0
            obtain ⟨r0, r1, r2, r3, r4, r5⟩ := bs9.at.cells0
            have hz9 := hd9'.keep.size
            have hmm := HF.out.mp n1 n5
            have hmg := HG.out.mp n1 n5
            have HR : Hid (RightL [m, g'] (n : Int) ∧ RightL [g', m] (n : Int)) := Lib.hid ⟨⟨by simp, by simp, fun x hx => by
              simp at hx; rcases hx with rfl | rfl <;> assumption⟩, ⟨by simp, by simp, fun x hx => by
              simp at hx; rcases hx with rfl | rfl <;> assumption⟩⟩
            clear hd hd9 HNX HN2 bt bs hmm hmg
            by_cases ep : p = 0
            · subst ep
              go_wp2
              go_returns
              exact ⟨_, [m, g'], rfl, (two_maps w9 m g').mono hz9, ⟨n, n1, n5, HR.out.1⟩, hd9'.below (kbelow _ _)⟩
            · have dp : (p == 0) = false := beq_eq_false_iff_ne.2 ep
              go_wp2
              go_returns
              exact ⟨_, [g', m], rfl, (two_maps w9 g' m).mono hz9, ⟨n, n1, n5, HR.out.2⟩, hd9'.below (kbelow _ _)⟩
/-! Draws of words: 'l05DrawWord'. -/
set_option maxHeartbeats 8000000 in
set_option maxRecDepth 100000 in
theorem l05DrawWord_c {b c cL m : Nat} {A AL : Option Addr} {code : List Int} (w : World) (h : SrcAt w b A c code) (m1 : 1 ≤ m) (m6 : m ≤ 7) :
    Calls Try.prog 97 #[.pointer (some ⟨b, 0, none⟩), .slice AL m cL] w fun e w' => ∃ v xs, e = .returned v ∧ OwnInts w' w.heap.size v xs ∧ xs.length ≤ 44 ∧ Drawn w w' b A c code := by
  have hlt := h.lt
  have own0 : OwnInts (w.alloc (.cells #[] 2)) w.heap.size (.slice (some ⟨w.heap.size, 0, none⟩) 0 0) [] := own_mono (World.ownsRow_made (e := 2) (size := 1) w #[] 0 (Nat.le_refl _) (by decide) rfl) (Nat.le_refl _)
  have d0 : Drawn w (w.alloc (.cells #[] 2)) b A c code := (Drawn.refl h).below (kbelow w _)
  have z0 : (w.alloc (.cells #[] 2)).heap.size = w.heap.size + 1 := World.size_alloc _ _
  obtain ⟨W1, hW1⟩ : ∃ W1, W1 = w.alloc (.cells #[] 2) := ⟨_, rfl⟩
  rw [← hW1] at own0 d0 z0
  have HPK := Lib.hid (pick_any [3, 8, 20, 43] 4 rfl (by omega) (by omega) d0.src (w.heap.size + 1) z0.symm _ rfl)
  go_enter Try.func97, Try.ntmps97
  go_wp2_with fail
  rw [← hW1]
  clear hW1
  obtain ⟨W2, hW2⟩ : ∃ W2, W2 = W1.alloc (.cells ([3, 8, 20, 43].map (Value.int .i64)).toArray 2) := ⟨_, rfl⟩
  have hW3 : W2 = W1.alloc (.cells #[.int .i64 3, .int .i64 8, .int .i64 20, .int .i64 43] 2) := hW2
  rw [← hW2] at HPK
  rw [← hW3]
  clear hW2 hW3
  refine HPK.out.mono ?_
  rintro e w2 ⟨x, rfl, hx, hd2⟩
  have own2 := own0.drawn hlt hd2
  have hd := d0.trans hd2
  obtain ⟨x1, x6⟩ : 1 ≤ x ∧ x ≤ 43 := by simp at hx; omega
  have HNX := Lib.hid (l01Next_c x w2 hd.src (by omega))
  clear hx hd2 HPK own0 d0 z0
  go_wp2_with fail
  refine HNX.out.mono ?_
  rintro e w3 ⟨y, rfl, hy, _, hd3⟩
  obtain ⟨y0, y5⟩ := hy (by omega)
  have own3 := own2.drawn hlt hd3
  have hd3' := hd.trans hd3
  obtain ⟨K0, rfl⟩ := Int.eq_ofNat_of_zero_le y0
  have hK0 : K0 ≤ 42 := by omega
  have hnx := fun W (hs : SrcAt W b A c code) => l01Next_c (m : Int) W hs (by omega)
  have HNM := Lib.hid hnx
  clear hnx hy hd3 own2 hd HNX
  go_wp2
  go_loopw [6, 5] (fun kv v wr => ∃ (k : Nat) (xs : List Int), k ≤ K0 ∧ kv = .int .i64 k ∧ xs.length + k = K0 ∧ OwnInts wr w.heap.size v xs ∧ Drawn w wr b A c code) (fun kv _ _ => (intOf kv).toNat)
  case atStart => exact ⟨K0, [], Nat.le_refl _, rfl, by simp, own3, hd3'⟩
  case round =>
    clear own3 hd3'
    obtain ⟨k, xs, hk, rfl, hlen, own, hd⟩ := hrel
    obtain ⟨Av, cv, rfl, _⟩ := own.see
    by_cases hk0 : 0 < k
    · have k1 : (0 : Int) < k := by omega
      have HO := Lib.hid own
      have HL := Lib.hid hlen
      have wk : IntKind.i64.wrap ((k : Int) - 1) = ((k - 1 : Nat) : Int) := by rw [IntKind.wrap_i64]; omega
      clear own hlen
      go_wp2_with fail
      refine (HNM.out wr hd.src).mono ?_
      rintro e w4 ⟨p, rfl, _, _, hd4⟩
      have own4 := HO.out.drawn hlt hd4
      have hd4' := hd.trans hd4
      have kk8 := kbelow w4 (.cells #[.int .i64 p] 2)
      have hd8 := hd4'.below kk8
      have own8 := own4.below kk8
      have hml : xs.length ≤ 42 := by have := HL.out; omega
      clear HO hd hd4 own4 hd4'
      go_wp2_with (at_builtin; go_must (refine wpList_push_int _ rfl (.tmp 17) (.tmp 22) rfl w.heap.size _ xs rfl own8 ⟨w4.heap.size, 0, none⟩ p rfl (by simp [go_sem]) (by omega) hd8.keep.size ?_; intro v9 w9 hown9 hg9 hv9; have hs9 := hown9.see; obtain ⟨A9, c9, rfl, _⟩ := hs9))
      have hd9 := hd8.grown hlt hg9 (fun j hj => (own8.lt j hj).1)
      go_roundw
      case rel => exact ⟨k - 1, xs ++ [p], by omega, by go_num, by have := HL.out; rw [List.length_append, List.length_singleton]; omega, by simpa using hown9, hd9⟩
      case measure => simp [intOf]; omega
    · have ek : k = 0 := by omega
      subst ek
      have HN2 := Lib.hid (l01Next_c 24 wr hd.src (by omega))
      go_wp2_with fail
      refine HN2.out.mono ?_
      rintro e w4 ⟨p, rfl, _, _, hd4⟩
      have own4 := own.drawn hlt hd4
      have hd4' := hd.trans hd4
      clear HN2 hd4 own hd
      by_cases ep : p = 0
      · subst ep
        have HPI := Lib.hid (pick_any [-1, (m : Int)] 2 rfl (by omega) (by omega) hd4'.src w4.heap.size rfl _ rfl)
        go_wp2_with fail
        obtain ⟨W2, hW2⟩ : ∃ W2, W2 = w4.alloc (.cells ([-1, (m : Int)].map (Value.int .i64)).toArray 2) := ⟨_, rfl⟩
        have hW3 : W2 = w4.alloc (.cells #[.int .i64 (-1), .int .i64 (m : Int)] 2) := hW2
        rw [← hW2] at HPI
        rw [← hW3]
        clear hW2 hW3
        refine HPI.out.mono ?_
        rintro e w5 ⟨q, rfl, _, hd5⟩
        have own5 := own4.drawn hlt hd5
        have hd5' := hd4'.trans hd5
        have kk8 := kbelow w5 (.cells #[.int .i64 q] 2)
        have hd8 := hd5'.below kk8
        have own8 := own5.below kk8
        clear own4 own5 hd5 hd5' hd4' HPI
        go_wp2_with (at_builtin; go_must (refine wpList_push_int _ rfl (.tmp 27) (.tmp 33) rfl w.heap.size _ xs rfl own8 ⟨w5.heap.size, 0, none⟩ q rfl (by simp [go_sem]) (by omega) hd8.keep.size ?_; intro v9 w9 hown9 hg9 hv9; have hs9 := hown9.see; obtain ⟨A9, c9, rfl, _⟩ := hs9))
        have hd9 := hd8.grown hlt hg9 (fun j hj => (own8.lt j hj).1)
        have HO := Lib.hid hown9
        go_wp2
        go_returns
        exact ⟨.slice A9 (xs ++ [q]).length c9, xs ++ [q], by simp, HO.out, by simp; omega, hd9⟩
      · have dp : (p == 0) = false := beq_eq_false_iff_ne.2 ep
        have HO := Lib.hid own4
        clear own4
        go_wp2
        go_returns
        exact ⟨_, _, rfl, HO.out, by omega, hd4'⟩
end Go.Proofs.Ytbodaefdaagelaa
