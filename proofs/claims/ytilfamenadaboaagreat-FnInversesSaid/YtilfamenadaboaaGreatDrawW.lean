/- Draws of lists of maps, seldom others: 'l01BadList'. No condition. -/
import Derived.Test.YtilfamenadaboaaGreatDrawL
namespace Go.Proofs.YtilfamenadaboaaGreat
set_option linter.unusedSimpArgs false
set_option linter.unusedVariables false
set_option linter.unusedSectionVars false
open Go.RowKit
/-- a list of maps that a draw hands back: the call's own, or one that came in -/
def BlPost (AL : Option Addr) (R : List Mp → Prop) (w : World) (b : Nat) (A : Option Addr) (c : Nat) (code : List Int) (e : Ending) (w' : World) : Prop :=
  ∃ (A' : Option Addr) (c' : Nat) (ms : List Mp), e = .returned (.slice A' ms.length c') ∧ SeeMaps w' A' ms ∧ NilOk A' c' ∧ InS (fun k => k ≠ b) A' ∧ (A' = AL ∨ InS (fun k => w.heap.size ≤ k ∧ k < w'.heap.size) A') ∧ R ms ∧ Drawn w w' b A c code
def lenV : Value → Nat
  | .slice _ n _ => n
  | _ => 0
theorem OwnMaps.far {w : World} {base b n c : Nat} {A : Option Addr} {ms : List Mp} (h : OwnMaps w base (.slice A n c) ms) (hb : b < base) : InS (fun k => k ≠ b) A := fun a ha => by
  subst ha
  have := (h.lt a.block rfl).1
  show a.block ≠ b
  omega
theorem OwnMaps.inS {w : World} {base n c : Nat} {A : Option Addr} {ms : List Mp} (h : OwnMaps w base (.slice A n c) ms) : InS (fun k => base ≤ k ∧ k < w.heap.size) A := fun a ha => by
  subst ha
  exact h.lt a.block rfl
theorem SeeMaps.drawn {w w' : World} {b c : Nat} {A AL : Option Addr} {code : List Int} {ms : List Mp} (h : SeeMaps w AL ms) (hA : InS (fun k => k ≠ b) AL) (hd : Drawn w w' b A c code) : SeeMaps w' AL ms := h.keep hA hd.keep
set_option maxHeartbeats 8000000 in
set_option maxRecDepth 100000 in
theorem l01BadList_c {b c cL : Nat} {A AL : Option Addr} {code : List Int} {ms : List Mp} (w : World) (h : SrcAt w b A c code) (hs : SeeMaps w AL ms) (hA : NilOk AL cL) (hf : InS (fun k => k ≠ b) AL) (h0 : 0 < ms.length) (h6 : ms.length ≤ 6) :
    Calls Tryz.prog 117 #[.pointer (some ⟨b, 0, none⟩), .slice AL ms.length cL] w (BlPost AL (fun ms' => ms'.length ≤ 7) w b A c code) := by
  unfold BlPost
  have hlt := h.lt
  have own0 : OwnMaps (w.alloc (.cells #[] 27)) w.heap.size (.slice (some ⟨w.heap.size, 0, none⟩) 0 0) [] := ⟨[], own_mono (World.ownsRow_made (e := 27) (size := 6) w #[] 0 (Nat.le_refl _) (by decide) rfl) (Nat.le_refl _), ⟨rfl, fun k m hk => by simp at hk⟩⟩
  have d0 : Drawn w (w.alloc (.cells #[] 27)) b A c code := (Drawn.refl h).below (kbelow w _)
  have hs0 := hs.below (kbelow w (.cells #[] 27))
  obtain ⟨bL, oL, rfl, gL⟩ := hs (List.length_pos_iff.1 h0)
  obtain ⟨m0, hm0⟩ := el h0
  have hz0 := d0.keep.size
  have HS := Lib.hid hs
  have HA := Lib.hid hA
  have HM0 := Lib.hid hm0
  have HF := Lib.hid hf
  have hbL : bL ≠ b := hf ⟨bL, oL, none⟩ rfl
  clear hs hA gL hm0 hf
  go_enter Tryz.func117, Tryz.ntmps117
  go_wp2_with (at_builtin; go_must (refine wpList_cat_map _ rfl (.tmp 6) (.tmp 7) rfl w.heap.size _ [] ms rfl own0 ⟨bL, oL, none⟩ cL rfl hs0 (by simp; omega) hz0 ?_; intro v1 w1 hown1 hg1 hv1; have hs1 := hown1.see; obtain ⟨A1, c1, rfl, _⟩ := hs1))
  have hown2 : OwnMaps w1 w.heap.size (.slice A1 ms.length c1) ms := hown1
  have hd1 := d0.grown hlt hg1 (fun j hj => (own0.lt j hj).1)
  have HNX := Lib.hid (l01Next_c 40 w1 hd1.src (by omega))
  clear own0 d0 hs0 hown1 hg1 hv1
  refine HNX.out.mono ?_
  rintro e w2 ⟨x, rfl, _, _, hd2⟩
  have own := hown2.drawn hlt hd2
  have hd := hd1.trans hd2
  have hz2 := hd.keep.size
  clear HNX hd2 hd1 hown2
  by_cases e0 : x = 0
  · subst e0
    have hdd := hd.below (kbelow w2 (.cells #[] 27))
    go_wp2
    go_returns
    exact ⟨some ⟨w2.heap.size, 0, none⟩, 0, [], rfl, (fun hn => absurd rfl hn), (fun e => by cases e), (fun a ha => by have := Option.some.inj ha; subst this; show w2.heap.size ≠ b; omega), Or.inr (fun a ha => by have := Option.some.inj ha; subst this; exact ⟨hz2, by show w2.heap.size < _; rw [World.size_alloc]; omega⟩), by simp, hdd⟩
  · have d0 : (x == 0) = false := beq_eq_false_iff_ne.2 e0
    by_cases e1 : x = 1
    · subst e1
      have HSP := Lib.hid (l01Spoil_c w2 hd.src)
      unfold MvPost at HSP
      go_wp2_with fail
      refine HSP.out.mono ?_
      rintro e w3 ⟨m, rfl, _, hd3⟩
      have own3 := own.drawn hlt hd3
      have hd4 := hd.trans hd3
      have kk8 := kbelow w3 (.cells #[.int .i64 m.p, .int .i64 m.a, .int .i64 m.b, .int .i64 m.c, .int .i64 m.d, .int .i64 m.e] 27)
      have hd8 := hd4.below kk8
      have own8 := own3.below kk8
      clear HSP hd3 own own3 hd hd4
      go_wp2_with (at_builtin; go_must (refine wpList_push_map _ rfl (.tmp 16) (.tmp 19) rfl w.heap.size _ ms rfl own8 _ m rfl (MpBox.new m 27 (by first | (with_reducible rfl) | simp)) (by omega) hd8.keep.size ?_; intro v9 w9 hown9 hg9 hv9; have hs9 := hown9.see; obtain ⟨A9, c9, rfl, _⟩ := hs9))
      have hd9 := hd8.grown hlt hg9 (fun j hj => (own8.lt j hj).1)
      go_returns
      obtain ⟨A8, c8, e8, s8⟩ := hown9.see
      cases e8
      exact ⟨A9, c9, ms ++ [m], by simp, s8, hown9.nilok, hown9.far hlt, Or.inr hown9.inS, by simp; omega, hd9⟩
    · have d1 : (x == 1) = false := beq_eq_false_iff_ne.2 e1
      by_cases e2 : x = 2
      · subst e2
        go_wp2
        go_loopw [5] (fun v wr => ∃ (ns : List Mp), ns.length ≤ 7 ∧ OwnMaps wr w.heap.size v ns ∧ Drawn w wr b A c code) (fun v _ => 8 - lenV v)
        case atStart => exact ⟨ms, by omega, own, hd⟩
        case round =>
          clear own hd
          obtain ⟨ns, hns, own, hd⟩ := hrel
          obtain ⟨Av, cv, rfl, sv⟩ := own.see
          by_cases hl : ns.length ≤ 6
          · have hl1 : (ns.length : Int) ≤ 6 := by omega
            have hss := HS.out.drawn HF.out hd
            obtain ⟨bL', oL', e', gL⟩ := hss (List.length_pos_iff.1 h0)
            simp only [Option.some.injEq, Addr.mk.injEq] at e'
            obtain ⟨rfl, rfl, _⟩ := e'
            have hmt := gL 0 m0 HM0.out
            rw [Nat.zero_mul, Nat.add_zero] at hmt
            obtain ⟨q0, q1, q2, q3, q4, q5⟩ := hmt
            have kk8 := kbelow wr (.cells #[.int .i64 m0.p, .int .i64 m0.a, .int .i64 m0.b, .int .i64 m0.c, .int .i64 m0.d, .int .i64 m0.e] 27)
            have hd8 := hd.below kk8
            have own8 := own.below kk8
            clear own sv hss gL
            go_wp2_with (at_builtin; go_must (refine wpList_push_map _ rfl (.tmp 26) (.tmp 30) rfl w.heap.size _ ns rfl own8 _ m0 rfl (MpBox.new m0 27 (by first | (with_reducible rfl) | simp)) (by omega) hd8.keep.size ?_; intro v9 w9 hown9 hg9 hv9; have hs9 := hown9.see; obtain ⟨A9, c9, rfl, _⟩ := hs9))
            have hd9 := hd8.grown hlt hg9 (fun j hj => (own8.lt j hj).1)
            go_roundw
            case rel => exact ⟨ns ++ [m0], by simp; omega, by simpa using hown9, hd9⟩
            case measure => simp [lenV]; omega
          · have hl1 : ¬ (ns.length : Int) ≤ 6 := by omega
            have HO := Lib.hid own
            have hno := own.nilok
            have hfo := own.far hlt
            have hio := own.inS
            have HSV := Lib.hid sv
            clear own sv
            go_wp2
            go_returns
            exact ⟨_, _, ns, rfl, HSV.out, hno, hfo, Or.inr hio, hns, hd⟩
      · have d2 : (x == 2) = false := beq_eq_false_iff_ne.2 e2
        by_cases e3 : x = 3
        · subst e3
          have hss := HS.out.drawn HF.out hd
          obtain ⟨bL', oL', e', gL⟩ := hss (List.length_pos_iff.1 h0)
          simp only [Option.some.injEq, Addr.mk.injEq] at e'
          obtain ⟨rfl, rfl, _⟩ := e'
          have hmt := gL 0 m0 HM0.out
          rw [Nat.zero_mul, Nat.add_zero] at hmt
          obtain ⟨q0, q1, q2, q3, q4, q5⟩ := hmt
          obtain ⟨g1, rfl⟩ : ∃ g, A1 = some ⟨g, 0, none⟩ := by
            obtain ⟨zs, hz, _⟩ := own
            rcases hz.2 with ⟨e, _⟩ | ⟨g, cap, cur, e, _⟩
            · simp only [Value.slice.injEq] at e; omega
            · simp only [Value.slice.injEq] at e; exact ⟨g, e.1⟩
          have h01 : (0 : Int) < ms.length := by omega
          have hn7 := fun W (hs : SrcAt W b A c code) => l01Next_c (ms.length : Int) W hs (by omega)
          have HN7 := Lib.hid hn7
          have hbd := fun W (hs : SrcAt W b A c code) => l01Bad_c m0 W hs
          unfold MvPost at hbd
          have HBD := Lib.hid hbd
          have gk : ∀ W, Keep (fun k => k ≠ b) w2.drew W → W.cell? ⟨bL, oL, none⟩ = some (.int .i64 m0.p) ∧ W.cell? ⟨bL, oL + 1, none⟩ = some (.int .i64 m0.a) ∧ W.cell? ⟨bL, oL + 2, none⟩ = some (.int .i64 m0.b) ∧ W.cell? ⟨bL, oL + 3, none⟩ = some (.int .i64 m0.c) ∧ W.cell? ⟨bL, oL + 4, none⟩ = some (.int .i64 m0.d) ∧ W.cell? ⟨bL, oL + 5, none⟩ = some (.int .i64 m0.e) := fun W hk =>
            have kc := fun {o : Nat} {v : Value} (q : w2.cell? ⟨bL, o, none⟩ = some v) => hk.cell (p := ⟨bL, o, none⟩) (v := v) hbL (bcell (Below.drew (Below.refl _ w2)) q)
            ⟨kc q0, kc q1, kc q2, kc q3, kc q4, kc q5⟩
          clear hss gL hn7 hbd
          go_wp2
          refine wp_region_headS 10 (fun w' => w'.cell? ⟨bL, oL, none⟩ = some (.int .i64 m0.p) ∧ w'.cell? ⟨bL, oL + 1, none⟩ = some (.int .i64 m0.a) ∧ w'.cell? ⟨bL, oL + 2, none⟩ = some (.int .i64 m0.b) ∧ w'.cell? ⟨bL, oL + 3, none⟩ = some (.int .i64 m0.c) ∧ w'.cell? ⟨bL, oL + 4, none⟩ = some (.int .i64 m0.d) ∧ w'.cell? ⟨bL, oL + 5, none⟩ = some (.int .i64 m0.e)) (by kernel_rfl) (by kernel_rfl) ⟨q0, q1, q2, q3, q4, q5⟩ (fun hHeld => ?_)
          simp only [List.drop]
          refine headH_takeS (i := 0) (v := ?_) 35 rfl (by kernel_rfl) (by kernel_rfl) (fun _ _ _ h => h) (Or.inl ⟨by rfl, ?_⟩) hHeld ?_
          rotate_left
          · intro w hSw
            (try dsimp only at hSw)
            go_simp
            try with_reducible rfl
          try simp only [Act.put, List.setIfInBounds_toArray, List.set_cons_zero, List.set_cons_succ]
          refine headH_takeS (i := 1) (v := ?_) 36 rfl (by kernel_rfl) (by kernel_rfl) (fun _ _ _ h => h) (Or.inl ⟨by rfl, ?_⟩) hHeld ?_
          rotate_left
          · intro w hSw
            (try dsimp only at hSw)
            go_simp
            try with_reducible rfl
          try simp only [Act.put, List.setIfInBounds_toArray, List.set_cons_zero, List.set_cons_succ]
          refine headH_takeS (i := 2) (v := ?_) 37 rfl (by kernel_rfl) (by kernel_rfl) (fun _ _ _ h => h) (Or.inl ⟨by rfl, ?_⟩) hHeld ?_
          rotate_left
          · intro w hSw
            (try dsimp only at hSw)
            go_simp
            try with_reducible rfl
          try simp only [Act.put, List.setIfInBounds_toArray, List.set_cons_zero, List.set_cons_succ]
          refine headH_takeS (i := 3) (v := ?_) 38 rfl (by kernel_rfl) (by kernel_rfl) (fun _ _ _ h => h) (Or.inl ⟨by rfl, ?_⟩) hHeld ?_
          rotate_left
          · intro w hSw
            (try dsimp only at hSw)
            go_simp
            try with_reducible rfl
          try simp only [Act.put, List.setIfInBounds_toArray, List.set_cons_zero, List.set_cons_succ]
          refine headH_takeS (i := 5) (v := ?_) 40 rfl (by kernel_rfl) (by kernel_rfl) (fun _ _ _ h => h) (Or.inl ⟨by rfl, ?_⟩) hHeld ?_
          rotate_left
          · intro w hSw
            (try dsimp only at hSw)
            go_simp
            try with_reducible rfl
          try simp only [Act.put, List.setIfInBounds_toArray, List.set_cons_zero, List.set_cons_succ]
          refine headH_takeS (i := 6) (v := ?_) 41 rfl (by kernel_rfl) (by kernel_rfl) (fun _ _ _ h => h) (Or.inl ⟨by rfl, ?_⟩) hHeld ?_
          rotate_left
          · intro w hSw
            (try dsimp only at hSw)
            go_simp
            try with_reducible rfl
          try simp only [Act.put, List.setIfInBounds_toArray, List.set_cons_zero, List.set_cons_succ]
          refine headH_takeS (i := 7) (v := ?_) 42 rfl (by kernel_rfl) (by kernel_rfl) (fun _ _ _ h => h) (Or.inl ⟨by rfl, ?_⟩) hHeld ?_
          rotate_left
          · intro w hSw
            (try dsimp only at hSw)
            go_simp
            try with_reducible rfl
          try simp only [Act.put, List.setIfInBounds_toArray, List.set_cons_zero, List.set_cons_succ]
          refine headH_takeS (i := 8) (v := ?_) 43 rfl (by kernel_rfl) (by kernel_rfl) (fun _ _ _ h => h) (Or.inl ⟨by rfl, ?_⟩) hHeld ?_
          rotate_left
          · intro w hSw
            (try dsimp only at hSw)
            go_simp
            try with_reducible rfl
          try simp only [Act.put, List.setIfInBounds_toArray, List.set_cons_zero, List.set_cons_succ]
          refine headH_all (rs := [4]) (by kernel_rfl) (by kernel_rfl) (headH_cons rfl (fun K hK => ?_) headH_nil)
          go_simp
          have hd0 : Drawn w w2.drew b A c code := hd.below (Below.drew (Below.refl _ w2))
          have own0 := own.below (Below.drew (Below.refl _ w2))
          refine (HN7.out _ hd0.src).mono ?_
          rintro e w3 ⟨y, rfl, hy, _, hd3⟩
          obtain ⟨y0, y1⟩ := hy (by omega)
          obtain ⟨k, rfl⟩ := Int.eq_ofNat_of_zero_le y0
          have hkl : k < ms.length := by omega
          have own3 := own0.drawn hlt hd3
          have hmt3 := gk w3 hd3.keep
          refine hK.out _ _ hmt3 (fun hHeldn => ?_)
          clear hK K hHeld
          have hHeld := hHeldn
          clear hHeldn
          try simp only [Act.put, List.setIfInBounds_toArray, List.set_cons_zero, List.set_cons_succ]
          refine headH_all (rs := [9]) (by kernel_rfl) (by kernel_rfl) (headH_cons rfl (fun K hK => ?_) headH_nil)
          go_simp
          have hd3' := hd0.trans hd3
          refine (HBD.out _ hd3'.src).mono ?_
          rintro e w4 ⟨r, rfl, _, hd4⟩
          have own4 := own3.drawn hlt hd4
          have hd4' := hd3'.trans hd4
          have hmt4 := gk w4 (hd3.keep.trans hd4.keep)
          refine hK.out _ _ hmt4 (fun hHeldn => ?_)
          clear hK K hHeld
          have hHeld := hHeldn
          clear hHeldn
          try simp only [Act.put, List.setIfInBounds_toArray, List.set_cons_zero, List.set_cons_succ]
          refine headH_tail (by kernel_rfl) ?_
          obtain ⟨mk, hmk⟩ := el hkl
          obtain ⟨p0, p1, p2, p3, p4, p5⟩ := own4.at_ hmk
          have pf := own4.free
          have own5 := own4.put hkl r
          have hg := (own4.lt g1 rfl).1
          have hd5 := (((((hd4'.set hlt (a := ⟨g1, k * 6, none⟩) hg (.int .i64 r.p)).set hlt (a := ⟨g1, k * 6 + 1, none⟩) hg (.int .i64 r.a)).set hlt (a := ⟨g1, k * 6 + 2, none⟩) hg (.int .i64 r.b)).set hlt (a := ⟨g1, k * 6 + 3, none⟩) hg (.int .i64 r.c)).set hlt (a := ⟨g1, k * 6 + 4, none⟩) hg (.int .i64 r.d)).set hlt (a := ⟨g1, k * 6 + 5, none⟩) hg (.int .i64 r.e)
          have k0 : (0 : Int) ≤ k := by omega
          have k1 : (k : Int) < ms.length := by omega
          have HO := Lib.hid own5
          have HD := Lib.hid hd5
          clear own5 hd5 hHeld hmk own own0 own3 hmt3 hmt4 q0 q1 q2 q3 q4 q5 gk HN7 HBD
          go_wp2
          go_returns
          obtain ⟨A8, c8, e8, s8⟩ := HO.out.see
          have h5 : ms.length = (ms.set k r).length := List.length_set.symm
          simp only [Value.slice.injEq] at e8
          obtain ⟨rfl, _, rfl⟩ := e8
          exact ⟨some ⟨g1, 0, none⟩, c1, ms.set k r, by rw [← h5]; rfl, s8, HO.out.nilok, HO.out.far hlt, Or.inr HO.out.inS, by omega, HD.out⟩
        · have d3 : (x == 3) = false := beq_eq_false_iff_ne.2 e3
          have hss := HS.out.drawn HF.out hd
          go_wp2
          go_returns
          exact ⟨_, _, _, rfl, hss, HA.out, HF.out, Or.inl rfl, by omega, hd⟩
/-! Draws of lists of maps for words: 'l05DrawList'. -/
theorem MpBox.keepAt {w w' : World} {q q' : Nat} {m : Mp} (h : MpBox w q m) (hk : Keep (fun k => k ≠ q') w w') (hq : q ≠ q') : MpBox w' q m := by
  have hl := h.lt
  obtain ⟨t, h⟩ := h
  exact ⟨t, (hk.block q hl hq).trans h⟩
theorem two_maps (w : World) (f g : Mp) : OwnMaps (w.alloc (.cells #[.int .i64 f.p, .int .i64 f.a, .int .i64 f.b, .int .i64 f.c, .int .i64 f.d, .int .i64 f.e, .int .i64 g.p, .int .i64 g.a, .int .i64 g.b, .int .i64 g.c, .int .i64 g.d, .int .i64 g.e] 27)) w.heap.size (.slice (some ⟨w.heap.size, 0, none⟩) 2 2) [f, g] := by
  exact ⟨_, ⟨rfl, .inr ⟨w.heap.size, 2, _, rfl, Nat.le_refl _, heap_alloc_new w _, Nat.le_refl _, by decide, rfl, rfl⟩⟩, repCells [f, g]⟩
/-! Draws of words: 'l05DrawWord'. -/
end Go.Proofs.YtilfamenadaboaaGreat
