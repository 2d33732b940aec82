/- What the reference puts into an ascending list of maps. No condition. -/
import Derived.Test.YtilfamenadaboaaGreatSpecB
import Derived.Test.YtilfamenadaboaaGreatBase
namespace Go.Proofs.YtilfamenadaboaaGreat
set_option linter.unusedSimpArgs false
set_option linter.unusedVariables false
set_option linter.unusedSectionVars false
open Go.RowKit
theorem OwnMaps.cap {w : World} {base g n c : Nat} {xs : List Mp} (h : OwnMaps w base (.slice (some ⟨g, 0, none⟩) n c) xs) : xs.length ≤ c := by
  obtain ⟨ys, h1, _⟩ := h
  rcases h1.2 with ⟨h2, _⟩ | ⟨g', cap, cur, h2, _, _, hc, _⟩
  · cases h2
  · simp only [Value.slice.injEq] at h2
    omega
theorem SeeMaps.take {w : World} {A : Option Addr} {xs : List Mp} (h : SeeMaps w A xs) (k : Nat) : SeeMaps w A (xs.take k) := fun hn => by
  have hn' : xs ≠ [] := fun e => hn (by rw [e]; simp)
  obtain ⟨b, o, e, q⟩ := h hn'
  exact ⟨b, o, e, fun j m hj => q j m (by rw [List.getElem?_take] at hj; split at hj; exact hj; cases hj)⟩
theorem SeeMaps.drop {w : World} {b o : Nat} {xs : List Mp} (h : SeeMaps w (some ⟨b, o, none⟩) xs) (k : Nat) : SeeMaps w (some ⟨b, o + k * 6, none⟩) (xs.drop k) := fun hn => by
  have hn' : xs ≠ [] := fun e => hn (by rw [e]; simp)
  obtain ⟨b', o', e, q⟩ := h hn'
  simp only [Option.some.injEq, Addr.mk.injEq, and_true] at e
  obtain ⟨rfl, rfl⟩ := e
  refine ⟨b, o + k * 6, rfl, fun j m hj => ?_⟩
  rw [List.getElem?_drop] at hj
  have := q (k + j) m hj
  rw [Nat.add_mul, ← Nat.add_assoc] at this
  exact this
theorem step_cat_map (w : World) {ops : Array Oper} {o : Oper} {a : Act} {K : Act → World → Prop} {Q : Exit → Act → World → Prop} {E : Prop} (hgd : o.guard = none) (s x : Operand)
    (ho : o.op = .call { callee := .builtin .append, args := #[s, x], argTypes := #[24, 24] })
    (base : Nat) (v : Value) (xs ys : List Mp) (hs : a.eval s = v) (hown : OwnMaps w base v xs) (ad : Addr) (c : Nat) (hx : a.eval x = .slice (some ad) ys.length c) (hy : SeeMaps w (some ad) ys)
    (hn : xs.length + ys.length ≤ 2097152) (hbase : base ≤ w.heap.size)
    (hK : ∀ v' w', OwnMaps w' base v' (xs ++ ys) → w.grownBy w' v.ownBlock → (v'.ownBlock = v.ownBlock ∨ v'.ownBlock = some w.heap.size) → K (a.put o.dst v') w') : if Region.wanted o (yielded ops a.tmps) = true then Oper.wp Tryz.prog o a w K Q else E := by
  obtain ⟨i0, hi, hz0, hz1, hz2⟩ := info_parts info_map
  obtain ⟨zs, h1, h2⟩ := hown
  have hc := hy.cells (c := c) (fun h => by cases h)
  refine step_append_see w hgd s x 24 ho base 27 i0 _ 6 48 Tryz.underlying24 hi hz0 hz1 hz2 rfl (by decide) v xs.length zs hs h1 (some ad) ys.length c (cellsOf ys) hx (repCells ys).len
    hc (cellsOf_one _) (by unfold maxLen; omega) (by omega) hbase (fun v' w' h3 h4 h5 => hK v' w' ⟨_, by rw [List.length_append]; exact h3, h2.append (repCells ys)⟩ h4 h5)
set_option maxHeartbeats 2000000 in
theorem l01Put_c (base g c : Nat) (l : List Mp) (n : Int) (f : Mp) (w : World) (hown : OwnMaps w base (.slice (some ⟨g, 0, none⟩) l.length c) l) (hbase : base ≤ w.heap.size) (ha : AscM l) (hN : ∀ g ∈ l, MpN g n) (hl : l.length ≤ 300) (hf : MpN f n) :
    Calls Tryz.prog 96 #[.slice (some ⟨g, 0, none⟩) l.length c, .agg #[.int .i64 f.p, .int .i64 f.a, .int .i64 f.b, .int .i64 f.c, .int .i64 f.d, .int .i64 f.e]] w fun e w' => ∃ v, e = .returned v ∧ OwnMaps w' base v (putM l f) ∧ (∀ k, v.ownBlock = some k → k = g ∨ w.heap.size ≤ k) ∧ Below w.heap.size w w' := by
  have hs := hown.see'
  have HOWN := Lib.hid hown
  have HNIL := Lib.hid hown.nilok
  have bt := MpBox.new (w := w) f 27 rfl
  have kk := kbelow w (.cells #[.int .i64 f.p, .int .i64 f.a, .int .i64 f.b, .int .i64 f.c, .int .i64 f.d, .int .i64 f.e] 27)
  have HA := Lib.hid ha
  have HN := Lib.hid hN
  have HS := Lib.hid (hs.below kk)
  clear ha hN hs hown
  go_enter Tryz.func96, Tryz.ntmps96
  go_wp2
  go_loopw [5, 6] (fun lo hi wr => ∃ a b : Nat, lo = .int .i64 a ∧ hi = .int .i64 b ∧ Hid (Half l f a b) ∧ MpBox wr w.heap.size f ∧ Below w.heap.size w wr ∧ SeeMaps wr (some ⟨g, 0, none⟩) l) (fun lo hi _ => (intOf hi).toNat - (intOf lo).toNat)
  case atStart => exact ⟨0, l.length, rfl, rfl, Lib.hid (Half.start l f), bt, kk, HS.out⟩
  case round =>
    clear bt kk HS
    obtain ⟨a, b, rfl, rfl, hh, bt, hb, see⟩ := hrel
    have hab := hh.out.le
    have hbl := hh.out.len
    by_cases hlt : a < b
    · obtain ⟨m1, m2, m3, m4⟩ := half_mid hlt (by omega)
      have l1 : (a : Int) < b := by omega
      obtain ⟨m, hm⟩ : ∃ m, m = (a + b) / 2 := ⟨_, rfl⟩
      rw [← hm] at m1 m2
      have hq : ((a : Int) + b) / 2 = (m : Int) := by omega
      have HM := Lib.hid hm
      obtain ⟨bl, ol, x, ex, hx, gx⟩ := see.at_ (k := m) (by omega)
      simp only [Option.some.injEq, Addr.mk.injEq, and_true] at ex
      obtain ⟨rfl, rfl⟩ := ex
      rw [Nat.zero_add] at gx
      have hxN := HN.out x (List.mem_of_getElem? hx)
      have k0 : (0 : Int) ≤ m := by omega
      have k1 : (m : Int) < l.length := by omega
      obtain ⟨x0, x1, x2, x3, x4, x5⟩ := gx.bw
      obtain ⟨y0, y1, y2, y3, y4, y5⟩ := bt.at.bw
      simp only [Nat.zero_add] at y0 y1 y2 y3 y4 y5
      have hless := fun W => l01Less_c x f n W hxN hf
      have HX := Lib.hid hx
      have HLE := Lib.hid hless
      clear hm hx gx hless hxN
      by_cases hxf : x.num < f.num
      · have hlb : lessB x f = true := by unfold lessB; exact decide_eq_true hxf
        have HXF := Lib.hid hxf
        clear hxf
        go_wp2
        refine wp_region_bw (by kernel_rfl) (by kernel_rfl) ?_
        repeat go_big_quiet_step ((go_at_call 108; exact Calls.bw _ (valB (HLE.out _) hlb)))
        refine wpQuiet_nil ?_
        rintro w2 ⟨⟨w2x, hb2⟩, rfl⟩
        go_wp2
        go_roundw
        case rel => exact ⟨m + 1, b, by go_num, rfl, Lib.hid (hh.out.up HA.out HX.out m2 m1 HXF.out), bt.below hb2, btrans hb hb2, see.below hb2⟩
        case measure => simp [intOf]; omega
      · have hlb : lessB x f = false := by unfold lessB; exact decide_eq_false hxf
        have HXF := Lib.hid hxf
        clear hxf
        go_wp2
        refine wp_region_bw (by kernel_rfl) (by kernel_rfl) ?_
        repeat go_big_quiet_step ((go_at_call 108; exact Calls.bw _ (valB (HLE.out _) hlb)))
        refine wpQuiet_nil ?_
        rintro w2 ⟨⟨w2x, hb2⟩, rfl⟩
        go_wp2
        go_roundw
        case rel => exact ⟨a, m, rfl, rfl, Lib.hid (hh.out.down HA.out HX.out m2 m1 (by have := HXF.out; omega)), bt.below hb2, btrans hb hb2, see.below hb2⟩
        case measure => simp [intOf]; omega
    · obtain rfl : a = b := by omega
      have hbe := hh.out.done
      have HBE := Lib.hid hbe
      clear hbe
      by_cases hin : l[a]? = some f
      · have hal : a < l.length := (List.getElem?_eq_some_iff.1 hin).1
        obtain ⟨bl, ol, x, ex, hx, gx⟩ := see.at_ hal
        simp only [Option.some.injEq, Addr.mk.injEq, and_true] at ex
        obtain ⟨rfl, rfl⟩ := ex
        rw [Nat.zero_add] at gx
        rw [hin] at hx
        obtain rfl := Option.some.inj hx
        have k0 : (0 : Int) ≤ a := by omega
        have k1 : (a : Int) < l.length := by omega
        obtain ⟨x0, x1, x2, x3, x4, x5⟩ := gx.bw
        obtain ⟨y0, y1, y2, y3, y4, y5⟩ := bt.at.bw
        simp only [Nat.zero_add] at y0 y1 y2 y3 y4 y5
        have he := eq_map f f
        have hd : decide (f = f) = true := decide_eq_true rfl
        simp only [hd] at he
        have hput : putM l f = l := by unfold putM; rw [HBE.out, if_pos hin]
        have HPUT := Lib.hid hput
        clear hin hx gx hd hput
        go_wp2
        refine wp_region_bw (by kernel_rfl) (by kernel_rfl) ?_
        repeat go_big_quiet_step (fail)
        refine wpQuiet_nil ?_
        rintro w2 ⟨⟨w2x, hb2⟩, rfl⟩
        go_wp2
        go_returns
        exact ⟨_, rfl, by rw [HPUT.out]; exact HOWN.out.below (btrans hb hb2), fun k hk => .inl (Option.some.inj hk).symm, btrans hb hb2⟩
      · have hput : putM l f = l.take a ++ [f] ++ l.drop a := by unfold putM; rw [HBE.out, if_neg hin]; simp
        have HPUT := Lib.hid hput
        have hal : a ≤ l.length := hbl
        clear hput
        by_cases hlt2 : a < l.length
        · obtain ⟨bl, ol, x, ex, hx, gx⟩ := see.at_ hlt2
          simp only [Option.some.injEq, Addr.mk.injEq, and_true] at ex
          obtain ⟨rfl, rfl⟩ := ex
          rw [Nat.zero_add] at gx
          have hxf : x ≠ f := fun e => hin (by rw [hx, e])
          have k0 : (0 : Int) ≤ a := by omega
          have k1 : (a : Int) < l.length := by omega
          obtain ⟨x0, x1, x2, x3, x4, x5⟩ := gx.bw
          obtain ⟨y0, y1, y2, y3, y4, y5⟩ := bt.at.bw
          simp only [Nat.zero_add] at y0 y1 y2 y3 y4 y5
          have he := eq_map x f
          have hd : decide (x = f) = false := decide_eq_false hxf
          simp only [hd] at he
          clear hin hx gx hd hxf
          go_wp2
          refine wp_region_bw (by kernel_rfl) (by kernel_rfl) ?_
          repeat go_big_quiet_step (fail)
          refine wpQuiet_nil ?_
          rintro w2 ⟨⟨w2x, hb2⟩, rfl⟩
          clear x0 x1 x2 x3 x4 x5 y0 y1 y2 y3 y4 y5 he
          have bt2 := bt.below hb2
          have see2 := see.below hb2
          have hbw := btrans hb hb2
          have hcap := HOWN.out.cap
          have a0 : (0 : Int) ≤ a := by omega
          have ac : (a : Int) ≤ c := by omega
          have al : (a : Int) ≤ l.length := by omega
          have lc : (l.length : Int) ≤ c := by omega
          have hta : (l.take a).length = a := by rw [List.length_take]; omega
          have hda : (l.drop a).length = l.length - a := List.length_drop
          have hz2 := hbw.size
          have hbl2 : w.heap.size < w2.heap.size := bt2.lt
          clear bt see hb hb2
          go_wp2
          refine wp_region_headS 8 (fun w' => w'.cell? ⟨w.heap.size, 0, none⟩ = some (.int .i64 f.p) ∧ w'.cell? ⟨w.heap.size, 1, none⟩ = some (.int .i64 f.a) ∧ w'.cell? ⟨w.heap.size, 2, none⟩ = some (.int .i64 f.b) ∧ w'.cell? ⟨w.heap.size, 3, none⟩ = some (.int .i64 f.c) ∧ w'.cell? ⟨w.heap.size, 4, none⟩ = some (.int .i64 f.d) ∧ w'.cell? ⟨w.heap.size, 5, none⟩ = some (.int .i64 f.e)) (by kernel_rfl) (by kernel_rfl) ⟨(bt2).at.cells0.1, (bt2).at.cells0.2.1, (bt2).at.cells0.2.2.1, (bt2).at.cells0.2.2.2.1, (bt2).at.cells0.2.2.2.2.1, (bt2).at.cells0.2.2.2.2.2⟩ (fun hHeld => ?_)
          simp only [List.drop]
          refine headH_takeS (i := 1) (v := ?_) 41 rfl (by kernel_rfl) (by kernel_rfl) (fun _ _ _ h => h) (Or.inl ⟨by rfl, ?_⟩) hHeld ?_
          rotate_left
          · intro w hSw
            (try dsimp only at hSw)
            go_simp
            try with_reducible rfl
          try simp only [Act.put, List.setIfInBounds_toArray, List.set_cons_zero, List.set_cons_succ]
          refine headH_takeS (i := 2) (v := ?_) 42 rfl (by kernel_rfl) (by kernel_rfl) (fun _ _ _ h => h) (Or.inl ⟨by rfl, ?_⟩) hHeld ?_
          rotate_left
          · intro w hSw
            (try dsimp only at hSw)
            go_simp
            try with_reducible rfl
          try simp only [Act.put, List.setIfInBounds_toArray, List.set_cons_zero, List.set_cons_succ]
          refine headH_takeS (i := 3) (v := ?_) 43 rfl (by kernel_rfl) (by kernel_rfl) (fun _ _ _ h => h) (Or.inl ⟨by rfl, ?_⟩) hHeld ?_
          rotate_left
          · intro w hSw
            (try dsimp only at hSw)
            go_simp
            try with_reducible rfl
          try simp only [Act.put, List.setIfInBounds_toArray, List.set_cons_zero, List.set_cons_succ]
          refine headH_takeS (i := 5) (v := ?_) 45 rfl (by kernel_rfl) (by kernel_rfl) (fun _ _ _ h => h) (Or.inl ⟨by rfl, ?_⟩) hHeld ?_
          rotate_left
          · intro w hSw
            (try dsimp only at hSw)
            go_simp
            try with_reducible rfl
          try simp only [Act.put, List.setIfInBounds_toArray, List.set_cons_zero, List.set_cons_succ]
          have k2 : Below w2.heap.size w2 w2.drew := bdr (Below.refl _ _)
          have z2 : w2.heap.size ≤ w2.drew.heap.size := Nat.le_refl _
          refine headH_all (rs := [0, 6]) (by kernel_rfl) (by kernel_rfl) (headH_cons rfl (fun K hK => ?_) (headH_cons rfl (fun K hK => ?_) headH_nil))
          · go_simp
            have kkA := kbelow w2.drew (.cells #[] 27)
            have kA := btrans k2 kkA
            have zA : w2.heap.size ≤ _ := kA.size
            have ownA : OwnMaps (w2.drew.alloc (.cells #[] 27)) w2.heap.size (.slice (some ⟨w2.heap.size, 0, none⟩) 0 0) [] := by
              have h1 := World.ownsRow_made (e := 27) (size := 6) w2.drew #[] 0 (Nat.le_refl _) (by decide) rfl
              have h2 : (w2.drew.alloc (.cells #[] 27)).ownsRow w2.drew.heap.size 27 6 (.slice (some ⟨w2.heap.size, 0, none⟩) 0 0) 0 [] := by first | exact h1 | simpa using h1
              exact ⟨[], own_mono h2 (by first | exact Nat.le_refl _ | exact k2.size), ⟨rfl, fun k m hk => by simp at hk⟩⟩
            refine hK.out _ _ ⟨((bt2.below kA)).at.cells0.1, ((bt2.below kA)).at.cells0.2.1, ((bt2.below kA)).at.cells0.2.2.1, ((bt2.below kA)).at.cells0.2.2.2.1, ((bt2.below kA)).at.cells0.2.2.2.2.1, ((bt2.below kA)).at.cells0.2.2.2.2.2⟩ (fun hHeldn => ?_)
            clear hK K hHeld
            have hHeld := hHeldn
            clear hHeldn
            try simp only [Act.put, List.setIfInBounds_toArray, List.set_cons_zero, List.set_cons_succ]
            refine headH_all (rs := [4, 6]) (by kernel_rfl) (by kernel_rfl) (headH_cons rfl (fun K hK => ?_) (headH_cons rfl (fun K hK => ?_) headH_nil))
            · refine step_cat_map _ rfl (.tmp 40) (.tmp 43) rfl w2.heap.size _ [] (l.take a) rfl ownA ⟨g, 0, none⟩ c (by rw [hta]; rfl) ((see2.below kA).take a) (by rw [hta]; simp; omega) zA ?_
              intro v44 w4 hown4 hg4 hv4
              have kB : Below w2.heap.size w2 w4 := Below.grown kA hg4 kA.size (fun q hq => (ownA.lt q hq).1)
              have zB : w2.heap.size ≤ w4.heap.size := kB.size
              have ownB : OwnMaps w4 w2.heap.size v44 (l.take a) := by simpa using hown4
              refine hK.out _ _ ⟨((bt2.below kB)).at.cells0.1, ((bt2.below kB)).at.cells0.2.1, ((bt2.below kB)).at.cells0.2.2.1, ((bt2.below kB)).at.cells0.2.2.2.1, ((bt2.below kB)).at.cells0.2.2.2.2.1, ((bt2.below kB)).at.cells0.2.2.2.2.2⟩ (fun hHeldn => ?_)
              clear hK K hHeld
              have hHeld := hHeldn
              clear hHeldn
              try simp only [Act.put, List.setIfInBounds_toArray, List.set_cons_zero, List.set_cons_succ]
              refine headH_all (rs := [6]) (by kernel_rfl) (by kernel_rfl) (headH_cons rfl (fun K hK => ?_) headH_nil)
              go_simp
              have kkC := kbelow w4 (.cells #[.int .i64 f.p, .int .i64 f.a, .int .i64 f.b, .int .i64 f.c, .int .i64 f.d, .int .i64 f.e] 27)
              have kC := btrans kB kkC
              have zC : w2.heap.size ≤ _ := kC.size
              have bmC : MpBox (w4.alloc (.cells #[.int .i64 f.p, .int .i64 f.a, .int .i64 f.b, .int .i64 f.c, .int .i64 f.d, .int .i64 f.e] 27)) w4.heap.size f := MpBox.new f 27 (by first | rfl | (show _ = (w2.alloc _).heap.size; simp))
              have ownC := ownB.below kkC
              refine hK.out _ _ ⟨((bt2.below kC)).at.cells0.1, ((bt2.below kC)).at.cells0.2.1, ((bt2.below kC)).at.cells0.2.2.1, ((bt2.below kC)).at.cells0.2.2.2.1, ((bt2.below kC)).at.cells0.2.2.2.2.1, ((bt2.below kC)).at.cells0.2.2.2.2.2⟩ (fun hHeldn => ?_)
              clear hK K hHeld
              have hHeld := hHeldn
              clear hHeldn
              try simp only [Act.put, List.setIfInBounds_toArray, List.set_cons_zero, List.set_cons_succ]
              refine headH_all (rs := [7]) (by kernel_rfl) (by kernel_rfl) (headH_cons rfl (fun K hK => ?_) headH_nil)
              refine step_push_map _ rfl (.tmp 44) (.tmp 46) rfl w2.heap.size _ (l.take a) rfl ownC _ f rfl bmC (by omega) zC ?_
              intro v47 w7 hown7 hg7 hv7
              have kD : Below w2.heap.size w2 w7 := Below.grown kC hg7 kC.size (fun q hq => (ownC.lt q hq).1)
              have zD : w2.heap.size ≤ w7.heap.size := kD.size
              refine hK.out _ _ ⟨((bt2.below kD)).at.cells0.1, ((bt2.below kD)).at.cells0.2.1, ((bt2.below kD)).at.cells0.2.2.1, ((bt2.below kD)).at.cells0.2.2.2.1, ((bt2.below kD)).at.cells0.2.2.2.2.1, ((bt2.below kD)).at.cells0.2.2.2.2.2⟩ (fun hHeldn => ?_)
              clear hK K hHeld
              have hHeld := hHeldn
              clear hHeldn
              try simp only [Act.put, List.setIfInBounds_toArray, List.set_cons_zero, List.set_cons_succ]
              refine headH_tail (by kernel_rfl) ?_
              clear hHeld
              have ac2 : (a : Int) < c := by omega
              go_wp2_with (at_builtin; refine wpList_cat_map _ rfl (.tmp 48) (.tmp 51) rfl w2.heap.size _ (l.take a ++ [f]) (l.drop a) rfl hown7 ⟨g, a * 6, none⟩ (c - a) (by rw [hda]; show Value.slice _ _ _ = _; congr 1 <;> omega) (by have := (see2.below kD).drop a; rw [Nat.zero_add] at this; exact this) (by rw [List.length_append, hta, hda]; simp; omega) zD ?_; intro v9 w9 hown9 hg9 hv9)
              have k9 : Below w2.heap.size w2 w9 := Below.grown kD hg9 kD.size (fun q hq => (hown7.lt q hq).1)
              obtain ⟨A9, c9, rfl, _⟩ := hown9.see
              go_wp2
              go_returns
              exact ⟨_, rfl, by rw [HPUT.out]; exact hown9.mono (Nat.le_trans hbase hz2), fun k hk => .inr (Nat.le_trans hz2 (hown9.lt k hk).1), btrans hbw k9⟩
            · go_simp
              have kkB := kbelow (w2.drew.alloc (.cells #[] 27)) (.cells #[.int .i64 f.p, .int .i64 f.a, .int .i64 f.b, .int .i64 f.c, .int .i64 f.d, .int .i64 f.e] 27)
              have kB := btrans kA kkB
              have zB : w2.heap.size ≤ _ := kB.size
              have bmB : MpBox ((w2.drew.alloc (.cells #[] 27)).alloc (.cells #[.int .i64 f.p, .int .i64 f.a, .int .i64 f.b, .int .i64 f.c, .int .i64 f.d, .int .i64 f.e] 27)) (w2.heap.size + 1) f := MpBox.new f 27 (by first | rfl | (show _ = (w2.alloc _).heap.size; simp))
              have ownB := ownA.below kkB
              refine hK.out _ _ ⟨((bt2.below kB)).at.cells0.1, ((bt2.below kB)).at.cells0.2.1, ((bt2.below kB)).at.cells0.2.2.1, ((bt2.below kB)).at.cells0.2.2.2.1, ((bt2.below kB)).at.cells0.2.2.2.2.1, ((bt2.below kB)).at.cells0.2.2.2.2.2⟩ (fun hHeldn => ?_)
              clear hK K hHeld
              have hHeld := hHeldn
              clear hHeldn
              try simp only [Act.put, List.setIfInBounds_toArray, List.set_cons_zero, List.set_cons_succ]
              refine headH_all (rs := [4]) (by kernel_rfl) (by kernel_rfl) (headH_cons rfl (fun K hK => ?_) headH_nil)
              refine step_cat_map _ rfl (.tmp 40) (.tmp 43) rfl w2.heap.size _ [] (l.take a) rfl ownB ⟨g, 0, none⟩ c (by rw [hta]; rfl) ((see2.below kB).take a) (by rw [hta]; simp; omega) zB ?_
              intro v44 w4 hown4 hg4 hv4
              have kC : Below w2.heap.size w2 w4 := Below.grown kB hg4 kB.size (fun q hq => (ownB.lt q hq).1)
              have zC : w2.heap.size ≤ w4.heap.size := kC.size
              have ownC : OwnMaps w4 w2.heap.size v44 (l.take a) := by simpa using hown4
              have bmC := bmB.grow hg4 (fun e => by have h1 := Option.some.inj e; dsimp only at h1; omega)
              refine hK.out _ _ ⟨((bt2.below kC)).at.cells0.1, ((bt2.below kC)).at.cells0.2.1, ((bt2.below kC)).at.cells0.2.2.1, ((bt2.below kC)).at.cells0.2.2.2.1, ((bt2.below kC)).at.cells0.2.2.2.2.1, ((bt2.below kC)).at.cells0.2.2.2.2.2⟩ (fun hHeldn => ?_)
              clear hK K hHeld
              have hHeld := hHeldn
              clear hHeldn
              try simp only [Act.put, List.setIfInBounds_toArray, List.set_cons_zero, List.set_cons_succ]
              refine headH_all (rs := [7]) (by kernel_rfl) (by kernel_rfl) (headH_cons rfl (fun K hK => ?_) headH_nil)
              refine step_push_map _ rfl (.tmp 44) (.tmp 46) rfl w2.heap.size _ (l.take a) rfl ownC _ f rfl bmC (by omega) zC ?_
              intro v47 w7 hown7 hg7 hv7
              have kD : Below w2.heap.size w2 w7 := Below.grown kC hg7 kC.size (fun q hq => (ownC.lt q hq).1)
              have zD : w2.heap.size ≤ w7.heap.size := kD.size
              refine hK.out _ _ ⟨((bt2.below kD)).at.cells0.1, ((bt2.below kD)).at.cells0.2.1, ((bt2.below kD)).at.cells0.2.2.1, ((bt2.below kD)).at.cells0.2.2.2.1, ((bt2.below kD)).at.cells0.2.2.2.2.1, ((bt2.below kD)).at.cells0.2.2.2.2.2⟩ (fun hHeldn => ?_)
              clear hK K hHeld
              have hHeld := hHeldn
              clear hHeldn
              try simp only [Act.put, List.setIfInBounds_toArray, List.set_cons_zero, List.set_cons_succ]
              refine headH_tail (by kernel_rfl) ?_
              clear hHeld
              have ac2 : (a : Int) < c := by omega
              go_wp2_with (at_builtin; refine wpList_cat_map _ rfl (.tmp 48) (.tmp 51) rfl w2.heap.size _ (l.take a ++ [f]) (l.drop a) rfl hown7 ⟨g, a * 6, none⟩ (c - a) (by rw [hda]; show Value.slice _ _ _ = _; congr 1 <;> omega) (by have := (see2.below kD).drop a; rw [Nat.zero_add] at this; exact this) (by rw [List.length_append, hta, hda]; simp; omega) zD ?_; intro v9 w9 hown9 hg9 hv9)
              have k9 : Below w2.heap.size w2 w9 := Below.grown kD hg9 kD.size (fun q hq => (hown7.lt q hq).1)
              obtain ⟨A9, c9, rfl, _⟩ := hown9.see
              go_wp2
              go_returns
              exact ⟨_, rfl, by rw [HPUT.out]; exact hown9.mono (Nat.le_trans hbase hz2), fun k hk => .inr (Nat.le_trans hz2 (hown9.lt k hk).1), btrans hbw k9⟩
          · go_simp
            have kkA := kbelow w2.drew (.cells #[.int .i64 f.p, .int .i64 f.a, .int .i64 f.b, .int .i64 f.c, .int .i64 f.d, .int .i64 f.e] 27)
            have kA := btrans k2 kkA
            have zA : w2.heap.size ≤ _ := kA.size
            have bmA : MpBox (w2.drew.alloc (.cells #[.int .i64 f.p, .int .i64 f.a, .int .i64 f.b, .int .i64 f.c, .int .i64 f.d, .int .i64 f.e] 27)) w2.heap.size f := MpBox.new f 27 (by first | rfl | (show _ = (w2.alloc _).heap.size; simp))
            refine hK.out _ _ ⟨((bt2.below kA)).at.cells0.1, ((bt2.below kA)).at.cells0.2.1, ((bt2.below kA)).at.cells0.2.2.1, ((bt2.below kA)).at.cells0.2.2.2.1, ((bt2.below kA)).at.cells0.2.2.2.2.1, ((bt2.below kA)).at.cells0.2.2.2.2.2⟩ (fun hHeldn => ?_)
            clear hK K hHeld
            have hHeld := hHeldn
            clear hHeldn
            try simp only [Act.put, List.setIfInBounds_toArray, List.set_cons_zero, List.set_cons_succ]
            refine headH_all (rs := [0]) (by kernel_rfl) (by kernel_rfl) (headH_cons rfl (fun K hK => ?_) headH_nil)
            go_simp
            have kkB := kbelow (w2.drew.alloc (.cells #[.int .i64 f.p, .int .i64 f.a, .int .i64 f.b, .int .i64 f.c, .int .i64 f.d, .int .i64 f.e] 27)) (.cells #[] 27)
            have kB := btrans kA kkB
            have zB : w2.heap.size ≤ _ := kB.size
            have ownB : OwnMaps ((w2.drew.alloc (.cells #[.int .i64 f.p, .int .i64 f.a, .int .i64 f.b, .int .i64 f.c, .int .i64 f.d, .int .i64 f.e] 27)).alloc (.cells #[] 27)) w2.heap.size (.slice (some ⟨(w2.heap.size + 1), 0, none⟩) 0 0) [] := by
              have h1 := World.ownsRow_made (e := 27) (size := 6) (w2.drew.alloc (.cells #[.int .i64 f.p, .int .i64 f.a, .int .i64 f.b, .int .i64 f.c, .int .i64 f.d, .int .i64 f.e] 27)) #[] 0 (Nat.le_refl _) (by decide) rfl
              have h2 : ((w2.drew.alloc (.cells #[.int .i64 f.p, .int .i64 f.a, .int .i64 f.b, .int .i64 f.c, .int .i64 f.d, .int .i64 f.e] 27)).alloc (.cells #[] 27)).ownsRow (w2.drew.alloc (.cells #[.int .i64 f.p, .int .i64 f.a, .int .i64 f.b, .int .i64 f.c, .int .i64 f.d, .int .i64 f.e] 27)).heap.size 27 6 (.slice (some ⟨(w2.heap.size + 1), 0, none⟩) 0 0) 0 [] := by first | exact h1 | simpa using h1
              exact ⟨[], own_mono h2 (by first | exact Nat.le_refl _ | exact kA.size), ⟨rfl, fun k m hk => by simp at hk⟩⟩
            have bmB := bmA.below kkB
            refine hK.out _ _ ⟨((bt2.below kB)).at.cells0.1, ((bt2.below kB)).at.cells0.2.1, ((bt2.below kB)).at.cells0.2.2.1, ((bt2.below kB)).at.cells0.2.2.2.1, ((bt2.below kB)).at.cells0.2.2.2.2.1, ((bt2.below kB)).at.cells0.2.2.2.2.2⟩ (fun hHeldn => ?_)
            clear hK K hHeld
            have hHeld := hHeldn
            clear hHeldn
            try simp only [Act.put, List.setIfInBounds_toArray, List.set_cons_zero, List.set_cons_succ]
            refine headH_all (rs := [4]) (by kernel_rfl) (by kernel_rfl) (headH_cons rfl (fun K hK => ?_) headH_nil)
            refine step_cat_map _ rfl (.tmp 40) (.tmp 43) rfl w2.heap.size _ [] (l.take a) rfl ownB ⟨g, 0, none⟩ c (by rw [hta]; rfl) ((see2.below kB).take a) (by rw [hta]; simp; omega) zB ?_
            intro v44 w4 hown4 hg4 hv4
            have kC : Below w2.heap.size w2 w4 := Below.grown kB hg4 kB.size (fun q hq => (ownB.lt q hq).1)
            have zC : w2.heap.size ≤ w4.heap.size := kC.size
            have ownC : OwnMaps w4 w2.heap.size v44 (l.take a) := by simpa using hown4
            have bmC := bmB.grow hg4 (fun e => by have h1 := Option.some.inj e; dsimp only at h1; omega)
            refine hK.out _ _ ⟨((bt2.below kC)).at.cells0.1, ((bt2.below kC)).at.cells0.2.1, ((bt2.below kC)).at.cells0.2.2.1, ((bt2.below kC)).at.cells0.2.2.2.1, ((bt2.below kC)).at.cells0.2.2.2.2.1, ((bt2.below kC)).at.cells0.2.2.2.2.2⟩ (fun hHeldn => ?_)
            clear hK K hHeld
            have hHeld := hHeldn
            clear hHeldn
            try simp only [Act.put, List.setIfInBounds_toArray, List.set_cons_zero, List.set_cons_succ]
            refine headH_all (rs := [7]) (by kernel_rfl) (by kernel_rfl) (headH_cons rfl (fun K hK => ?_) headH_nil)
            refine step_push_map _ rfl (.tmp 44) (.tmp 46) rfl w2.heap.size _ (l.take a) rfl ownC _ f rfl bmC (by omega) zC ?_
            intro v47 w7 hown7 hg7 hv7
            have kD : Below w2.heap.size w2 w7 := Below.grown kC hg7 kC.size (fun q hq => (ownC.lt q hq).1)
            have zD : w2.heap.size ≤ w7.heap.size := kD.size
            refine hK.out _ _ ⟨((bt2.below kD)).at.cells0.1, ((bt2.below kD)).at.cells0.2.1, ((bt2.below kD)).at.cells0.2.2.1, ((bt2.below kD)).at.cells0.2.2.2.1, ((bt2.below kD)).at.cells0.2.2.2.2.1, ((bt2.below kD)).at.cells0.2.2.2.2.2⟩ (fun hHeldn => ?_)
            clear hK K hHeld
            have hHeld := hHeldn
            clear hHeldn
            try simp only [Act.put, List.setIfInBounds_toArray, List.set_cons_zero, List.set_cons_succ]
            refine headH_tail (by kernel_rfl) ?_
            clear hHeld
            have ac2 : (a : Int) < c := by omega
            go_wp2_with (at_builtin; refine wpList_cat_map _ rfl (.tmp 48) (.tmp 51) rfl w2.heap.size _ (l.take a ++ [f]) (l.drop a) rfl hown7 ⟨g, a * 6, none⟩ (c - a) (by rw [hda]; show Value.slice _ _ _ = _; congr 1 <;> omega) (by have := (see2.below kD).drop a; rw [Nat.zero_add] at this; exact this) (by rw [List.length_append, hta, hda]; simp; omega) zD ?_; intro v9 w9 hown9 hg9 hv9)
            have k9 : Below w2.heap.size w2 w9 := Below.grown kD hg9 kD.size (fun q hq => (hown7.lt q hq).1)
            obtain ⟨A9, c9, rfl, _⟩ := hown9.see
            go_wp2
            go_returns
            exact ⟨_, rfl, by rw [HPUT.out]; exact hown9.mono (Nat.le_trans hbase hz2), fun k hk => .inr (Nat.le_trans hz2 (hown9.lt k hk).1), btrans hbw k9⟩
        · have k1 : ¬ (a : Int) < l.length := by omega
          clear hin
          go_wp2
          refine wp_region_bw (by kernel_rfl) (by kernel_rfl) ?_
          repeat go_big_quiet_step (fail)
          refine wpQuiet_nil ?_
          rintro w2 ⟨⟨w2x, hb2⟩, rfl⟩
          have bt2 := bt.below hb2
          have see2 := see.below hb2
          have hbw := btrans hb hb2
          have hcap := HOWN.out.cap
          have a0 : (0 : Int) ≤ a := by omega
          have ac : (a : Int) ≤ c := by omega
          have al : (a : Int) ≤ l.length := by omega
          have lc : (l.length : Int) ≤ c := by omega
          have hta : (l.take a).length = a := by rw [List.length_take]; omega
          have hda : (l.drop a).length = l.length - a := List.length_drop
          have hz2 := hbw.size
          have hbl2 : w.heap.size < w2.heap.size := bt2.lt
          clear bt see hb hb2
          go_wp2
          refine wp_region_headS 8 (fun w' => w'.cell? ⟨w.heap.size, 0, none⟩ = some (.int .i64 f.p) ∧ w'.cell? ⟨w.heap.size, 1, none⟩ = some (.int .i64 f.a) ∧ w'.cell? ⟨w.heap.size, 2, none⟩ = some (.int .i64 f.b) ∧ w'.cell? ⟨w.heap.size, 3, none⟩ = some (.int .i64 f.c) ∧ w'.cell? ⟨w.heap.size, 4, none⟩ = some (.int .i64 f.d) ∧ w'.cell? ⟨w.heap.size, 5, none⟩ = some (.int .i64 f.e)) (by kernel_rfl) (by kernel_rfl) ⟨(bt2).at.cells0.1, (bt2).at.cells0.2.1, (bt2).at.cells0.2.2.1, (bt2).at.cells0.2.2.2.1, (bt2).at.cells0.2.2.2.2.1, (bt2).at.cells0.2.2.2.2.2⟩ (fun hHeld => ?_)
          simp only [List.drop]
          refine headH_takeS (i := 1) (v := ?_) 41 rfl (by kernel_rfl) (by kernel_rfl) (fun _ _ _ h => h) (Or.inl ⟨by rfl, ?_⟩) hHeld ?_
          rotate_left
          · intro w hSw
            (try dsimp only at hSw)
            go_simp
            try with_reducible rfl
          try simp only [Act.put, List.setIfInBounds_toArray, List.set_cons_zero, List.set_cons_succ]
          refine headH_takeS (i := 2) (v := ?_) 42 rfl (by kernel_rfl) (by kernel_rfl) (fun _ _ _ h => h) (Or.inl ⟨by rfl, ?_⟩) hHeld ?_
          rotate_left
          · intro w hSw
            (try dsimp only at hSw)
            go_simp
            try with_reducible rfl
          try simp only [Act.put, List.setIfInBounds_toArray, List.set_cons_zero, List.set_cons_succ]
          refine headH_takeS (i := 3) (v := ?_) 43 rfl (by kernel_rfl) (by kernel_rfl) (fun _ _ _ h => h) (Or.inl ⟨by rfl, ?_⟩) hHeld ?_
          rotate_left
          · intro w hSw
            (try dsimp only at hSw)
            go_simp
            try with_reducible rfl
          try simp only [Act.put, List.setIfInBounds_toArray, List.set_cons_zero, List.set_cons_succ]
          refine headH_takeS (i := 5) (v := ?_) 45 rfl (by kernel_rfl) (by kernel_rfl) (fun _ _ _ h => h) (Or.inl ⟨by rfl, ?_⟩) hHeld ?_
          rotate_left
          · intro w hSw
            (try dsimp only at hSw)
            go_simp
            try with_reducible rfl
          try simp only [Act.put, List.setIfInBounds_toArray, List.set_cons_zero, List.set_cons_succ]
          have k2 : Below w2.heap.size w2 w2.drew := bdr (Below.refl _ _)
          have z2 : w2.heap.size ≤ w2.drew.heap.size := Nat.le_refl _
          refine headH_all (rs := [0, 6]) (by kernel_rfl) (by kernel_rfl) (headH_cons rfl (fun K hK => ?_) (headH_cons rfl (fun K hK => ?_) headH_nil))
          · go_simp
            have kkA := kbelow w2.drew (.cells #[] 27)
            have kA := btrans k2 kkA
            have zA : w2.heap.size ≤ _ := kA.size
            have ownA : OwnMaps (w2.drew.alloc (.cells #[] 27)) w2.heap.size (.slice (some ⟨w2.heap.size, 0, none⟩) 0 0) [] := by
              have h1 := World.ownsRow_made (e := 27) (size := 6) w2.drew #[] 0 (Nat.le_refl _) (by decide) rfl
              have h2 : (w2.drew.alloc (.cells #[] 27)).ownsRow w2.drew.heap.size 27 6 (.slice (some ⟨w2.heap.size, 0, none⟩) 0 0) 0 [] := by first | exact h1 | simpa using h1
              exact ⟨[], own_mono h2 (by first | exact Nat.le_refl _ | exact k2.size), ⟨rfl, fun k m hk => by simp at hk⟩⟩
            refine hK.out _ _ ⟨((bt2.below kA)).at.cells0.1, ((bt2.below kA)).at.cells0.2.1, ((bt2.below kA)).at.cells0.2.2.1, ((bt2.below kA)).at.cells0.2.2.2.1, ((bt2.below kA)).at.cells0.2.2.2.2.1, ((bt2.below kA)).at.cells0.2.2.2.2.2⟩ (fun hHeldn => ?_)
            clear hK K hHeld
            have hHeld := hHeldn
            clear hHeldn
            try simp only [Act.put, List.setIfInBounds_toArray, List.set_cons_zero, List.set_cons_succ]
            refine headH_all (rs := [4, 6]) (by kernel_rfl) (by kernel_rfl) (headH_cons rfl (fun K hK => ?_) (headH_cons rfl (fun K hK => ?_) headH_nil))
            · refine step_cat_map _ rfl (.tmp 40) (.tmp 43) rfl w2.heap.size _ [] (l.take a) rfl ownA ⟨g, 0, none⟩ c (by rw [hta]; rfl) ((see2.below kA).take a) (by rw [hta]; simp; omega) zA ?_
              intro v44 w4 hown4 hg4 hv4
              have kB : Below w2.heap.size w2 w4 := Below.grown kA hg4 kA.size (fun q hq => (ownA.lt q hq).1)
              have zB : w2.heap.size ≤ w4.heap.size := kB.size
              have ownB : OwnMaps w4 w2.heap.size v44 (l.take a) := by simpa using hown4
              refine hK.out _ _ ⟨((bt2.below kB)).at.cells0.1, ((bt2.below kB)).at.cells0.2.1, ((bt2.below kB)).at.cells0.2.2.1, ((bt2.below kB)).at.cells0.2.2.2.1, ((bt2.below kB)).at.cells0.2.2.2.2.1, ((bt2.below kB)).at.cells0.2.2.2.2.2⟩ (fun hHeldn => ?_)
              clear hK K hHeld
              have hHeld := hHeldn
              clear hHeldn
              try simp only [Act.put, List.setIfInBounds_toArray, List.set_cons_zero, List.set_cons_succ]
              refine headH_all (rs := [6]) (by kernel_rfl) (by kernel_rfl) (headH_cons rfl (fun K hK => ?_) headH_nil)
              go_simp
              have kkC := kbelow w4 (.cells #[.int .i64 f.p, .int .i64 f.a, .int .i64 f.b, .int .i64 f.c, .int .i64 f.d, .int .i64 f.e] 27)
              have kC := btrans kB kkC
              have zC : w2.heap.size ≤ _ := kC.size
              have bmC : MpBox (w4.alloc (.cells #[.int .i64 f.p, .int .i64 f.a, .int .i64 f.b, .int .i64 f.c, .int .i64 f.d, .int .i64 f.e] 27)) w4.heap.size f := MpBox.new f 27 (by first | rfl | (show _ = (w2.alloc _).heap.size; simp))
              have ownC := ownB.below kkC
              refine hK.out _ _ ⟨((bt2.below kC)).at.cells0.1, ((bt2.below kC)).at.cells0.2.1, ((bt2.below kC)).at.cells0.2.2.1, ((bt2.below kC)).at.cells0.2.2.2.1, ((bt2.below kC)).at.cells0.2.2.2.2.1, ((bt2.below kC)).at.cells0.2.2.2.2.2⟩ (fun hHeldn => ?_)
              clear hK K hHeld
              have hHeld := hHeldn
              clear hHeldn
              try simp only [Act.put, List.setIfInBounds_toArray, List.set_cons_zero, List.set_cons_succ]
              refine headH_all (rs := [7]) (by kernel_rfl) (by kernel_rfl) (headH_cons rfl (fun K hK => ?_) headH_nil)
              refine step_push_map _ rfl (.tmp 44) (.tmp 46) rfl w2.heap.size _ (l.take a) rfl ownC _ f rfl bmC (by omega) zC ?_
              intro v47 w7 hown7 hg7 hv7
              have kD : Below w2.heap.size w2 w7 := Below.grown kC hg7 kC.size (fun q hq => (ownC.lt q hq).1)
              have zD : w2.heap.size ≤ w7.heap.size := kD.size
              refine hK.out _ _ ⟨((bt2.below kD)).at.cells0.1, ((bt2.below kD)).at.cells0.2.1, ((bt2.below kD)).at.cells0.2.2.1, ((bt2.below kD)).at.cells0.2.2.2.1, ((bt2.below kD)).at.cells0.2.2.2.2.1, ((bt2.below kD)).at.cells0.2.2.2.2.2⟩ (fun hHeldn => ?_)
              clear hK K hHeld
              have hHeld := hHeldn
              clear hHeldn
              try simp only [Act.put, List.setIfInBounds_toArray, List.set_cons_zero, List.set_cons_succ]
              refine headH_tail (by kernel_rfl) ?_
              clear hHeld
              by_cases hca : a < c
              · have ac2 : (a : Int) < c := by omega
                go_wp2_with (at_builtin; refine wpList_cat_map _ rfl (.tmp 48) (.tmp 51) rfl w2.heap.size _ (l.take a ++ [f]) (l.drop a) rfl hown7 ⟨g, a * 6, none⟩ (c - a) (by rw [hda]; show Value.slice _ _ _ = _; congr 1 <;> omega) (by have := (see2.below kD).drop a; rw [Nat.zero_add] at this; exact this) (by rw [List.length_append, hta, hda]; simp; omega) zD ?_; intro v9 w9 hown9 hg9 hv9)
                have k9 : Below w2.heap.size w2 w9 := Below.grown kD hg9 kD.size (fun q hq => (hown7.lt q hq).1)
                obtain ⟨A9, c9, rfl, _⟩ := hown9.see
                go_wp2
                go_returns
                exact ⟨_, rfl, by rw [HPUT.out]; exact hown9.mono (Nat.le_trans hbase hz2), fun k hk => .inr (Nat.le_trans hz2 (hown9.lt k hk).1), btrans hbw k9⟩
              · have ac2 : (c : Int) = a := by omega
                have ac3 : (c : Int) - a = 0 := by omega
                go_wp2_with (at_builtin; refine wpList_cat_map _ rfl (.tmp 48) (.tmp 51) rfl w2.heap.size _ (l.take a ++ [f]) (l.drop a) rfl hown7 ⟨g, 0, none⟩ 0 (by rw [hda]; show Value.slice _ _ _ = _; congr 1 <;> omega) (fun hne => absurd (List.drop_eq_nil_of_le (by omega)) hne) (by rw [List.length_append, hta, hda]; simp; omega) zD ?_; intro v9 w9 hown9 hg9 hv9)
                have k9 : Below w2.heap.size w2 w9 := Below.grown kD hg9 kD.size (fun q hq => (hown7.lt q hq).1)
                obtain ⟨A9, c9, rfl, _⟩ := hown9.see
                go_wp2
                go_returns
                exact ⟨_, rfl, by rw [HPUT.out]; exact hown9.mono (Nat.le_trans hbase hz2), fun k hk => .inr (Nat.le_trans hz2 (hown9.lt k hk).1), btrans hbw k9⟩
            · go_simp
              have kkB := kbelow (w2.drew.alloc (.cells #[] 27)) (.cells #[.int .i64 f.p, .int .i64 f.a, .int .i64 f.b, .int .i64 f.c, .int .i64 f.d, .int .i64 f.e] 27)
              have kB := btrans kA kkB
              have zB : w2.heap.size ≤ _ := kB.size
              have bmB : MpBox ((w2.drew.alloc (.cells #[] 27)).alloc (.cells #[.int .i64 f.p, .int .i64 f.a, .int .i64 f.b, .int .i64 f.c, .int .i64 f.d, .int .i64 f.e] 27)) (w2.heap.size + 1) f := MpBox.new f 27 (by first | rfl | (show _ = (w2.alloc _).heap.size; simp))
              have ownB := ownA.below kkB
              refine hK.out _ _ ⟨((bt2.below kB)).at.cells0.1, ((bt2.below kB)).at.cells0.2.1, ((bt2.below kB)).at.cells0.2.2.1, ((bt2.below kB)).at.cells0.2.2.2.1, ((bt2.below kB)).at.cells0.2.2.2.2.1, ((bt2.below kB)).at.cells0.2.2.2.2.2⟩ (fun hHeldn => ?_)
              clear hK K hHeld
              have hHeld := hHeldn
              clear hHeldn
              try simp only [Act.put, List.setIfInBounds_toArray, List.set_cons_zero, List.set_cons_succ]
              refine headH_all (rs := [4]) (by kernel_rfl) (by kernel_rfl) (headH_cons rfl (fun K hK => ?_) headH_nil)
              refine step_cat_map _ rfl (.tmp 40) (.tmp 43) rfl w2.heap.size _ [] (l.take a) rfl ownB ⟨g, 0, none⟩ c (by rw [hta]; rfl) ((see2.below kB).take a) (by rw [hta]; simp; omega) zB ?_
              intro v44 w4 hown4 hg4 hv4
              have kC : Below w2.heap.size w2 w4 := Below.grown kB hg4 kB.size (fun q hq => (ownB.lt q hq).1)
              have zC : w2.heap.size ≤ w4.heap.size := kC.size
              have ownC : OwnMaps w4 w2.heap.size v44 (l.take a) := by simpa using hown4
              have bmC := bmB.grow hg4 (fun e => by have h1 := Option.some.inj e; dsimp only at h1; omega)
              refine hK.out _ _ ⟨((bt2.below kC)).at.cells0.1, ((bt2.below kC)).at.cells0.2.1, ((bt2.below kC)).at.cells0.2.2.1, ((bt2.below kC)).at.cells0.2.2.2.1, ((bt2.below kC)).at.cells0.2.2.2.2.1, ((bt2.below kC)).at.cells0.2.2.2.2.2⟩ (fun hHeldn => ?_)
              clear hK K hHeld
              have hHeld := hHeldn
              clear hHeldn
              try simp only [Act.put, List.setIfInBounds_toArray, List.set_cons_zero, List.set_cons_succ]
              refine headH_all (rs := [7]) (by kernel_rfl) (by kernel_rfl) (headH_cons rfl (fun K hK => ?_) headH_nil)
              refine step_push_map _ rfl (.tmp 44) (.tmp 46) rfl w2.heap.size _ (l.take a) rfl ownC _ f rfl bmC (by omega) zC ?_
              intro v47 w7 hown7 hg7 hv7
              have kD : Below w2.heap.size w2 w7 := Below.grown kC hg7 kC.size (fun q hq => (ownC.lt q hq).1)
              have zD : w2.heap.size ≤ w7.heap.size := kD.size
              refine hK.out _ _ ⟨((bt2.below kD)).at.cells0.1, ((bt2.below kD)).at.cells0.2.1, ((bt2.below kD)).at.cells0.2.2.1, ((bt2.below kD)).at.cells0.2.2.2.1, ((bt2.below kD)).at.cells0.2.2.2.2.1, ((bt2.below kD)).at.cells0.2.2.2.2.2⟩ (fun hHeldn => ?_)
              clear hK K hHeld
              have hHeld := hHeldn
              clear hHeldn
              try simp only [Act.put, List.setIfInBounds_toArray, List.set_cons_zero, List.set_cons_succ]
              refine headH_tail (by kernel_rfl) ?_
              clear hHeld
              by_cases hca : a < c
              · have ac2 : (a : Int) < c := by omega
                go_wp2_with (at_builtin; refine wpList_cat_map _ rfl (.tmp 48) (.tmp 51) rfl w2.heap.size _ (l.take a ++ [f]) (l.drop a) rfl hown7 ⟨g, a * 6, none⟩ (c - a) (by rw [hda]; show Value.slice _ _ _ = _; congr 1 <;> omega) (by have := (see2.below kD).drop a; rw [Nat.zero_add] at this; exact this) (by rw [List.length_append, hta, hda]; simp; omega) zD ?_; intro v9 w9 hown9 hg9 hv9)
                have k9 : Below w2.heap.size w2 w9 := Below.grown kD hg9 kD.size (fun q hq => (hown7.lt q hq).1)
                obtain ⟨A9, c9, rfl, _⟩ := hown9.see
                go_wp2
                go_returns
                exact ⟨_, rfl, by rw [HPUT.out]; exact hown9.mono (Nat.le_trans hbase hz2), fun k hk => .inr (Nat.le_trans hz2 (hown9.lt k hk).1), btrans hbw k9⟩
              · have ac2 : (c : Int) = a := by omega
                have ac3 : (c : Int) - a = 0 := by omega
                go_wp2_with (at_builtin; refine wpList_cat_map _ rfl (.tmp 48) (.tmp 51) rfl w2.heap.size _ (l.take a ++ [f]) (l.drop a) rfl hown7 ⟨g, 0, none⟩ 0 (by rw [hda]; show Value.slice _ _ _ = _; congr 1 <;> omega) (fun hne => absurd (List.drop_eq_nil_of_le (by omega)) hne) (by rw [List.length_append, hta, hda]; simp; omega) zD ?_; intro v9 w9 hown9 hg9 hv9)
                have k9 : Below w2.heap.size w2 w9 := Below.grown kD hg9 kD.size (fun q hq => (hown7.lt q hq).1)
                obtain ⟨A9, c9, rfl, _⟩ := hown9.see
                go_wp2
                go_returns
                exact ⟨_, rfl, by rw [HPUT.out]; exact hown9.mono (Nat.le_trans hbase hz2), fun k hk => .inr (Nat.le_trans hz2 (hown9.lt k hk).1), btrans hbw k9⟩
          · go_simp
            have kkA := kbelow w2.drew (.cells #[.int .i64 f.p, .int .i64 f.a, .int .i64 f.b, .int .i64 f.c, .int .i64 f.d, .int .i64 f.e] 27)
            have kA := btrans k2 kkA
            have zA : w2.heap.size ≤ _ := kA.size
            have bmA : MpBox (w2.drew.alloc (.cells #[.int .i64 f.p, .int .i64 f.a, .int .i64 f.b, .int .i64 f.c, .int .i64 f.d, .int .i64 f.e] 27)) w2.heap.size f := MpBox.new f 27 (by first | rfl | (show _ = (w2.alloc _).heap.size; simp))
            refine hK.out _ _ ⟨((bt2.below kA)).at.cells0.1, ((bt2.below kA)).at.cells0.2.1, ((bt2.below kA)).at.cells0.2.2.1, ((bt2.below kA)).at.cells0.2.2.2.1, ((bt2.below kA)).at.cells0.2.2.2.2.1, ((bt2.below kA)).at.cells0.2.2.2.2.2⟩ (fun hHeldn => ?_)
            clear hK K hHeld
            have hHeld := hHeldn
            clear hHeldn
            try simp only [Act.put, List.setIfInBounds_toArray, List.set_cons_zero, List.set_cons_succ]
            refine headH_all (rs := [0]) (by kernel_rfl) (by kernel_rfl) (headH_cons rfl (fun K hK => ?_) headH_nil)
            go_simp
            have kkB := kbelow (w2.drew.alloc (.cells #[.int .i64 f.p, .int .i64 f.a, .int .i64 f.b, .int .i64 f.c, .int .i64 f.d, .int .i64 f.e] 27)) (.cells #[] 27)
            have kB := btrans kA kkB
            have zB : w2.heap.size ≤ _ := kB.size
            have ownB : OwnMaps ((w2.drew.alloc (.cells #[.int .i64 f.p, .int .i64 f.a, .int .i64 f.b, .int .i64 f.c, .int .i64 f.d, .int .i64 f.e] 27)).alloc (.cells #[] 27)) w2.heap.size (.slice (some ⟨(w2.heap.size + 1), 0, none⟩) 0 0) [] := by
              have h1 := World.ownsRow_made (e := 27) (size := 6) (w2.drew.alloc (.cells #[.int .i64 f.p, .int .i64 f.a, .int .i64 f.b, .int .i64 f.c, .int .i64 f.d, .int .i64 f.e] 27)) #[] 0 (Nat.le_refl _) (by decide) rfl
              have h2 : ((w2.drew.alloc (.cells #[.int .i64 f.p, .int .i64 f.a, .int .i64 f.b, .int .i64 f.c, .int .i64 f.d, .int .i64 f.e] 27)).alloc (.cells #[] 27)).ownsRow (w2.drew.alloc (.cells #[.int .i64 f.p, .int .i64 f.a, .int .i64 f.b, .int .i64 f.c, .int .i64 f.d, .int .i64 f.e] 27)).heap.size 27 6 (.slice (some ⟨(w2.heap.size + 1), 0, none⟩) 0 0) 0 [] := by first | exact h1 | simpa using h1
              exact ⟨[], own_mono h2 (by first | exact Nat.le_refl _ | exact kA.size), ⟨rfl, fun k m hk => by simp at hk⟩⟩
            have bmB := bmA.below kkB
            refine hK.out _ _ ⟨((bt2.below kB)).at.cells0.1, ((bt2.below kB)).at.cells0.2.1, ((bt2.below kB)).at.cells0.2.2.1, ((bt2.below kB)).at.cells0.2.2.2.1, ((bt2.below kB)).at.cells0.2.2.2.2.1, ((bt2.below kB)).at.cells0.2.2.2.2.2⟩ (fun hHeldn => ?_)
            clear hK K hHeld
            have hHeld := hHeldn
            clear hHeldn
            try simp only [Act.put, List.setIfInBounds_toArray, List.set_cons_zero, List.set_cons_succ]
            refine headH_all (rs := [4]) (by kernel_rfl) (by kernel_rfl) (headH_cons rfl (fun K hK => ?_) headH_nil)
            refine step_cat_map _ rfl (.tmp 40) (.tmp 43) rfl w2.heap.size _ [] (l.take a) rfl ownB ⟨g, 0, none⟩ c (by rw [hta]; rfl) ((see2.below kB).take a) (by rw [hta]; simp; omega) zB ?_
            intro v44 w4 hown4 hg4 hv4
            have kC : Below w2.heap.size w2 w4 := Below.grown kB hg4 kB.size (fun q hq => (ownB.lt q hq).1)
            have zC : w2.heap.size ≤ w4.heap.size := kC.size
            have ownC : OwnMaps w4 w2.heap.size v44 (l.take a) := by simpa using hown4
            have bmC := bmB.grow hg4 (fun e => by have h1 := Option.some.inj e; dsimp only at h1; omega)
            refine hK.out _ _ ⟨((bt2.below kC)).at.cells0.1, ((bt2.below kC)).at.cells0.2.1, ((bt2.below kC)).at.cells0.2.2.1, ((bt2.below kC)).at.cells0.2.2.2.1, ((bt2.below kC)).at.cells0.2.2.2.2.1, ((bt2.below kC)).at.cells0.2.2.2.2.2⟩ (fun hHeldn => ?_)
            clear hK K hHeld
            have hHeld := hHeldn
            clear hHeldn
            try simp only [Act.put, List.setIfInBounds_toArray, List.set_cons_zero, List.set_cons_succ]
            refine headH_all (rs := [7]) (by kernel_rfl) (by kernel_rfl) (headH_cons rfl (fun K hK => ?_) headH_nil)
            refine step_push_map _ rfl (.tmp 44) (.tmp 46) rfl w2.heap.size _ (l.take a) rfl ownC _ f rfl bmC (by omega) zC ?_
            intro v47 w7 hown7 hg7 hv7
            have kD : Below w2.heap.size w2 w7 := Below.grown kC hg7 kC.size (fun q hq => (ownC.lt q hq).1)
            have zD : w2.heap.size ≤ w7.heap.size := kD.size
            refine hK.out _ _ ⟨((bt2.below kD)).at.cells0.1, ((bt2.below kD)).at.cells0.2.1, ((bt2.below kD)).at.cells0.2.2.1, ((bt2.below kD)).at.cells0.2.2.2.1, ((bt2.below kD)).at.cells0.2.2.2.2.1, ((bt2.below kD)).at.cells0.2.2.2.2.2⟩ (fun hHeldn => ?_)
            clear hK K hHeld
            have hHeld := hHeldn
            clear hHeldn
            try simp only [Act.put, List.setIfInBounds_toArray, List.set_cons_zero, List.set_cons_succ]
            refine headH_tail (by kernel_rfl) ?_
            clear hHeld
            by_cases hca : a < c
            · have ac2 : (a : Int) < c := by omega
              go_wp2_with (at_builtin; refine wpList_cat_map _ rfl (.tmp 48) (.tmp 51) rfl w2.heap.size _ (l.take a ++ [f]) (l.drop a) rfl hown7 ⟨g, a * 6, none⟩ (c - a) (by rw [hda]; show Value.slice _ _ _ = _; congr 1 <;> omega) (by have := (see2.below kD).drop a; rw [Nat.zero_add] at this; exact this) (by rw [List.length_append, hta, hda]; simp; omega) zD ?_; intro v9 w9 hown9 hg9 hv9)
              have k9 : Below w2.heap.size w2 w9 := Below.grown kD hg9 kD.size (fun q hq => (hown7.lt q hq).1)
              obtain ⟨A9, c9, rfl, _⟩ := hown9.see
              go_wp2
              go_returns
              exact ⟨_, rfl, by rw [HPUT.out]; exact hown9.mono (Nat.le_trans hbase hz2), fun k hk => .inr (Nat.le_trans hz2 (hown9.lt k hk).1), btrans hbw k9⟩
            · have ac2 : (c : Int) = a := by omega
              have ac3 : (c : Int) - a = 0 := by omega
              go_wp2_with (at_builtin; refine wpList_cat_map _ rfl (.tmp 48) (.tmp 51) rfl w2.heap.size _ (l.take a ++ [f]) (l.drop a) rfl hown7 ⟨g, 0, none⟩ 0 (by rw [hda]; show Value.slice _ _ _ = _; congr 1 <;> omega) (fun hne => absurd (List.drop_eq_nil_of_le (by omega)) hne) (by rw [List.length_append, hta, hda]; simp; omega) zD ?_; intro v9 w9 hown9 hg9 hv9)
              have k9 : Below w2.heap.size w2 w9 := Below.grown kD hg9 kD.size (fun q hq => (hown7.lt q hq).1)
              obtain ⟨A9, c9, rfl, _⟩ := hown9.see
              go_wp2
              go_returns
              exact ⟨_, rfl, by rw [HPUT.out]; exact hown9.mono (Nat.le_trans hbase hz2), fun k hk => .inr (Nat.le_trans hz2 (hown9.lt k hk).1), btrans hbw k9⟩
end Go.Proofs.YtilfamenadaboaaGreat
