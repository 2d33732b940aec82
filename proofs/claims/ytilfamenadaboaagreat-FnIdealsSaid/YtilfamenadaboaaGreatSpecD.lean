/- What the reference puts into an ascending list of maps. No condition. -/
import Derived.Test.YtilfamenadaboaaGreatSpecB
import Derived.Test.YtilfamenadaboaaGreatBase
import Derived.Test.YtilfamenadaboaaGreatNewMon
namespace Go.Proofs.YtilfamenadaboaaGreat
set_option linter.unusedSimpArgs false
set_option linter.unusedVariables false
set_option linter.unusedSectionVars false
open Go.RowKit
theorem OwnMaps.cap {w : World} {base g n c : Nat} {xs : List Mp} (h : OwnMaps w base (.slice (some ⟨g, 0, none⟩) n c) xs) : xs.length ≤ c := by
  obtain ⟨ys, h1, _⟩ := h
  rcases h1.2 with ⟨h2, _⟩ | ⟨g', cap, cur, h2, _, _, hc, _⟩
  · cases h2
  · simp only [Value.slice.injEq] at h2
    omega
theorem SeeMaps.take {w : World} {A : Option Addr} {xs : List Mp} (h : SeeMaps w A xs) (k : Nat) : SeeMaps w A (xs.take k) := fun hn => by
  have hn' : xs ≠ [] := fun e => hn (by rw [e]; simp)
  obtain ⟨b, o, e, q⟩ := h hn'
  exact ⟨b, o, e, fun j m hj => q j m (by rw [List.getElem?_take] at hj; split at hj; exact hj; cases hj)⟩
theorem SeeMaps.drop {w : World} {b o : Nat} {xs : List Mp} (h : SeeMaps w (some ⟨b, o, none⟩) xs) (k : Nat) : SeeMaps w (some ⟨b, o + k * 6, none⟩) (xs.drop k) := fun hn => by
  have hn' : xs ≠ [] := fun e => hn (by rw [e]; simp)
  obtain ⟨b', o', e, q⟩ := h hn'
  simp only [Option.some.injEq, Addr.mk.injEq, and_true] at e
  obtain ⟨rfl, rfl⟩ := e
  refine ⟨b, o + k * 6, rfl, fun j m hj => ?_⟩
  rw [List.getElem?_drop] at hj
  have := q (k + j) m hj
  rw [Nat.add_mul, ← Nat.add_assoc] at this
  exact this
theorem step_cat_map (w : World) {ops : Array Oper} {o : Oper} {a : Act} {K : Act → World → Prop} {Q : Exit → Act → World → Prop} {E : Prop} (hgd : o.guard = none) (s x : Operand)
    (ho : o.op = .call { callee := .builtin .append, args := #[s, x], argTypes := #[24, 24] })
    (base : Nat) (v : Value) (xs ys : List Mp) (hs : a.eval s = v) (hown : OwnMaps w base v xs) (ad : Addr) (c : Nat) (hx : a.eval x = .slice (some ad) ys.length c) (hy : SeeMaps w (some ad) ys)
    (hn : xs.length + ys.length ≤ 2097152) (hbase : base ≤ w.heap.size)
    (hK : ∀ v' w', OwnMaps w' base v' (xs ++ ys) → w.grownBy w' v.ownBlock → (v'.ownBlock = v.ownBlock ∨ v'.ownBlock = some w.heap.size) → K (a.put o.dst v') w') : if Region.wanted o (yielded ops a.tmps) = true then Oper.wp Tryz.prog o a w K Q else E := by
  obtain ⟨i0, hi, hz0, hz1, hz2⟩ := info_parts info_map
  obtain ⟨zs, h1, h2⟩ := hown
  have hc := hy.cells (c := c) (fun h => by cases h)
  refine step_append_see w hgd s x 24 ho base 27 i0 _ 6 48 Tryz.underlying24 hi hz0 hz1 hz2 rfl (by decide) v xs.length zs hs h1 (some ad) ys.length c (cellsOf ys) hx (repCells ys).len
    hc (cellsOf_one _) (by unfold maxLen; omega) (by omega) hbase (fun v' w' h3 h4 h5 => hK v' w' ⟨_, by rw [List.length_append]; exact h3, h2.append (repCells ys)⟩ h4 h5)
set_option maxHeartbeats 2000000 in
theorem l01Put_c (base g c : Nat) (l : List Mp) (n : Int) (f : Mp) (w : World) (hown : OwnMaps w base (.slice (some ⟨g, 0, none⟩) l.length c) l) (hbase : base ≤ w.heap.size) (ha : AscM l) (hN : ∀ g ∈ l, MpN g n) (hl : l.length ≤ 300) (hf : MpN f n) :
    Calls Tryz.prog 96 #[.slice (some ⟨g, 0, none⟩) l.length c, .agg #[.int .i64 f.p, .int .i64 f.a, .int .i64 f.b, .int .i64 f.c, .int .i64 f.d, .int .i64 f.e]] w fun e w' => ∃ v, e = .returned v ∧ OwnMaps w' base v (putM l f) ∧ (∀ k, v.ownBlock = some k → k = g ∨ w.heap.size ≤ k) ∧ Below w.heap.size w w' := by
  have hs := hown.see'
  have HOWN := Lib.hid hown
  have HNIL := Lib.hid hown.nilok
  have bt := MpBox.new (w := w) f 27 rfl
  have kk := kbelow w (.cells #[.int .i64 f.p, .int .i64 f.a, .int .i64 f.b, .int .i64 f.c, .int .i64 f.d, .int .i64 f.e] 27)
  have HA := Lib.hid ha
  have HN := Lib.hid hN
  have HS := Lib.hid (hs.below kk)
  clear ha hN hs hown
  go_enter Tryz.func96, Tryz.ntmps96
  go_wp2
  go_loopw [5, 6] (fun lo hi wr => ∃ a b : Nat, lo = .int .i64 a ∧ hi = .int .i64 b ∧ Hid (Half l f a b) ∧ MpBox wr w.heap.size f ∧ Below w.heap.size w wr ∧ SeeMaps wr (some ⟨g, 0, none⟩) l) (fun lo hi _ => (intOf hi).toNat - (intOf lo).toNat)
  case atStart => exact ⟨0, l.length, rfl, rfl, Lib.hid (Half.start l f), bt, kk, HS.out⟩
  case round =>
    clear bt kk HS
    obtain ⟨a, b, rfl, rfl, hh, bt, hb, see⟩ := hrel
    have hab := hh.out.le
    have hbl := hh.out.len
    by_cases hlt : a < b
    · obtain ⟨m1, m2, m3, m4⟩ := half_mid hlt (by omega)
      have l1 : (a : Int) < b := by omega
      obtain ⟨m, hm⟩ : ∃ m, m = (a + b) / 2 := ⟨_, rfl⟩
      rw [← hm] at m1 m2
      have hq : ((a : Int) + b) / 2 = (m : Int) := by omega
      have HM := Lib.hid hm
      obtain ⟨bl, ol, x, ex, hx, gx⟩ := see.at_ (k := m) (by omega)
      simp only [Option.some.injEq, Addr.mk.injEq, and_true] at ex
      obtain ⟨rfl, rfl⟩ := ex
      rw [Nat.zero_add] at gx
      have hxN := HN.out x (List.mem_of_getElem? hx)
      have k0 : (0 : Int) ≤ m := by omega
      have k1 : (m : Int) < l.length := by omega
      obtain ⟨x0, x1, x2, x3, x4, x5⟩ := gx.bw
      obtain ⟨y0, y1, y2, y3, y4, y5⟩ := bt.at.bw
      simp only [Nat.zero_add] at y0 y1 y2 y3 y4 y5
      have hless := fun W => l01Less_c x f n W hxN hf
      have HX := Lib.hid hx
      have HLE := Lib.hid hless
      clear hm hx gx hless hxN
      by_cases hxf : x.num < f.num
      · have hlb : lessB x f = true := by unfold lessB; exact decide_eq_true hxf
        have HXF := Lib.hid hxf
        clear hxf
        go_wp2
        refine wp_region_bw (by kernel_rfl) (by kernel_rfl) ?_
        repeat go_big_quiet_step ((go_at_call 108; exact Calls.bw _ (valB (HLE.out _) hlb)))
        refine wpQuiet_nil ?_
        rintro w2 ⟨⟨w2x, hb2⟩, rfl⟩
        go_wp2
        go_roundw
        case rel => exact ⟨m + 1, b, by go_num, rfl, Lib.hid (hh.out.up HA.out HX.out m2 m1 HXF.out), bt.below hb2, btrans hb hb2, see.below hb2⟩
        case measure => simp [intOf]; omega
      · have hlb : lessB x f = false := by unfold lessB; exact decide_eq_false hxf
        have HXF := Lib.hid hxf
        clear hxf
        go_wp2
        refine wp_region_bw (by kernel_rfl) (by kernel_rfl) ?_
        repeat go_big_quiet_step ((go_at_call 108; exact Calls.bw _ (valB (HLE.out _) hlb)))
        refine wpQuiet_nil ?_
        rintro w2 ⟨⟨w2x, hb2⟩, rfl⟩
        go_wp2
        go_roundw
        case rel => exact ⟨a, m, rfl, rfl, Lib.hid (hh.out.down HA.out HX.out m2 m1 (by have := HXF.out; omega)), bt.below hb2, btrans hb hb2, see.below hb2⟩
        case measure => simp [intOf]; omega
    · obtain rfl : a = b := by omega
      have hbe := hh.out.done
      have HBE := Lib.hid hbe
      clear hbe
      by_cases hin : l[a]? = some f
      · have hal : a < l.length := (List.getElem?_eq_some_iff.1 hin).1
        obtain ⟨bl, ol, x, ex, hx, gx⟩ := see.at_ hal
        simp only [Option.some.injEq, Addr.mk.injEq, and_true] at ex
        obtain ⟨rfl, rfl⟩ := ex
        rw [Nat.zero_add] at gx
        rw [hin] at hx
        obtain rfl := Option.some.inj hx
        have k0 : (0 : Int) ≤ a := by omega
        have k1 : (a : Int) < l.length := by omega
        obtain ⟨x0, x1, x2, x3, x4, x5⟩ := gx.bw
        obtain ⟨y0, y1, y2, y3, y4, y5⟩ := bt.at.bw
        simp only [Nat.zero_add] at y0 y1 y2 y3 y4 y5
        have he := eq_map f f
        have hd : decide (f = f) = true := decide_eq_true rfl
        simp only [hd] at he
        have hput : putM l f = l := by unfold putM; rw [HBE.out, if_pos hin]
        have HPUT := Lib.hid hput
        clear hin hx gx hd hput
        go_wp2
        refine wp_region_bw (by kernel_rfl) (by kernel_rfl) ?_
        repeat go_big_quiet_step (fail)
        refine wpQuiet_nil ?_
        rintro w2 ⟨⟨w2x, hb2⟩, rfl⟩
        go_wp2
        go_returns
        exact ⟨_, rfl, by rw [HPUT.out]; exact HOWN.out.below (btrans hb hb2), fun k hk => .inl (Option.some.inj hk).symm, btrans hb hb2⟩
      · have hput : putM l f = l.take a ++ [f] ++ l.drop a := by unfold putM; rw [HBE.out, if_neg hin]; simp
        have HPUT := Lib.hid hput
        have hal : a ≤ l.length := hbl
        clear hput
        by_cases hlt2 : a < l.length
        · obtain ⟨bl, ol, x, ex, hx, gx⟩ := see.at_ hlt2
          simp only [Option.some.injEq, Addr.mk.injEq, and_true] at ex
          obtain ⟨rfl, rfl⟩ := ex
          rw [Nat.zero_add] at gx
          have hxf : x ≠ f := fun e => hin (by rw [hx, e])
          have k0 : (0 : Int) ≤ a := by omega
          have k1 : (a : Int) < l.length := by omega
          obtain ⟨x0, x1, x2, x3, x4, x5⟩ := gx.bw
          obtain ⟨y0, y1, y2, y3, y4, y5⟩ := bt.at.bw
          simp only [Nat.zero_add] at y0 y1 y2 y3 y4 y5
          have he := eq_map x f
          have hd : decide (x = f) = false := decide_eq_false hxf
          simp only [hd] at he
          clear hin hx gx hd hxf
          go_wp2
          refine wp_region_bw (by kernel_rfl) (by kernel_rfl) ?_
          repeat go_big_quiet_step (fail)
          refine wpQuiet_nil ?_
          rintro w2 ⟨⟨w2x, hb2⟩, rfl⟩
          clear x0 x1 x2 x3 x4 x5 y0 y1 y2 y3 y4 y5 he
          have bt2 := bt.below hb2
          have see2 := see.below hb2
          have hbw := btrans hb hb2
          have hcap := HOWN.out.cap
          have a0 : (0 : Int) ≤ a := by omega
          have ac : (a : Int) ≤ c := by omega
          have al : (a : Int) ≤ l.length := by omega
          have lc : (l.length : Int) ≤ c := by omega
          have hta : (l.take a).length = a := by rw [List.length_take]; omega
          have hda : (l.drop a).length = l.length - a := List.length_drop
          have hz2 := hbw.size
          have hbl2 : w.heap.size < w2.heap.size := bt2.lt
          clear bt see hb hb2
          go_wp2
          refine wp_region_headS 8 (fun w' => w'.cell? ⟨w.heap.size, 0, none⟩ = some (.int .i64 f.p) ∧ w'.cell? ⟨w.heap.size, 1, none⟩ = some (.int .i64 f.a) ∧ w'.cell? ⟨w.heap.size, 2, none⟩ = some (.int .i64 f.b) ∧ w'.cell? ⟨w.heap.size, 3, none⟩ = some (.int .i64 f.c) ∧ w'.cell? ⟨w.heap.size, 4, none⟩ = some (.int .i64 f.d) ∧ w'.cell? ⟨w.heap.size, 5, none⟩ = some (.int .i64 f.e)) (by kernel_rfl) (by kernel_rfl) ⟨(bt2).at.cells0.1, (bt2).at.cells0.2.1, (bt2).at.cells0.2.2.1, (bt2).at.cells0.2.2.2.1, (bt2).at.cells0.2.2.2.2.1, (bt2).at.cells0.2.2.2.2.2⟩ (fun hHeld => ?_)
          simp only [List.drop]
          refine headH_takeS (i := 1) (v := ?_) 41 rfl (by kernel_rfl) (by kernel_rfl) (fun _ _ _ h => h) (Or.inl ⟨by rfl, ?_⟩) hHeld ?_
          rotate_left
          · intro w hSw
            (try dsimp only at hSw)
            go_simp
            try with_reducible rfl
          try simp only [Act.put, List.setIfInBounds_toArray, List.set_cons_zero, List.set_cons_succ]
          refine headH_takeS (i := 2) (v := ?_) 42 rfl (by kernel_rfl) (by kernel_rfl) (fun _ _ _ h => h) (Or.inl ⟨by rfl, ?_⟩) hHeld ?_
          rotate_left
          · intro w hSw
            (try dsimp only at hSw)
            go_simp
            try with_reducible rfl
          try simp only [Act.put, List.setIfInBounds_toArray, List.set_cons_zero, List.set_cons_succ]
          refine headH_takeS (i := 3) (v := ?_) 43 rfl (by kernel_rfl) (by kernel_rfl) (fun _ _ _ h => h) (Or.inl ⟨by rfl, ?_⟩) hHeld ?_
          rotate_left
          · intro w hSw
            (try dsimp only at hSw)
            go_simp
            try with_reducible rfl
          try simp only [Act.put, List.setIfInBounds_toArray, List.set_cons_zero, List.set_cons_succ]
          refine headH_takeS (i := 5) (v := ?_) 45 rfl (by kernel_rfl) (by kernel_rfl) (fun _ _ _ h => h) (Or.inl ⟨by rfl, ?_⟩) hHeld ?_
          rotate_left
          · intro w hSw
            (try dsimp only at hSw)
            go_simp
            try with_reducible rfl
          try simp only [Act.put, List.setIfInBounds_toArray, List.set_cons_zero, List.set_cons_succ]
          have k2 : Below w2.heap.size w2 w2.drew := bdr (Below.refl _ _)
          have z2 : w2.heap.size ≤ w2.drew.heap.size := Nat.le_refl _
          refine headH_all (rs := [0, 6]) (by kernel_rfl) (by kernel_rfl) (headH_cons rfl (fun K hK => ?_) (headH_cons rfl (fun K hK => ?_) headH_nil))
          · go_simp
            have kkA := kbelow w2.drew (.cells #[] 27)
            have kA := btrans k2 kkA
            have zA : w2.heap.size ≤ _ := kA.size
            have ownA : OwnMaps (w2.drew.alloc (.cells #[] 27)) w2.heap.size (.slice (some ⟨w2.heap.size, 0, none⟩) 0 0) [] := by
              have h1 := World.ownsRow_made (e := 27) (size := 6) w2.drew #[] 0 (Nat.le_refl _) (by decide) rfl
              have h2 : (w2.drew.alloc (.cells #[] 27)).ownsRow w2.drew.heap.size 27 6 (.slice (some ⟨w2.heap.size, 0, none⟩) 0 0) 0 [] := by first | exact h1 | simpa using h1
              exact ⟨[], own_mono h2 (by first | exact Nat.le_refl _ | exact k2.size), ⟨rfl, fun k m hk => by simp at hk⟩⟩
            refine hK.out _ _ ⟨((bt2.below kA)).at.cells0.1, ((bt2.below kA)).at.cells0.2.1, ((bt2.below kA)).at.cells0.2.2.1, ((bt2.below kA)).at.cells0.2.2.2.1, ((bt2.below kA)).at.cells0.2.2.2.2.1, ((bt2.below kA)).at.cells0.2.2.2.2.2⟩ (fun hHeldn => ?_)
            clear hK K hHeld
            have hHeld := hHeldn
            clear hHeldn
            try simp only [Act.put, List.setIfInBounds_toArray, List.set_cons_zero, List.set_cons_succ]
            refine headH_all (rs := [4, 6]) (by kernel_rfl) (by kernel_rfl) (headH_cons rfl (fun K hK => ?_) (headH_cons rfl (fun K hK => ?_) headH_nil))
            · refine step_cat_map _ rfl (.tmp 40) (.tmp 43) rfl w2.heap.size _ [] (l.take a) rfl ownA ⟨g, 0, none⟩ c (by rw [hta]; rfl) ((see2.below kA).take a) (by rw [hta]; simp; omega) zA ?_
              intro v44 w4 hown4 hg4 hv4
              have kB : Below w2.heap.size w2 w4 := Below.grown kA hg4 kA.size (fun q hq => (ownA.lt q hq).1)
              have zB : w2.heap.size ≤ w4.heap.size := kB.size
              have ownB : OwnMaps w4 w2.heap.size v44 (l.take a) := by simpa using hown4
              refine hK.out _ _ ⟨((bt2.below kB)).at.cells0.1, ((bt2.below kB)).at.cells0.2.1, ((bt2.below kB)).at.cells0.2.2.1, ((bt2.below kB)).at.cells0.2.2.2.1, ((bt2.below kB)).at.cells0.2.2.2.2.1, ((bt2.below kB)).at.cells0.2.2.2.2.2⟩ (fun hHeldn => ?_)
              clear hK K hHeld
              have hHeld := hHeldn
              clear hHeldn
              try simp only [Act.put, List.setIfInBounds_toArray, List.set_cons_zero, List.set_cons_succ]
              refine headH_all (rs := [6]) (by kernel_rfl) (by kernel_rfl) (headH_cons rfl (fun K hK => ?_) headH_nil)
              go_simp
              have kkC := kbelow w4 (.cells #[.int .i64 f.p, .int .i64 f.a, .int .i64 f.b, .int .i64 f.c, .int .i64 f.d, .int .i64 f.e] 27)
              have kC := btrans kB kkC
              have zC : w2.heap.size ≤ _ := kC.size
              have bmC : MpBox (w4.alloc (.cells #[.int .i64 f.p, .int .i64 f.a, .int .i64 f.b, .int .i64 f.c, .int .i64 f.d, .int .i64 f.e] 27)) w4.heap.size f := MpBox.new f 27 (by first | rfl | (show _ = (w2.alloc _).heap.size; simp))
              have ownC := ownB.below kkC
              refine hK.out _ _ ⟨((bt2.below kC)).at.cells0.1, ((bt2.below kC)).at.cells0.2.1, ((bt2.below kC)).at.cells0.2.2.1, ((bt2.below kC)).at.cells0.2.2.2.1, ((bt2.below kC)).at.cells0.2.2.2.2.1, ((bt2.below kC)).at.cells0.2.2.2.2.2⟩ (fun hHeldn => ?_)
              clear hK K hHeld
              have hHeld := hHeldn
              clear hHeldn
              try simp only [Act.put, List.setIfInBounds_toArray, List.set_cons_zero, List.set_cons_succ]
              refine headH_all (rs := [7]) (by kernel_rfl) (by kernel_rfl) (headH_cons rfl (fun K hK => ?_) headH_nil)
              refine step_push_map _ rfl (.tmp 44) (.tmp 46) rfl w2.heap.size _ (l.take a) rfl ownC _ f rfl bmC (by omega) zC ?_
              intro v47 w7 hown7 hg7 hv7
              have kD : Below w2.heap.size w2 w7 := Below.grown kC hg7 kC.size (fun q hq => (ownC.lt q hq).1)
              have zD : w2.heap.size ≤ w7.heap.size := kD.size
              refine hK.out _ _ ⟨((bt2.below kD)).at.cells0.1, ((bt2.below kD)).at.cells0.2.1, ((bt2.below kD)).at.cells0.2.2.1, ((bt2.below kD)).at.cells0.2.2.2.1, ((bt2.below kD)).at.cells0.2.2.2.2.1, ((bt2.below kD)).at.cells0.2.2.2.2.2⟩ (fun hHeldn => ?_)
              clear hK K hHeld
              have hHeld := hHeldn
              clear hHeldn
              try simp only [Act.put, List.setIfInBounds_toArray, List.set_cons_zero, List.set_cons_succ]
              refine headH_tail (by kernel_rfl) ?_
              clear hHeld
              have ac2 : (a : Int) < c := by omega
              go_wp2_with (at_builtin; refine wpList_cat_map _ rfl (.tmp 48) (.tmp 51) rfl w2.heap.size _ (l.take a ++ [f]) (l.drop a) rfl hown7 ⟨g, a * 6, none⟩ (c - a) (by rw [hda]; show Value.slice _ _ _ = _; congr 1 <;> omega) (by have := (see2.below kD).drop a; rw [Nat.zero_add] at this; exact this) (by rw [List.length_append, hta, hda]; simp; omega) zD ?_; intro v9 w9 hown9 hg9 hv9)
              have k9 : Below w2.heap.size w2 w9 := Below.grown kD hg9 kD.size (fun q hq => (hown7.lt q hq).1)
              obtain ⟨A9, c9, rfl, _⟩ := hown9.see
              go_wp2
              go_returns
              exact ⟨_, rfl, by rw [HPUT.out]; exact hown9.mono (Nat.le_trans hbase hz2), fun k hk => .inr (Nat.le_trans hz2 (hown9.lt k hk).1), btrans hbw k9⟩
            · go_simp
              have kkB := kbelow (w2.drew.alloc (.cells #[] 27)) (.cells #[.int .i64 f.p, .int .i64 f.a, .int .i64 f.b, .int .i64 f.c, .int .i64 f.d, .int .i64 f.e] 27)
              have kB := btrans kA kkB
              have zB : w2.heap.size ≤ _ := kB.size
              have bmB : MpBox ((w2.drew.alloc (.cells #[] 27)).alloc (.cells #[.int .i64 f.p, .int .i64 f.a, .int .i64 f.b, .int .i64 f.c, .int .i64 f.d, .int .i64 f.e] 27)) (w2.heap.size + 1) f := MpBox.new f 27 (by first | rfl | (show _ = (w2.alloc _).heap.size; simp))
              have ownB := ownA.below kkB
              refine hK.out _ _ ⟨((bt2.below kB)).at.cells0.1, ((bt2.below kB)).at.cells0.2.1, ((bt2.below kB)).at.cells0.2.2.1, ((bt2.below kB)).at.cells0.2.2.2.1, ((bt2.below kB)).at.cells0.2.2.2.2.1, ((bt2.below kB)).at.cells0.2.2.2.2.2⟩ (fun hHeldn => ?_)
              clear hK K hHeld
              have hHeld := hHeldn
              clear hHeldn
              try simp only [Act.put, List.setIfInBounds_toArray, List.set_cons_zero, List.set_cons_succ]
              refine headH_all (rs := [4]) (by kernel_rfl) (by kernel_rfl) (headH_cons rfl (fun K hK => ?_) headH_nil)
              refine step_cat_map _ rfl (.tmp 40) (.tmp 43) rfl w2.heap.size _ [] (l.take a) rfl ownB ⟨g, 0, none⟩ c (by rw [hta]; rfl) ((see2.below kB).take a) (by rw [hta]; simp; omega) zB ?_
              intro v44 w4 hown4 hg4 hv4
              have kC : Below w2.heap.size w2 w4 := Below.grown kB hg4 kB.size (fun q hq => (ownB.lt q hq).1)
              have zC : w2.heap.size ≤ w4.heap.size := kC.size
              have ownC : OwnMaps w4 w2.heap.size v44 (l.take a) := by simpa using hown4
              have bmC := bmB.grow hg4 (fun e => by have h1 := Option.some.inj e; dsimp only at h1; omega)
              refine hK.out _ _ ⟨((bt2.below kC)).at.cells0.1, ((bt2.below kC)).at.cells0.2.1, ((bt2.below kC)).at.cells0.2.2.1, ((bt2.below kC)).at.cells0.2.2.2.1, ((bt2.below kC)).at.cells0.2.2.2.2.1, ((bt2.below kC)).at.cells0.2.2.2.2.2⟩ (fun hHeldn => ?_)
              clear hK K hHeld
              have hHeld := hHeldn
              clear hHeldn
              try simp only [Act.put, List.setIfInBounds_toArray, List.set_cons_zero, List.set_cons_succ]
              refine headH_all (rs := [7]) (by kernel_rfl) (by kernel_rfl) (headH_cons rfl (fun K hK => ?_) headH_nil)
              refine step_push_map _ rfl (.tmp 44) (.tmp 46) rfl w2.heap.size _ (l.take a) rfl ownC _ f rfl bmC (by omega) zC ?_
              intro v47 w7 hown7 hg7 hv7
              have kD : Below w2.heap.size w2 w7 := Below.grown kC hg7 kC.size (fun q hq => (ownC.lt q hq).1)
              have zD : w2.heap.size ≤ w7.heap.size := kD.size
              refine hK.out _ _ ⟨((bt2.below kD)).at.cells0.1, ((bt2.below kD)).at.cells0.2.1, ((bt2.below kD)).at.cells0.2.2.1, ((bt2.below kD)).at.cells0.2.2.2.1, ((bt2.below kD)).at.cells0.2.2.2.2.1, ((bt2.below kD)).at.cells0.2.2.2.2.2⟩ (fun hHeldn => ?_)
              clear hK K hHeld
              have hHeld := hHeldn
              clear hHeldn
              try simp only [Act.put, List.setIfInBounds_toArray, List.set_cons_zero, List.set_cons_succ]
              refine headH_tail (by kernel_rfl) ?_
              clear hHeld
              have ac2 : (a : Int) < c := by omega
              go_wp2_with (at_builtin; refine wpList_cat_map _ rfl (.tmp 48) (.tmp 51) rfl w2.heap.size _ (l.take a ++ [f]) (l.drop a) rfl hown7 ⟨g, a * 6, none⟩ (c - a) (by rw [hda]; show Value.slice _ _ _ = _; congr 1 <;> omega) (by have := (see2.below kD).drop a; rw [Nat.zero_add] at this; exact this) (by rw [List.length_append, hta, hda]; simp; omega) zD ?_; intro v9 w9 hown9 hg9 hv9)
              have k9 : Below w2.heap.size w2 w9 := Below.grown kD hg9 kD.size (fun q hq => (hown7.lt q hq).1)
              obtain ⟨A9, c9, rfl, _⟩ := hown9.see
              go_wp2
              go_returns
              exact ⟨_, rfl, by rw [HPUT.out]; exact hown9.mono (Nat.le_trans hbase hz2), fun k hk => .inr (Nat.le_trans hz2 (hown9.lt k hk).1), btrans hbw k9⟩
          · go_simp
            have kkA := kbelow w2.drew (.cells #[.int .i64 f.p, .int .i64 f.a, .int .i64 f.b, .int .i64 f.c, .int .i64 f.d, .int .i64 f.e] 27)
            have kA := btrans k2 kkA
            have zA : w2.heap.size ≤ _ := kA.size
            have bmA : MpBox (w2.drew.alloc (.cells #[.int .i64 f.p, .int .i64 f.a, .int .i64 f.b, .int .i64 f.c, .int .i64 f.d, .int .i64 f.e] 27)) w2.heap.size f := MpBox.new f 27 (by first | rfl | (show _ = (w2.alloc _).heap.size; simp))
            refine hK.out _ _ ⟨((bt2.below kA)).at.cells0.1, ((bt2.below kA)).at.cells0.2.1, ((bt2.below kA)).at.cells0.2.2.1, ((bt2.below kA)).at.cells0.2.2.2.1, ((bt2.below kA)).at.cells0.2.2.2.2.1, ((bt2.below kA)).at.cells0.2.2.2.2.2⟩ (fun hHeldn => ?_)
            clear hK K hHeld
            have hHeld := hHeldn
            clear hHeldn
            try simp only [Act.put, List.setIfInBounds_toArray, List.set_cons_zero, List.set_cons_succ]
            refine headH_all (rs := [0]) (by kernel_rfl) (by kernel_rfl) (headH_cons rfl (fun K hK => ?_) headH_nil)
            go_simp
            have kkB := kbelow (w2.drew.alloc (.cells #[.int .i64 f.p, .int .i64 f.a, .int .i64 f.b, .int .i64 f.c, .int .i64 f.d, .int .i64 f.e] 27)) (.cells #[] 27)
            have kB := btrans kA kkB
            have zB : w2.heap.size ≤ _ := kB.size
            have ownB : OwnMaps ((w2.drew.alloc (.cells #[.int .i64 f.p, .int .i64 f.a, .int .i64 f.b, .int .i64 f.c, .int .i64 f.d, .int .i64 f.e] 27)).alloc (.cells #[] 27)) w2.heap.size (.slice (some ⟨(w2.heap.size + 1), 0, none⟩) 0 0) [] := by
              have h1 := World.ownsRow_made (e := 27) (size := 6) (w2.drew.alloc (.cells #[.int .i64 f.p, .int .i64 f.a, .int .i64 f.b, .int .i64 f.c, .int .i64 f.d, .int .i64 f.e] 27)) #[] 0 (Nat.le_refl _) (by decide) rfl
              have h2 : ((w2.drew.alloc (.cells #[.int .i64 f.p, .int .i64 f.a, .int .i64 f.b, .int .i64 f.c, .int .i64 f.d, .int .i64 f.e] 27)).alloc (.cells #[] 27)).ownsRow (w2.drew.alloc (.cells #[.int .i64 f.p, .int .i64 f.a, .int .i64 f.b, .int .i64 f.c, .int .i64 f.d, .int .i64 f.e] 27)).heap.size 27 6 (.slice (some ⟨(w2.heap.size + 1), 0, none⟩) 0 0) 0 [] := by first | exact h1 | simpa using h1
              exact ⟨[], own_mono h2 (by first | exact Nat.le_refl _ | exact kA.size), ⟨rfl, fun k m hk => by simp at hk⟩⟩
            have bmB := bmA.below kkB
            refine hK.out _ _ ⟨((bt2.below kB)).at.cells0.1, ((bt2.below kB)).at.cells0.2.1, ((bt2.below kB)).at.cells0.2.2.1, ((bt2.below kB)).at.cells0.2.2.2.1, ((bt2.below kB)).at.cells0.2.2.2.2.1, ((bt2.below kB)).at.cells0.2.2.2.2.2⟩ (fun hHeldn => ?_)
            clear hK K hHeld
            have hHeld := hHeldn
            clear hHeldn
            try simp only [Act.put, List.setIfInBounds_toArray, List.set_cons_zero, List.set_cons_succ]
            refine headH_all (rs := [4]) (by kernel_rfl) (by kernel_rfl) (headH_cons rfl (fun K hK => ?_) headH_nil)
            refine step_cat_map _ rfl (.tmp 40) (.tmp 43) rfl w2.heap.size _ [] (l.take a) rfl ownB ⟨g, 0, none⟩ c (by rw [hta]; rfl) ((see2.below kB).take a) (by rw [hta]; simp; omega) zB ?_
            intro v44 w4 hown4 hg4 hv4
            have kC : Below w2.heap.size w2 w4 := Below.grown kB hg4 kB.size (fun q hq => (ownB.lt q hq).1)
            have zC : w2.heap.size ≤ w4.heap.size := kC.size
            have ownC : OwnMaps w4 w2.heap.size v44 (l.take a) := by simpa using hown4
            have bmC := bmB.grow hg4 (fun e => by have h1 := Option.some.inj e; dsimp only at h1; omega)
            refine hK.out _ _ ⟨((bt2.below kC)).at.cells0.1, ((bt2.below kC)).at.cells0.2.1, ((bt2.below kC)).at.cells0.2.2.1, ((bt2.below kC)).at.cells0.2.2.2.1, ((bt2.below kC)).at.cells0.2.2.2.2.1, ((bt2.below kC)).at.cells0.2.2.2.2.2⟩ (fun hHeldn => ?_)
            clear hK K hHeld
            have hHeld := hHeldn
            clear hHeldn
            try simp only [Act.put, List.setIfInBounds_toArray, List.set_cons_zero, List.set_cons_succ]
            refine headH_all (rs := [7]) (by kernel_rfl) (by kernel_rfl) (headH_cons rfl (fun K hK => ?_) headH_nil)
            refine step_push_map _ rfl (.tmp 44) (.tmp 46) rfl w2.heap.size _ (l.take a) rfl ownC _ f rfl bmC (by omega) zC ?_
            intro v47 w7 hown7 hg7 hv7
            have kD : Below w2.heap.size w2 w7 := Below.grown kC hg7 kC.size (fun q hq => (ownC.lt q hq).1)
            have zD : w2.heap.size ≤ w7.heap.size := kD.size
            refine hK.out _ _ ⟨((bt2.below kD)).at.cells0.1, ((bt2.below kD)).at.cells0.2.1, ((bt2.below kD)).at.cells0.2.2.1, ((bt2.below kD)).at.cells0.2.2.2.1, ((bt2.below kD)).at.cells0.2.2.2.2.1, ((bt2.below kD)).at.cells0.2.2.2.2.2⟩ (fun hHeldn => ?_)
            clear hK K hHeld
            have hHeld := hHeldn
            clear hHeldn
            try simp only [Act.put, List.setIfInBounds_toArray, List.set_cons_zero, List.set_cons_succ]
            refine headH_tail (by kernel_rfl) ?_
            clear hHeld
            have ac2 : (a : Int) < c := by omega
            go_wp2_with (at_builtin; refine wpList_cat_map _ rfl (.tmp 48) (.tmp 51) rfl w2.heap.size _ (l.take a ++ [f]) (l.drop a) rfl hown7 ⟨g, a * 6, none⟩ (c - a) (by rw [hda]; show Value.slice _ _ _ = _; congr 1 <;> omega) (by have := (see2.below kD).drop a; rw [Nat.zero_add] at this; exact this) (by rw [List.length_append, hta, hda]; simp; omega) zD ?_; intro v9 w9 hown9 hg9 hv9)
            have k9 : Below w2.heap.size w2 w9 := Below.grown kD hg9 kD.size (fun q hq => (hown7.lt q hq).1)
            obtain ⟨A9, c9, rfl, _⟩ := hown9.see
            go_wp2
            go_returns
            exact ⟨_, rfl, by rw [HPUT.out]; exact hown9.mono (Nat.le_trans hbase hz2), fun k hk => .inr (Nat.le_trans hz2 (hown9.lt k hk).1), btrans hbw k9⟩
        · have k1 : ¬ (a : Int) < l.length := by omega
          clear hin
          go_wp2
          refine wp_region_bw (by kernel_rfl) (by kernel_rfl) ?_
          repeat go_big_quiet_step (fail)
          refine wpQuiet_nil ?_
          rintro w2 ⟨⟨w2x, hb2⟩, rfl⟩
          have bt2 := bt.below hb2
          have see2 := see.below hb2
          have hbw := btrans hb hb2
          have hcap := HOWN.out.cap
          have a0 : (0 : Int) ≤ a := by omega
          have ac : (a : Int) ≤ c := by omega
          have al : (a : Int) ≤ l.length := by omega
          have lc : (l.length : Int) ≤ c := by omega
          have hta : (l.take a).length = a := by rw [List.length_take]; omega
          have hda : (l.drop a).length = l.length - a := List.length_drop
          have hz2 := hbw.size
          have hbl2 : w.heap.size < w2.heap.size := bt2.lt
          clear bt see hb hb2
          go_wp2
          refine wp_region_headS 8 (fun w' => w'.cell? ⟨w.heap.size, 0, none⟩ = some (.int .i64 f.p) ∧ w'.cell? ⟨w.heap.size, 1, none⟩ = some (.int .i64 f.a) ∧ w'.cell? ⟨w.heap.size, 2, none⟩ = some (.int .i64 f.b) ∧ w'.cell? ⟨w.heap.size, 3, none⟩ = some (.int .i64 f.c) ∧ w'.cell? ⟨w.heap.size, 4, none⟩ = some (.int .i64 f.d) ∧ w'.cell? ⟨w.heap.size, 5, none⟩ = some (.int .i64 f.e)) (by kernel_rfl) (by kernel_rfl) ⟨(bt2).at.cells0.1, (bt2).at.cells0.2.1, (bt2).at.cells0.2.2.1, (bt2).at.cells0.2.2.2.1, (bt2).at.cells0.2.2.2.2.1, (bt2).at.cells0.2.2.2.2.2⟩ (fun hHeld => ?_)
          simp only [List.drop]
          refine headH_takeS (i := 1) (v := ?_) 41 rfl (by kernel_rfl) (by kernel_rfl) (fun _ _ _ h => h) (Or.inl ⟨by rfl, ?_⟩) hHeld ?_
          rotate_left
          · intro w hSw
            (try dsimp only at hSw)
            go_simp
            try with_reducible rfl
          try simp only [Act.put, List.setIfInBounds_toArray, List.set_cons_zero, List.set_cons_succ]
          refine headH_takeS (i := 2) (v := ?_) 42 rfl (by kernel_rfl) (by kernel_rfl) (fun _ _ _ h => h) (Or.inl ⟨by rfl, ?_⟩) hHeld ?_
          rotate_left
          · intro w hSw
            (try dsimp only at hSw)
            go_simp
            try with_reducible rfl
          try simp only [Act.put, List.setIfInBounds_toArray, List.set_cons_zero, List.set_cons_succ]
          refine headH_takeS (i := 3) (v := ?_) 43 rfl (by kernel_rfl) (by kernel_rfl) (fun _ _ _ h => h) (Or.inl ⟨by rfl, ?_⟩) hHeld ?_
          rotate_left
          · intro w hSw
            (try dsimp only at hSw)
            go_simp
            try with_reducible rfl
          try simp only [Act.put, List.setIfInBounds_toArray, List.set_cons_zero, List.set_cons_succ]
          refine headH_takeS (i := 5) (v := ?_) 45 rfl (by kernel_rfl) (by kernel_rfl) (fun _ _ _ h => h) (Or.inl ⟨by rfl, ?_⟩) hHeld ?_
          rotate_left
          · intro w hSw
            (try dsimp only at hSw)
            go_simp
            try with_reducible rfl
          try simp only [Act.put, List.setIfInBounds_toArray, List.set_cons_zero, List.set_cons_succ]
          have k2 : Below w2.heap.size w2 w2.drew := bdr (Below.refl _ _)
          have z2 : w2.heap.size ≤ w2.drew.heap.size := Nat.le_refl _
          refine headH_all (rs := [0, 6]) (by kernel_rfl) (by kernel_rfl) (headH_cons rfl (fun K hK => ?_) (headH_cons rfl (fun K hK => ?_) headH_nil))
          · go_simp
            have kkA := kbelow w2.drew (.cells #[] 27)
            have kA := btrans k2 kkA
            have zA : w2.heap.size ≤ _ := kA.size
            have ownA : OwnMaps (w2.drew.alloc (.cells #[] 27)) w2.heap.size (.slice (some ⟨w2.heap.size, 0, none⟩) 0 0) [] := by
              have h1 := World.ownsRow_made (e := 27) (size := 6) w2.drew #[] 0 (Nat.le_refl _) (by decide) rfl
              have h2 : (w2.drew.alloc (.cells #[] 27)).ownsRow w2.drew.heap.size 27 6 (.slice (some ⟨w2.heap.size, 0, none⟩) 0 0) 0 [] := by first | exact h1 | simpa using h1
              exact ⟨[], own_mono h2 (by first | exact Nat.le_refl _ | exact k2.size), ⟨rfl, fun k m hk => by simp at hk⟩⟩
            refine hK.out _ _ ⟨((bt2.below kA)).at.cells0.1, ((bt2.below kA)).at.cells0.2.1, ((bt2.below kA)).at.cells0.2.2.1, ((bt2.below kA)).at.cells0.2.2.2.1, ((bt2.below kA)).at.cells0.2.2.2.2.1, ((bt2.below kA)).at.cells0.2.2.2.2.2⟩ (fun hHeldn => ?_)
            clear hK K hHeld
            have hHeld := hHeldn
            clear hHeldn
            try simp only [Act.put, List.setIfInBounds_toArray, List.set_cons_zero, List.set_cons_succ]
            refine headH_all (rs := [4, 6]) (by kernel_rfl) (by kernel_rfl) (headH_cons rfl (fun K hK => ?_) (headH_cons rfl (fun K hK => ?_) headH_nil))
            · refine step_cat_map _ rfl (.tmp 40) (.tmp 43) rfl w2.heap.size _ [] (l.take a) rfl ownA ⟨g, 0, none⟩ c (by rw [hta]; rfl) ((see2.below kA).take a) (by rw [hta]; simp; omega) zA ?_
              intro v44 w4 hown4 hg4 hv4
              have kB : Below w2.heap.size w2 w4 := Below.grown kA hg4 kA.size (fun q hq => (ownA.lt q hq).1)
              have zB : w2.heap.size ≤ w4.heap.size := kB.size
              have ownB : OwnMaps w4 w2.heap.size v44 (l.take a) := by simpa using hown4
              refine hK.out _ _ ⟨((bt2.below kB)).at.cells0.1, ((bt2.below kB)).at.cells0.2.1, ((bt2.below kB)).at.cells0.2.2.1, ((bt2.below kB)).at.cells0.2.2.2.1, ((bt2.below kB)).at.cells0.2.2.2.2.1, ((bt2.below kB)).at.cells0.2.2.2.2.2⟩ (fun hHeldn => ?_)
              clear hK K hHeld
              have hHeld := hHeldn
              clear hHeldn
              try simp only [Act.put, List.setIfInBounds_toArray, List.set_cons_zero, List.set_cons_succ]
              refine headH_all (rs := [6]) (by kernel_rfl) (by kernel_rfl) (headH_cons rfl (fun K hK => ?_) headH_nil)
              go_simp
              have kkC := kbelow w4 (.cells #[.int .i64 f.p, .int .i64 f.a, .int .i64 f.b, .int .i64 f.c, .int .i64 f.d, .int .i64 f.e] 27)
              have kC := btrans kB kkC
              have zC : w2.heap.size ≤ _ := kC.size
              have bmC : MpBox (w4.alloc (.cells #[.int .i64 f.p, .int .i64 f.a, .int .i64 f.b, .int .i64 f.c, .int .i64 f.d, .int .i64 f.e] 27)) w4.heap.size f := MpBox.new f 27 (by first | rfl | (show _ = (w2.alloc _).heap.size; simp))
              have ownC := ownB.below kkC
              refine hK.out _ _ ⟨((bt2.below kC)).at.cells0.1, ((bt2.below kC)).at.cells0.2.1, ((bt2.below kC)).at.cells0.2.2.1, ((bt2.below kC)).at.cells0.2.2.2.1, ((bt2.below kC)).at.cells0.2.2.2.2.1, ((bt2.below kC)).at.cells0.2.2.2.2.2⟩ (fun hHeldn => ?_)
              clear hK K hHeld
              have hHeld := hHeldn
              clear hHeldn
              try simp only [Act.put, List.setIfInBounds_toArray, List.set_cons_zero, List.set_cons_succ]
              refine headH_all (rs := [7]) (by kernel_rfl) (by kernel_rfl) (headH_cons rfl (fun K hK => ?_) headH_nil)
              refine step_push_map _ rfl (.tmp 44) (.tmp 46) rfl w2.heap.size _ (l.take a) rfl ownC _ f rfl bmC (by omega) zC ?_
              intro v47 w7 hown7 hg7 hv7
              have kD : Below w2.heap.size w2 w7 := Below.grown kC hg7 kC.size (fun q hq => (ownC.lt q hq).1)
              have zD : w2.heap.size ≤ w7.heap.size := kD.size
              refine hK.out _ _ ⟨((bt2.below kD)).at.cells0.1, ((bt2.below kD)).at.cells0.2.1, ((bt2.below kD)).at.cells0.2.2.1, ((bt2.below kD)).at.cells0.2.2.2.1, ((bt2.below kD)).at.cells0.2.2.2.2.1, ((bt2.below kD)).at.cells0.2.2.2.2.2⟩ (fun hHeldn => ?_)
              clear hK K hHeld
              have hHeld := hHeldn
              clear hHeldn
              try simp only [Act.put, List.setIfInBounds_toArray, List.set_cons_zero, List.set_cons_succ]
              refine headH_tail (by kernel_rfl) ?_
              clear hHeld
              by_cases hca : a < c
              · have ac2 : (a : Int) < c := by omega
                go_wp2_with (at_builtin; refine wpList_cat_map _ rfl (.tmp 48) (.tmp 51) rfl w2.heap.size _ (l.take a ++ [f]) (l.drop a) rfl hown7 ⟨g, a * 6, none⟩ (c - a) (by rw [hda]; show Value.slice _ _ _ = _; congr 1 <;> omega) (by have := (see2.below kD).drop a; rw [Nat.zero_add] at this; exact this) (by rw [List.length_append, hta, hda]; simp; omega) zD ?_; intro v9 w9 hown9 hg9 hv9)
                have k9 : Below w2.heap.size w2 w9 := Below.grown kD hg9 kD.size (fun q hq => (hown7.lt q hq).1)
                obtain ⟨A9, c9, rfl, _⟩ := hown9.see
                go_wp2
                go_returns
                exact ⟨_, rfl, by rw [HPUT.out]; exact hown9.mono (Nat.le_trans hbase hz2), fun k hk => .inr (Nat.le_trans hz2 (hown9.lt k hk).1), btrans hbw k9⟩
              · have ac2 : (c : Int) = a := by omega
                have ac3 : (c : Int) - a = 0 := by omega
                go_wp2_with (at_builtin; refine wpList_cat_map _ rfl (.tmp 48) (.tmp 51) rfl w2.heap.size _ (l.take a ++ [f]) (l.drop a) rfl hown7 ⟨g, 0, none⟩ 0 (by rw [hda]; show Value.slice _ _ _ = _; congr 1 <;> omega) (fun hne => absurd (List.drop_eq_nil_of_le (by omega)) hne) (by rw [List.length_append, hta, hda]; simp; omega) zD ?_; intro v9 w9 hown9 hg9 hv9)
                have k9 : Below w2.heap.size w2 w9 := Below.grown kD hg9 kD.size (fun q hq => (hown7.lt q hq).1)
                obtain ⟨A9, c9, rfl, _⟩ := hown9.see
                go_wp2
                go_returns
                exact ⟨_, rfl, by rw [HPUT.out]; exact hown9.mono (Nat.le_trans hbase hz2), fun k hk => .inr (Nat.le_trans hz2 (hown9.lt k hk).1), btrans hbw k9⟩
            · go_simp
              have kkB := kbelow (w2.drew.alloc (.cells #[] 27)) (.cells #[.int .i64 f.p, .int .i64 f.a, .int .i64 f.b, .int .i64 f.c, .int .i64 f.d, .int .i64 f.e] 27)
              have kB := btrans kA kkB
              have zB : w2.heap.size ≤ _ := kB.size
              have bmB : MpBox ((w2.drew.alloc (.cells #[] 27)).alloc (.cells #[.int .i64 f.p, .int .i64 f.a, .int .i64 f.b, .int .i64 f.c, .int .i64 f.d, .int .i64 f.e] 27)) (w2.heap.size + 1) f := MpBox.new f 27 (by first | rfl | (show _ = (w2.alloc _).heap.size; simp))
              have ownB := ownA.below kkB
              refine hK.out _ _ ⟨((bt2.below kB)).at.cells0.1, ((bt2.below kB)).at.cells0.2.1, ((bt2.below kB)).at.cells0.2.2.1, ((bt2.below kB)).at.cells0.2.2.2.1, ((bt2.below kB)).at.cells0.2.2.2.2.1, ((bt2.below kB)).at.cells0.2.2.2.2.2⟩ (fun hHeldn => ?_)
              clear hK K hHeld
              have hHeld := hHeldn
              clear hHeldn
              try simp only [Act.put, List.setIfInBounds_toArray, List.set_cons_zero, List.set_cons_succ]
              refine headH_all (rs := [4]) (by kernel_rfl) (by kernel_rfl) (headH_cons rfl (fun K hK => ?_) headH_nil)
              refine step_cat_map _ rfl (.tmp 40) (.tmp 43) rfl w2.heap.size _ [] (l.take a) rfl ownB ⟨g, 0, none⟩ c (by rw [hta]; rfl) ((see2.below kB).take a) (by rw [hta]; simp; omega) zB ?_
              intro v44 w4 hown4 hg4 hv4
              have kC : Below w2.heap.size w2 w4 := Below.grown kB hg4 kB.size (fun q hq => (ownB.lt q hq).1)
              have zC : w2.heap.size ≤ w4.heap.size := kC.size
              have ownC : OwnMaps w4 w2.heap.size v44 (l.take a) := by simpa using hown4
              have bmC := bmB.grow hg4 (fun e => by have h1 := Option.some.inj e; dsimp only at h1; omega)
              refine hK.out _ _ ⟨((bt2.below kC)).at.cells0.1, ((bt2.below kC)).at.cells0.2.1, ((bt2.below kC)).at.cells0.2.2.1, ((bt2.below kC)).at.cells0.2.2.2.1, ((bt2.below kC)).at.cells0.2.2.2.2.1, ((bt2.below kC)).at.cells0.2.2.2.2.2⟩ (fun hHeldn => ?_)
              clear hK K hHeld
              have hHeld := hHeldn
              clear hHeldn
              try simp only [Act.put, List.setIfInBounds_toArray, List.set_cons_zero, List.set_cons_succ]
              refine headH_all (rs := [7]) (by kernel_rfl) (by kernel_rfl) (headH_cons rfl (fun K hK => ?_) headH_nil)
              refine step_push_map _ rfl (.tmp 44) (.tmp 46) rfl w2.heap.size _ (l.take a) rfl ownC _ f rfl bmC (by omega) zC ?_
              intro v47 w7 hown7 hg7 hv7
              have kD : Below w2.heap.size w2 w7 := Below.grown kC hg7 kC.size (fun q hq => (ownC.lt q hq).1)
              have zD : w2.heap.size ≤ w7.heap.size := kD.size
              refine hK.out _ _ ⟨((bt2.below kD)).at.cells0.1, ((bt2.below kD)).at.cells0.2.1, ((bt2.below kD)).at.cells0.2.2.1, ((bt2.below kD)).at.cells0.2.2.2.1, ((bt2.below kD)).at.cells0.2.2.2.2.1, ((bt2.below kD)).at.cells0.2.2.2.2.2⟩ (fun hHeldn => ?_)
              clear hK K hHeld
              have hHeld := hHeldn
              clear hHeldn
              try simp only [Act.put, List.setIfInBounds_toArray, List.set_cons_zero, List.set_cons_succ]
              refine headH_tail (by kernel_rfl) ?_
              clear hHeld
              by_cases hca : a < c
              · have ac2 : (a : Int) < c := by omega
                go_wp2_with (at_builtin; refine wpList_cat_map _ rfl (.tmp 48) (.tmp 51) rfl w2.heap.size _ (l.take a ++ [f]) (l.drop a) rfl hown7 ⟨g, a * 6, none⟩ (c - a) (by rw [hda]; show Value.slice _ _ _ = _; congr 1 <;> omega) (by have := (see2.below kD).drop a; rw [Nat.zero_add] at this; exact this) (by rw [List.length_append, hta, hda]; simp; omega) zD ?_; intro v9 w9 hown9 hg9 hv9)
                have k9 : Below w2.heap.size w2 w9 := Below.grown kD hg9 kD.size (fun q hq => (hown7.lt q hq).1)
                obtain ⟨A9, c9, rfl, _⟩ := hown9.see
                go_wp2
                go_returns
                exact ⟨_, rfl, by rw [HPUT.out]; exact hown9.mono (Nat.le_trans hbase hz2), fun k hk => .inr (Nat.le_trans hz2 (hown9.lt k hk).1), btrans hbw k9⟩
              · have ac2 : (c : Int) = a := by omega
                have ac3 : (c : Int) - a = 0 := by omega
                go_wp2_with (at_builtin; refine wpList_cat_map _ rfl (.tmp 48) (.tmp 51) rfl w2.heap.size _ (l.take a ++ [f]) (l.drop a) rfl hown7 ⟨g, 0, none⟩ 0 (by rw [hda]; show Value.slice _ _ _ = _; congr 1 <;> omega) (fun hne => absurd (List.drop_eq_nil_of_le (by omega)) hne) (by rw [List.length_append, hta, hda]; simp; omega) zD ?_; intro v9 w9 hown9 hg9 hv9)
                have k9 : Below w2.heap.size w2 w9 := Below.grown kD hg9 kD.size (fun q hq => (hown7.lt q hq).1)
                obtain ⟨A9, c9, rfl, _⟩ := hown9.see
                go_wp2
                go_returns
                exact ⟨_, rfl, by rw [HPUT.out]; exact hown9.mono (Nat.le_trans hbase hz2), fun k hk => .inr (Nat.le_trans hz2 (hown9.lt k hk).1), btrans hbw k9⟩
          · go_simp
            have kkA := kbelow w2.drew (.cells #[.int .i64 f.p, .int .i64 f.a, .int .i64 f.b, .int .i64 f.c, .int .i64 f.d, .int .i64 f.e] 27)
            have kA := btrans k2 kkA
            have zA : w2.heap.size ≤ _ := kA.size
            have bmA : MpBox (w2.drew.alloc (.cells #[.int .i64 f.p, .int .i64 f.a, .int .i64 f.b, .int .i64 f.c, .int .i64 f.d, .int .i64 f.e] 27)) w2.heap.size f := MpBox.new f 27 (by first | rfl | (show _ = (w2.alloc _).heap.size; simp))
            refine hK.out _ _ ⟨((bt2.below kA)).at.cells0.1, ((bt2.below kA)).at.cells0.2.1, ((bt2.below kA)).at.cells0.2.2.1, ((bt2.below kA)).at.cells0.2.2.2.1, ((bt2.below kA)).at.cells0.2.2.2.2.1, ((bt2.below kA)).at.cells0.2.2.2.2.2⟩ (fun hHeldn => ?_)
            clear hK K hHeld
            have hHeld := hHeldn
            clear hHeldn
            try simp only [Act.put, List.setIfInBounds_toArray, List.set_cons_zero, List.set_cons_succ]
            refine headH_all (rs := [0]) (by kernel_rfl) (by kernel_rfl) (headH_cons rfl (fun K hK => ?_) headH_nil)
            go_simp
            have kkB := kbelow (w2.drew.alloc (.cells #[.int .i64 f.p, .int .i64 f.a, .int .i64 f.b, .int .i64 f.c, .int .i64 f.d, .int .i64 f.e] 27)) (.cells #[] 27)
            have kB := btrans kA kkB
            have zB : w2.heap.size ≤ _ := kB.size
            have ownB : OwnMaps ((w2.drew.alloc (.cells #[.int .i64 f.p, .int .i64 f.a, .int .i64 f.b, .int .i64 f.c, .int .i64 f.d, .int .i64 f.e] 27)).alloc (.cells #[] 27)) w2.heap.size (.slice (some ⟨(w2.heap.size + 1), 0, none⟩) 0 0) [] := by
              have h1 := World.ownsRow_made (e := 27) (size := 6) (w2.drew.alloc (.cells #[.int .i64 f.p, .int .i64 f.a, .int .i64 f.b, .int .i64 f.c, .int .i64 f.d, .int .i64 f.e] 27)) #[] 0 (Nat.le_refl _) (by decide) rfl
              have h2 : ((w2.drew.alloc (.cells #[.int .i64 f.p, .int .i64 f.a, .int .i64 f.b, .int .i64 f.c, .int .i64 f.d, .int .i64 f.e] 27)).alloc (.cells #[] 27)).ownsRow (w2.drew.alloc (.cells #[.int .i64 f.p, .int .i64 f.a, .int .i64 f.b, .int .i64 f.c, .int .i64 f.d, .int .i64 f.e] 27)).heap.size 27 6 (.slice (some ⟨(w2.heap.size + 1), 0, none⟩) 0 0) 0 [] := by first | exact h1 | simpa using h1
              exact ⟨[], own_mono h2 (by first | exact Nat.le_refl _ | exact kA.size), ⟨rfl, fun k m hk => by simp at hk⟩⟩
            have bmB := bmA.below kkB
            refine hK.out _ _ ⟨((bt2.below kB)).at.cells0.1, ((bt2.below kB)).at.cells0.2.1, ((bt2.below kB)).at.cells0.2.2.1, ((bt2.below kB)).at.cells0.2.2.2.1, ((bt2.below kB)).at.cells0.2.2.2.2.1, ((bt2.below kB)).at.cells0.2.2.2.2.2⟩ (fun hHeldn => ?_)
            clear hK K hHeld
            have hHeld := hHeldn
            clear hHeldn
            try simp only [Act.put, List.setIfInBounds_toArray, List.set_cons_zero, List.set_cons_succ]
            refine headH_all (rs := [4]) (by kernel_rfl) (by kernel_rfl) (headH_cons rfl (fun K hK => ?_) headH_nil)
            refine step_cat_map _ rfl (.tmp 40) (.tmp 43) rfl w2.heap.size _ [] (l.take a) rfl ownB ⟨g, 0, none⟩ c (by rw [hta]; rfl) ((see2.below kB).take a) (by rw [hta]; simp; omega) zB ?_
            intro v44 w4 hown4 hg4 hv4
            have kC : Below w2.heap.size w2 w4 := Below.grown kB hg4 kB.size (fun q hq => (ownB.lt q hq).1)
            have zC : w2.heap.size ≤ w4.heap.size := kC.size
            have ownC : OwnMaps w4 w2.heap.size v44 (l.take a) := by simpa using hown4
            have bmC := bmB.grow hg4 (fun e => by have h1 := Option.some.inj e; dsimp only at h1; omega)
            refine hK.out _ _ ⟨((bt2.below kC)).at.cells0.1, ((bt2.below kC)).at.cells0.2.1, ((bt2.below kC)).at.cells0.2.2.1, ((bt2.below kC)).at.cells0.2.2.2.1, ((bt2.below kC)).at.cells0.2.2.2.2.1, ((bt2.below kC)).at.cells0.2.2.2.2.2⟩ (fun hHeldn => ?_)
            clear hK K hHeld
            have hHeld := hHeldn
            clear hHeldn
            try simp only [Act.put, List.setIfInBounds_toArray, List.set_cons_zero, List.set_cons_succ]
            refine headH_all (rs := [7]) (by kernel_rfl) (by kernel_rfl) (headH_cons rfl (fun K hK => ?_) headH_nil)
            refine step_push_map _ rfl (.tmp 44) (.tmp 46) rfl w2.heap.size _ (l.take a) rfl ownC _ f rfl bmC (by omega) zC ?_
            intro v47 w7 hown7 hg7 hv7
            have kD : Below w2.heap.size w2 w7 := Below.grown kC hg7 kC.size (fun q hq => (ownC.lt q hq).1)
            have zD : w2.heap.size ≤ w7.heap.size := kD.size
            refine hK.out _ _ ⟨((bt2.below kD)).at.cells0.1, ((bt2.below kD)).at.cells0.2.1, ((bt2.below kD)).at.cells0.2.2.1, ((bt2.below kD)).at.cells0.2.2.2.1, ((bt2.below kD)).at.cells0.2.2.2.2.1, ((bt2.below kD)).at.cells0.2.2.2.2.2⟩ (fun hHeldn => ?_)
            clear hK K hHeld
            have hHeld := hHeldn
            clear hHeldn
            try simp only [Act.put, List.setIfInBounds_toArray, List.set_cons_zero, List.set_cons_succ]
            refine headH_tail (by kernel_rfl) ?_
            clear hHeld
            by_cases hca : a < c
            · have ac2 : (a : Int) < c := by omega
              go_wp2_with (at_builtin; refine wpList_cat_map _ rfl (.tmp 48) (.tmp 51) rfl w2.heap.size _ (l.take a ++ [f]) (l.drop a) rfl hown7 ⟨g, a * 6, none⟩ (c - a) (by rw [hda]; show Value.slice _ _ _ = _; congr 1 <;> omega) (by have := (see2.below kD).drop a; rw [Nat.zero_add] at this; exact this) (by rw [List.length_append, hta, hda]; simp; omega) zD ?_; intro v9 w9 hown9 hg9 hv9)
              have k9 : Below w2.heap.size w2 w9 := Below.grown kD hg9 kD.size (fun q hq => (hown7.lt q hq).1)
              obtain ⟨A9, c9, rfl, _⟩ := hown9.see
              go_wp2
              go_returns
              exact ⟨_, rfl, by rw [HPUT.out]; exact hown9.mono (Nat.le_trans hbase hz2), fun k hk => .inr (Nat.le_trans hz2 (hown9.lt k hk).1), btrans hbw k9⟩
            · have ac2 : (c : Int) = a := by omega
              have ac3 : (c : Int) - a = 0 := by omega
              go_wp2_with (at_builtin; refine wpList_cat_map _ rfl (.tmp 48) (.tmp 51) rfl w2.heap.size _ (l.take a ++ [f]) (l.drop a) rfl hown7 ⟨g, 0, none⟩ 0 (by rw [hda]; show Value.slice _ _ _ = _; congr 1 <;> omega) (fun hne => absurd (List.drop_eq_nil_of_le (by omega)) hne) (by rw [List.length_append, hta, hda]; simp; omega) zD ?_; intro v9 w9 hown9 hg9 hv9)
              have k9 : Below w2.heap.size w2 w9 := Below.grown kD hg9 kD.size (fun q hq => (hown7.lt q hq).1)
              obtain ⟨A9, c9, rfl, _⟩ := hown9.see
              go_wp2
              go_returns
              exact ⟨_, rfl, by rw [HPUT.out]; exact hown9.mono (Nat.le_trans hbase hz2), fun k hk => .inr (Nat.le_trans hz2 (hown9.lt k hk).1), btrans hbw k9⟩
/-! The reference's elements of a monoid. -/
structure ScMem (base : Nat) (vf vw vk : Value) (fs : List Mp) (ps : List Sl) (ks : List Mp) (w : World) : Prop where
  om : OwnMaps w base vf fs
  ow : OwnSls w base vw ps
  ew : ElsOk w base ps
  ok : OwnMaps w base vk ks
  sep : ∀ k, vf.ownBlock = some k → vk.ownBlock ≠ some k
section
variable {base : Nat} {vf vw vk : Value} {fs : List Mp} {ps : List Sl} {ks : List Mp} {w w' : World} {n : Int}
theorem ScMem.below (h : ScMem base vf vw vk fs ps ks w) (hb : Below w.heap.size w w') : ScMem base vf vw vk fs ps ks w' := ⟨h.om.below hb, h.ow.below hb, h.ew.below hb, h.ok.below hb, h.sep⟩
theorem ScMem.growM (h : ScMem base vf vw vk fs ps ks w) {v' : Value} {xs' : List Mp} (hg : w.grownBy w' vf.ownBlock) (h' : OwnMaps w' base v' xs') (hv : v'.ownBlock = vf.ownBlock ∨ v'.ownBlock = some w.heap.size) : ScMem base v' vw vk xs' ps ks w' := by
  obtain ⟨ys, h1, _⟩ := h.om
  refine ⟨h', h.ow.grow hg (own_ne h.ow h1 (by decide)), fun s hs => (h.ew s hs).grow hg (own_ne (h.ew s hs) h1 (by decide)), h.ok.grow hg (fun k hk hf => h.sep k hf hk), fun k hk hkk => ?_⟩
  rcases hv with e | e
  · exact h.sep k (e ▸ hk) hkk
  · rw [e] at hk
    have := (h.ok.lt k hkk).2
    have := Option.some.inj hk
    omega
theorem ScMem.growS (h : ScMem base vf vw vk fs ps ks w) {v' : Value} {s : Sl} (hg : w.grownBy w' vw.ownBlock) (h' : OwnSls w' base v' (ps ++ [s])) (hs : OwnInts w base s.v s.xs) : ScMem base vf v' vk fs (ps ++ [s]) ks w' := by
  obtain ⟨ys, h1, h2⟩ := h.om
  obtain ⟨zs, h3, h4⟩ := h.ok
  exact ⟨⟨ys, own_grow h1 hg (own_ne h1 h.ow (by decide)), h2⟩, h', (h.ew.snoc hs).growSl h.ow hg, ⟨zs, own_grow h3 hg (own_ne h3 h.ow (by decide)), h4⟩, h.sep⟩
theorem ScMem.growI (h : ScMem base vf vw vk fs ps ks w) {v : Value} {xs : List Int} {lo : Nat} (hg : w.grownBy w' v.ownBlock) (h' : OwnInts w lo v xs) (hlo : ∀ s ∈ ps, ∀ k, s.v.ownBlock = some k → k < lo) : ScMem base vf vw vk fs ps ks w' := by
  obtain ⟨ys, h1, h2⟩ := h.om
  obtain ⟨zs, h3, h4⟩ := h.ok
  exact ⟨⟨ys, own_grow h1 hg (own_ne h1 h' (by decide)), h2⟩, h.ow.grow hg (own_ne h.ow h' (by decide)), fun s hs => (h.ew s hs).grow hg fun k hk hv => by have h5 := (h'.lt k hv).1; have h6 := hlo s hs k hk; omega, ⟨zs, own_grow h3 hg (own_ne h3 h' (by decide)), h4⟩, h.sep⟩
theorem ScMem.put (h : ScMem base vf vw vk fs ps ks w) {v' : Value} {ks' : List Mp} {g : Nat} (hb : Below w.heap.size w w') (h' : OwnMaps w' base v' ks') (hv : ∀ k, v'.ownBlock = some k → k = g ∨ w.heap.size ≤ k) (hg : vk.ownBlock = some g) : ScMem base vf vw v' fs ps ks' w' := by
  have h2 := h.below hb
  refine ⟨h2.om, h2.ow, h2.ew, h', fun k hk hkk => ?_⟩
  rcases hv k hkk with e | e
  · subst e; exact h.sep k hk hg
  · have := (h.om.lt k hk).2; omega
structure ScPure (Q : List (Mp × List Int)) (fs : List Mp) (ps : List Sl) (ks : List Mp) : Prop where
  fq : fs = Q.map Prod.fst
  wq : ps.map Sl.xs = Q.map Prod.snd
  kq : ks = sortM fs
theorem ScPure.start (s : Sl) (hs : s.xs = []) : ScPure [(idM n, [])] [idM n] [s] [idM n] := ⟨rfl, by rw [List.map_cons, hs]; rfl, rfl⟩
theorem ScPure.len {Q : List (Mp × List Int)} (h : ScPure Q fs ps ks) : fs.length = Q.length ∧ ps.length = Q.length := by
  have h2 := congrArg List.length h.wq
  rw [List.length_map, List.length_map] at h2
  exact ⟨by rw [h.fq, List.length_map], h2⟩
theorem ScPure.getf {Q : List (Mp × List Int)} (h : ScPure Q fs ps ks) {k : Nat} {m : Mp × List Int} (hk : Q[k]? = some m) : fs[k]? = some m.1 := by
  rw [h.fq, List.getElem?_map, hk]; rfl
theorem ScPure.getw {Q : List (Mp × List Int)} (h : ScPure Q fs ps ks) {k : Nat} {m : Mp × List Int} (hk : Q[k]? = some m) : ∃ s, ps[k]? = some s ∧ s.xs = m.2 := by
  have h2 := congrArg (fun l : List (List Int) => l[k]?) h.wq
  simp only [List.getElem?_map, hk, Option.map_some, Option.map_eq_some_iff] at h2
  obtain ⟨s, e1, e2⟩ := h2
  exact ⟨s, e1, e2⟩
theorem ScPure.any {Q : List (Mp × List Int)} (h : ScPure Q fs ps ks) (g : Mp) : Q.any (fun m => decide (m.1 = g)) = decide (g ∈ fs) := by
  rw [h.fq, Bool.eq_iff_iff, List.any_eq_true, decide_eq_true_eq, List.mem_map]
  constructor
  · rintro ⟨m, hm, e⟩; exact ⟨m, hm, by simpa using e⟩
  · rintro ⟨m, hm, e⟩; exact ⟨m, hm, by simpa using e⟩
theorem ScPure.push {Q : List (Mp × List Int)} (h : ScPure Q fs ps ks) (g : Mp) (s : Sl) : ScPure (Q ++ [(g, s.xs)]) (fs ++ [g]) (ps ++ [s]) (putM ks g) :=
  ⟨by rw [h.fq, List.map_append]; rfl, by rw [List.map_append, List.map_append, h.wq]; rfl, by unfold sortM; rw [List.foldl_append, h.kq]; rfl⟩
end
def CloPost (ms : List Mp) (n : Int) (w : World) (e : Ending) (w' : World) : Prop :=
  (∃ v vw, (monQ ms n).length ≤ 300 ∧ e = .returned (.tuple #[v, vw, .bool true]) ∧ OwnMaps w' w.heap.size v ((monQ ms n).map Prod.fst) ∧ Below w.heap.size w w') ∨
  (300 < (monQ ms n).length ∧ e = .returned (.tuple #[.slice none 0 0, .slice none 0 0, .bool false]) ∧ Below w.heap.size w w')
set_option maxHeartbeats 8000000 in
set_option maxRecDepth 100000 in
theorem l02Closed_c {A : Option Addr} {c : Nat} {ms : List Mp} {n : Int} (w : World) (hr : RightL ms n) (h : SeeMaps w A ms) : Calls Tryz.prog 107 #[.slice A ms.length c, .int .i64 n] w (CloPost ms n w) := by
  have n1 := hr.bounds.1
  have n5 := hr.bounds.2
  have six := hr.six
  have HR := Lib.hid hr
  have HS := Lib.hid h
  clear hr h
  go_enter Tryz.func107, Tryz.ntmps107
  go_wp2_with fail
  refine (l01Identity_c n _ n1 n5).mono ?_
  rintro e w1 ⟨rfl, hb1⟩
  have hidN := idM_MpN n1 n5
  obtain ⟨W3, hW3⟩ : ∃ W3, W3 = ((w1.alloc (.cells #[.int .i64 (idM n).p, .int .i64 (idM n).a, .int .i64 (idM n).b, .int .i64 (idM n).c, .int .i64 (idM n).d, .int .i64 (idM n).e] 27)).alloc (.cells #[] 2)).alloc (.cells #[.slice (some ⟨w1.heap.size + 1, 0, none⟩) 0 0] 103) := ⟨_, rfl⟩
  have k3 : Below w1.heap.size w1 W3 := by rw [hW3]; go_grown
  have om3 : OwnMaps W3 w.heap.size (.slice (some ⟨w1.heap.size, 0, none⟩) 1 1) [idM n] := by
    rw [hW3]
    exact ((OwnMaps.one w1 w.heap.size hb1.size (idM n)).below (kbelow _ _)).below (kbelow _ _)
  have oi3 : OwnInts W3 w.heap.size (.slice (some ⟨w1.heap.size + 1, 0, none⟩) 0 0) [] := by
    have h1 := World.ownsRow_made (e := 2) (size := 1) (w1.alloc (.cells #[.int .i64 (idM n).p, .int .i64 (idM n).a, .int .i64 (idM n).b, .int .i64 (idM n).c, .int .i64 (idM n).d, .int .i64 (idM n).e] 27)) #[] 0 (Nat.le_refl _) (by decide) rfl
    have h2 : ((w1.alloc (.cells #[.int .i64 (idM n).p, .int .i64 (idM n).a, .int .i64 (idM n).b, .int .i64 (idM n).c, .int .i64 (idM n).d, .int .i64 (idM n).e] 27)).alloc (.cells #[] 2)).ownsRow (w1.alloc (.cells #[.int .i64 (idM n).p, .int .i64 (idM n).a, .int .i64 (idM n).b, .int .i64 (idM n).c, .int .i64 (idM n).d, .int .i64 (idM n).e] 27)).heap.size 2 1 (.slice (some ⟨w1.heap.size + 1, 0, none⟩) 0 0) 0 [] := by first | exact h1 | simpa using h1
    have h3 : OwnInts ((w1.alloc (.cells #[.int .i64 (idM n).p, .int .i64 (idM n).a, .int .i64 (idM n).b, .int .i64 (idM n).c, .int .i64 (idM n).d, .int .i64 (idM n).e] 27)).alloc (.cells #[] 2)) w.heap.size (.slice (some ⟨w1.heap.size + 1, 0, none⟩) 0 0) [] := own_mono h2 (by have := hb1.size; simp; omega)
    rw [hW3]
    exact h3.below (kbelow _ _)
  have ow3 : OwnSls W3 w.heap.size (.slice (some ⟨w1.heap.size + 1 + 1, 0, none⟩) 1 1) [⟨some ⟨w1.heap.size + 1, 0, none⟩, 0, []⟩] := by
    have := OwnSls.one ((w1.alloc (.cells #[.int .i64 (idM n).p, .int .i64 (idM n).a, .int .i64 (idM n).b, .int .i64 (idM n).c, .int .i64 (idM n).d, .int .i64 (idM n).e] 27)).alloc (.cells #[] 2)) w.heap.size (by have := hb1.size; simp; omega) ⟨some ⟨w1.heap.size + 1, 0, none⟩, 0, []⟩
    rw [hW3]
    simpa using this
  have z3 : w1.heap.size < W3.heap.size := by rw [hW3]; simp; omega
  go_wp2_with fail
  rw [← hW3]
  clear hW3
  refine (l01Identity_c n _ n1 n5).mono ?_
  rintro e w4 ⟨rfl, hb4⟩
  have hb5 := btrans (btrans hb1 k3) hb4
  have z4 := hb4.size
  have mem5 : ScMem w.heap.size (.slice (some ⟨w1.heap.size, 0, none⟩) 1 1) (.slice (some ⟨w1.heap.size + 1 + 1, 0, none⟩) 1 1) (.slice (some ⟨w4.heap.size, 0, none⟩) 1 1) [idM n] [⟨some ⟨w1.heap.size + 1, 0, none⟩, 0, []⟩] [idM n] (w4.alloc (.cells #[.int .i64 (idM n).p, .int .i64 (idM n).a, .int .i64 (idM n).b, .int .i64 (idM n).c, .int .i64 (idM n).d, .int .i64 (idM n).e] 27)) :=
    ⟨(om3.below hb4).below (kbelow _ _), (ow3.below hb4).below (kbelow _ _), fun s hs => by rw [List.mem_singleton.1 hs]; exact (oi3.below hb4).below (kbelow _ _), OwnMaps.one w4 _ hb5.size _, fun k hk hkk => by
      have h1 := Option.some.inj hk
      have h2 := Option.some.inj hkk
      dsimp only at h1 h2
      omega⟩
  have hb6 := btrans hb5 (kbelow w4 (.cells #[.int .i64 (idM n).p, .int .i64 (idM n).a, .int .i64 (idM n).b, .int .i64 (idM n).c, .int .i64 (idM n).d, .int .i64 (idM n).e] 27))
  have pur5 := ScPure.start (n := n) ⟨some ⟨w1.heap.size + 1, 0, none⟩, 0, []⟩ rfl
  clear om3 oi3 ow3 k3 hb1 hb4 hb5 z3 z4
  go_wp2
  go_loopw [10, 7, 8, 9] (fun i vf vw vk wr => ∃ (k : Nat) (fs : List Mp) (ps : List Sl) (ks : List Mp), i = .int .i64 k ∧ k ≤ fs.length ∧ fs.length ≤ 300 ∧ ScMem w.heap.size vf vw vk fs ps ks wr ∧ Hid (ScPure (monB ms n k) fs ps ks) ∧ Below w.heap.size w wr) (fun i _ _ _ _ => 301 - (intOf i).toNat)
  case atStart => exact ⟨0, _, _, _, rfl, Nat.zero_le _, by simp, mem5, Lib.hid pur5, hb6⟩
  case round =>
    clear mem5 pur5 hb6
    obtain ⟨k, fs, ps, ks, rfl, hk, h300, mem, pur, hb⟩ := hrel
    obtain ⟨Af, cf, rfl, hsf⟩ := mem.om.see
    by_cases hlt : k < fs.length
    · have l0 : (0 : Int) ≤ k := by omega
      have l1 : (k : Int) < fs.length := by omega
      have hlq := pur.out.len.1
      obtain ⟨now, hnow⟩ := el (xs := monB ms n k) (k := k) (by omega)
      have HN := Lib.hid hnow
      clear hnow hlq hsf
      go_wp2
      go_loopw [11, 7, 8, 9] (fun i vf vw vk wr => ∃ (j : Nat) (fs : List Mp) (ps : List Sl) (ks : List Mp), i = .int .i64 j ∧ j ≤ ms.length ∧ fs.length ≤ 300 ∧ ScMem w.heap.size vf vw vk fs ps ks wr ∧ Hid (ScPure (gTo (mst ms) now (monB ms n k) j) fs ps ks) ∧ Below w.heap.size w wr) (fun i _ _ _ _ => ms.length - (intOf i).toNat)
      case atStart => exact ⟨0, _, _, _, rfl, Nat.zero_le _, h300, mem, pur, hb⟩
      case round =>
        clear mem hb h300 hlt hk l1
        obtain ⟨j, fs, ps, ks, rfl, hj, h300, mem, pur, hb⟩ := hrel
        obtain ⟨Af, cf, rfl, hsf⟩ := mem.om.see
        by_cases hlj : j < ms.length
        · have hQ : (gTo (mst ms) now (monB ms n k) j)[k]? = some now := by
            obtain ⟨t, ht⟩ := gTo_prefix (st := mst ms) now (monB ms n k) j
            rw [ht, List.getElem?_append_left (List.getElem?_eq_some_iff.1 HN.out).1]
            exact HN.out
          have hfk := pur.out.getf hQ
          have hkl : k < fs.length := (List.getElem?_eq_some_iff.1 hfk).1
          have l1 : (k : Int) < fs.length := by omega
          obtain ⟨bv, ov, x, eA, hx, gx⟩ := hsf.at_ hkl
          rw [hfk] at hx
          obtain rfl := Option.some.inj hx
          subst eA
          obtain ⟨bl, ol, f, rfl, hf, gf⟩ := (HS.out.below hb).at_ hlj
          have lj0 : (0 : Int) ≤ j := by omega
          have lj1 : (j : Int) < ms.length := by omega
          have hfN : MpN f n := HR.out.all f (List.mem_of_getElem? hf)
          have hnN : MpN now.1 n := (monB_fine HR.out k).mem now (List.mem_of_getElem? HN.out)
          have hst : mst ms j now.1 = mulM now.1 f := by unfold mst; rw [List.getD_eq_getElem?_getD, hf]; rfl
          have hgN : MpN (mulM now.1 f) n := mulM_MpN hnN hfN
          have hfsN : ∀ h ∈ fs, MpN h n := fun h hh => by
            rw [pur.out.fq] at hh
            obtain ⟨m, hm, rfl⟩ := List.mem_map.1 hh
            exact (gTo_fineP (st := mst ms) (now := now) (P := fun g => MpN g n) (monB_fine HR.out k) j (fun j' hj' => mulM_MpN hnN (getD_MpN HR.out (by omega)))).mem m hm
          have HFSN := Lib.hid hfsN
          have HST := Lib.hid hst
          have HQ := Lib.hid hQ
          obtain ⟨x0, x1, x2, x3, x4, x5⟩ := gx
          obtain ⟨f0, f1, f2, f3, f4, f5⟩ := gf
          clear hst hQ hfk hf hsf hfsN
          have hgo : ∃ g, g = mulM now.1 f := ⟨_, rfl⟩
          obtain ⟨g, hg⟩ := hgo
          rw [← hg] at hgN HST
          go_upto_region 9 with fail
          go_cut [12] from 33 to 66 (fun p12 wx => ∃ b12 : Nat, p12 = .pointer (some ⟨b12, 0, none⟩) ∧ wr.heap.size ≤ b12 ∧ MpBox wx b12 g ∧ Below wr.heap.size wr wx)
          case first =>
            have htm := fun W => l01Times_c now.1 f n W hnN hfN
            rw [← hg] at htm
            have HTM := Lib.hid htm
            clear htm hg
            refine wp_region_headS 10 (fun w' => w'.cell? ⟨bv, ov + k * 6, none⟩ = some (.int .i64 now.1.p) ∧ w'.cell? ⟨bv, ov + k * 6 + 1, none⟩ = some (.int .i64 now.1.a) ∧ w'.cell? ⟨bv, ov + k * 6 + 2, none⟩ = some (.int .i64 now.1.b) ∧ w'.cell? ⟨bv, ov + k * 6 + 3, none⟩ = some (.int .i64 now.1.c) ∧ w'.cell? ⟨bv, ov + k * 6 + 4, none⟩ = some (.int .i64 now.1.d) ∧ w'.cell? ⟨bv, ov + k * 6 + 5, none⟩ = some (.int .i64 now.1.e) ∧ w'.cell? ⟨bl, ol + j * 6, none⟩ = some (.int .i64 f.p) ∧ w'.cell? ⟨bl, ol + j * 6 + 1, none⟩ = some (.int .i64 f.a) ∧ w'.cell? ⟨bl, ol + j * 6 + 2, none⟩ = some (.int .i64 f.b) ∧ w'.cell? ⟨bl, ol + j * 6 + 3, none⟩ = some (.int .i64 f.c) ∧ w'.cell? ⟨bl, ol + j * 6 + 4, none⟩ = some (.int .i64 f.d) ∧ w'.cell? ⟨bl, ol + j * 6 + 5, none⟩ = some (.int .i64 f.e)) (by kernel_rfl) (by kernel_rfl) ⟨x0, x1, x2, x3, x4, x5, f0, f1, f2, f3, f4, f5⟩ (fun hHeld => ?_)
            simp only [List.drop]
            refine headH_takeS (i := 0) (v := ?_) 33 rfl (by kernel_rfl) (by kernel_rfl) (fun _ _ _ h => h) (Or.inl ⟨by rfl, ?_⟩) hHeld ?_
            rotate_left
            · intro w hSw
              (try dsimp only at hSw)
              go_simp
              try with_reducible rfl
            try simp only [Act.put, List.setIfInBounds_toArray, List.set_cons_zero, List.set_cons_succ]
            refine headH_takeS (i := 1) (v := ?_) 34 rfl (by kernel_rfl) (by kernel_rfl) (fun _ _ _ h => h) (Or.inl ⟨by rfl, ?_⟩) hHeld ?_
            rotate_left
            · intro w hSw
              (try dsimp only at hSw)
              go_simp
              try with_reducible rfl
            try simp only [Act.put, List.setIfInBounds_toArray, List.set_cons_zero, List.set_cons_succ]
            refine headH_takeS (i := 2) (v := ?_) 35 rfl (by kernel_rfl) (by kernel_rfl) (fun _ _ _ h => h) (Or.inl ⟨by rfl, ?_⟩) hHeld ?_
            rotate_left
            · intro w hSw
              (try dsimp only at hSw)
              go_simp
              try with_reducible rfl
            try simp only [Act.put, List.setIfInBounds_toArray, List.set_cons_zero, List.set_cons_succ]
            refine headH_takeS (i := 3) (v := ?_) 36 rfl (by kernel_rfl) (by kernel_rfl) (fun _ _ _ h => h) (Or.inl ⟨by rfl, ?_⟩) hHeld ?_
            rotate_left
            · intro w hSw
              (try dsimp only at hSw)
              go_simp
              try with_reducible rfl
            try simp only [Act.put, List.setIfInBounds_toArray, List.set_cons_zero, List.set_cons_succ]
            refine headH_takeS (i := 4) (v := ?_) 37 rfl (by kernel_rfl) (by kernel_rfl) (fun _ _ _ h => h) (Or.inl ⟨by rfl, ?_⟩) hHeld ?_
            rotate_left
            · intro w hSw
              (try dsimp only at hSw)
              go_simp
              try with_reducible rfl
            try simp only [Act.put, List.setIfInBounds_toArray, List.set_cons_zero, List.set_cons_succ]
            refine headH_takeS (i := 5) (v := ?_) 38 rfl (by kernel_rfl) (by kernel_rfl) (fun _ _ _ h => h) (Or.inl ⟨by rfl, ?_⟩) hHeld ?_
            rotate_left
            · intro w hSw
              (try dsimp only at hSw)
              go_simp
              try with_reducible rfl
            try simp only [Act.put, List.setIfInBounds_toArray, List.set_cons_zero, List.set_cons_succ]
            refine headH_takeS (i := 6) (v := ?_) 39 rfl (by kernel_rfl) (by kernel_rfl) (fun _ _ _ h => h) (Or.inl ⟨by rfl, ?_⟩) hHeld ?_
            rotate_left
            · intro w hSw
              (try dsimp only at hSw)
              go_simp
              try with_reducible rfl
            try simp only [Act.put, List.setIfInBounds_toArray, List.set_cons_zero, List.set_cons_succ]
            refine headH_takeS (i := 7) (v := ?_) 40 rfl (by kernel_rfl) (by kernel_rfl) (fun _ _ _ h => h) (Or.inl ⟨by rfl, ?_⟩) hHeld ?_
            rotate_left
            · intro w hSw
              (try dsimp only at hSw)
              go_simp
              try with_reducible rfl
            try simp only [Act.put, List.setIfInBounds_toArray, List.set_cons_zero, List.set_cons_succ]
            refine headH_all (rs := [8, 9]) (by kernel_rfl) (by kernel_rfl) (headH_cons rfl (fun K hK => ?_) (headH_cons rfl (fun K hK => ?_) headH_nil))
            · go_simp
              refine (HTM.out _).mono ?_
              rintro e w2 ⟨rfl, hb2⟩
              try go_simp
              replace hb2 := bdr hb2
              refine hK.out _ _ ⟨bcell hb2 x0, bcell hb2 x1, bcell hb2 x2, bcell hb2 x3, bcell hb2 x4, bcell hb2 x5, bcell hb2 f0, bcell hb2 f1, bcell hb2 f2, bcell hb2 f3, bcell hb2 f4, bcell hb2 f5⟩ (fun hHeldn => ?_)
              clear hK K hHeld
              have hHeld := hHeldn
              clear hHeldn
              try simp only [Act.put, List.setIfInBounds_toArray, List.set_cons_zero, List.set_cons_succ]
              refine headH_all (rs := [9]) (by kernel_rfl) (by kernel_rfl) (headH_cons rfl (fun K hK => ?_) headH_nil)
              go_simp
              have hb3 := btrans hb2 (kbelow w2 (.cells #[.int .i64 0, .int .i64 0, .int .i64 0, .int .i64 0, .int .i64 0, .int .i64 0] 27))
              refine hK.out _ _ ⟨bcell hb3 x0, bcell hb3 x1, bcell hb3 x2, bcell hb3 x3, bcell hb3 x4, bcell hb3 x5, bcell hb3 f0, bcell hb3 f1, bcell hb3 f2, bcell hb3 f3, bcell hb3 f4, bcell hb3 f5⟩ (fun hHeldn => ?_)
              clear hK K hHeld
              have hHeld := hHeldn
              clear hHeldn
              try simp only [Act.put, List.setIfInBounds_toArray, List.set_cons_zero, List.set_cons_succ]
              refine headH_tail (by kernel_rfl) ?_
              clear hHeld
              go_wp2
              go_meet
              exact ⟨_, rfl, hb2.size, MpBox.new g 27 rfl, btrans hb2 (kbelow _ _)⟩
            · go_simp
              have bz := MpBox.new (w := wr.drew) (b := wr.heap.size) Mp.z 27 rfl
              have hb2 : Below wr.heap.size wr _ := bdr (kbelow wr.drew (.cells #[.int .i64 0, .int .i64 0, .int .i64 0, .int .i64 0, .int .i64 0, .int .i64 0] 27))
              refine hK.out _ _ ⟨bcell hb2 x0, bcell hb2 x1, bcell hb2 x2, bcell hb2 x3, bcell hb2 x4, bcell hb2 x5, bcell hb2 f0, bcell hb2 f1, bcell hb2 f2, bcell hb2 f3, bcell hb2 f4, bcell hb2 f5⟩ (fun hHeldn => ?_)
              clear hK K hHeld
              have hHeld := hHeldn
              clear hHeldn
              try simp only [Act.put, List.setIfInBounds_toArray, List.set_cons_zero, List.set_cons_succ]
              refine headH_all (rs := [8]) (by kernel_rfl) (by kernel_rfl) (headH_cons rfl (fun K hK => ?_) headH_nil)
              go_simp
              refine (HTM.out _).mono ?_
              rintro e w2 ⟨rfl, hb3⟩
              try go_simp
              replace bz := bz.below hb3
              replace hb3 := btrans hb2 hb3
              refine hK.out _ _ ⟨bcell hb3 x0, bcell hb3 x1, bcell hb3 x2, bcell hb3 x3, bcell hb3 x4, bcell hb3 x5, bcell hb3 f0, bcell hb3 f1, bcell hb3 f2, bcell hb3 f3, bcell hb3 f4, bcell hb3 f5⟩ (fun hHeldn => ?_)
              clear hK K hHeld
              have hHeld := hHeldn
              clear hHeldn
              try simp only [Act.put, List.setIfInBounds_toArray, List.set_cons_zero, List.set_cons_succ]
              refine headH_tail (by kernel_rfl) ?_
              clear hHeld
              have fz := bz.free
              obtain ⟨z0, z1', z2, z3, z4, z5⟩ := bz.at.cells0
              go_wp2
              go_meet
              refine ⟨_, rfl, Nat.le_refl _, bz.store g, ?_⟩
              exact Below.setCell (Below.setCell (Below.setCell (Below.setCell (Below.setCell (Below.setCell hb3 (Nat.le_refl _) _) (Nat.le_refl _) _) (Nat.le_refl _) _) (Nat.le_refl _) _) (Nat.le_refl _) _) (Nat.le_refl _) _
          case rest =>
            obtain ⟨b12, rfl, hb12, box12, hbc⟩ := hcut
            clear x0 x1 x2 x3 x4 x5 f0 f1 f2 f3 f4 f5 hg
            have mem5 := mem.below hbc
            have hb5 := btrans hb hbc
            have hfb : ∀ q, (Value.slice (some ⟨bv, ov, none⟩) fs.length cf).ownBlock = some q → q < b12 := fun q hq => Nat.lt_of_lt_of_le (mem.om.lt q hq).2 hb12
            have hwb : ∀ q, (u8 : Value).ownBlock = some q → q < b12 := fun q hq => Nat.lt_of_lt_of_le (mem.ow.lt q hq).2 hb12
            have hkN : ∀ h ∈ ks, MpN h n := fun h hh => HFSN.out h (by rw [pur.out.kq] at hh; exact (mem_sortM HFSN.out).1 hh)
            have hkasc : AscM ks := by rw [pur.out.kq]; exact sortM_asc HFSN.out
            have hkm : ∀ h, h ∈ ks ↔ h ∈ fs := fun h => by rw [pur.out.kq]; exact mem_sortM HFSN.out
            have hkl2 : ks.length ≤ 300 := by
              have h1 : ks.length ≤ fs.length := hkasc.nodup.length_le_of_subset fun x hx => (hkm x).1 hx
              omega
            have hkpos : 0 < ks.length := List.length_pos_of_mem ((hkm now.1).2 (List.mem_of_getElem? (pur.out.getf HQ.out)))
            obtain ⟨gk, ck, rfl, hgk, hgk'⟩ := mem5.ok.block hkpos
            have hfind := fun W (hW : SeeMaps W (some ⟨gk, 0, none⟩) ks) => l02Find_c (some ⟨gk, 0, none⟩) ck ks n g W hW hkasc hkN hkl2 hgN
            have HKM := Lib.hid hkm
            have HASC := Lib.hid hkasc
            have HKN := Lib.hid hkN
            have HFI := Lib.hid hfind
            have HANY := Lib.hid (pur.out.any g)
            obtain ⟨y0, y1, y2, y3, y4, y5⟩ := box12.at.cells0
            clear hkm hkasc hkN hfind mem
            by_cases hin : g ∈ fs
            · obtain ⟨q, hq, _⟩ := plc_mem HASC.out ((HKM.out g).2 hin)
              have HIN := Lib.hid hin
              have hpq := valI (HFI.out _ mem5.ok.see') hq
              have q0 : (0 : Int) ≤ q := by omega
              clear hin hq
              go_wp2_with fail
              refine hpq.mono ?_
              rintro e w6 ⟨rfl, hb6⟩
              go_wp2
              go_roundw
              case rel =>
                refine ⟨j + 1, fs, ps, ks, by go_num, by omega, h300, mem5.below hb6, Lib.hid ?_, btrans hb5 hb6⟩
                have e : gTo (mst ms) now (monB ms n k) (j + 1) = gTo (mst ms) now (monB ms n k) j := g1_hit (by rw [HST.out, HANY.out]; exact decide_eq_true HIN.out)
                rw [e]
                exact pur.out
              case measure => simp [intOf]; omega
            · have hpn := plc_not (fun h => hin ((HKM.out g).1 h))
              have hpq := valI (HFI.out _ mem5.ok.see') hpn
              have HIN := Lib.hid hin
              have enew := gTo_new HST.out (HANY.out.trans (decide_eq_false hin))
              have ENEW := Lib.hid enew
              clear hin hpn enew
              by_cases h3 : fs.length = 300
              · have d3 : ((fs.length : Int) == 300) = true := by simp [h3]
                have hbig := mon_full HN.out hlj hkl ENEW.out pur.out.len.1 h3
                have HB := Lib.hid hbig
                clear hbig h3
                go_wp2_with fail
                refine hpq.mono ?_
                rintro e w6 ⟨rfl, hb6⟩
                go_wp2
                go_returns
                exact .inr ⟨HB.out, rfl, btrans hb5 hb6⟩
              · have d3 : ((fs.length : Int) == 300) = false := by
                  refine beq_eq_false_iff_ne.2 fun e => h3 ?_
                  omega
                have h299 : fs.length < 300 := by omega
                clear h3
                obtain ⟨sw, hsw, hswx⟩ := pur.out.getw HQ.out
                have hsm := List.mem_of_getElem? hsw
                have hkw : k < ps.length := (List.getElem?_eq_some_iff.1 hsw).1
                have hkw' : (k : Int) < ps.length := by omega
                have hwl : sw.xs.length ≤ 300 := by
                  have h1 := gb_words (st := mst ms) (L := ms.length) (start := idM n) k now (List.mem_of_getElem? HN.out)
                  rw [hswx]
                  omega
                have hpl : ps.length ≤ 300 := by rw [pur.out.len.2, ← pur.out.len.1]; exact h300
                have HSW := Lib.hid hsw
                have HSWX := Lib.hid hswx
                clear hsw hswx
                go_wp2_with fail
                refine hpq.mono ?_
                rintro e w6 ⟨rfl, hb6⟩
                have mem6 := mem5.below hb6
                have box6 := box12.below hb6
                have hb7 := btrans hb5 hb6
                obtain ⟨Aw, cw, rfl, gw⟩ := mem6.ow.at_
                obtain ⟨bw, rfl, _⟩ := gw k sw HSW.out
                have hb12' := box6.lt
                obtain ⟨v0, v1, v2, v3, v4, v5⟩ := box6.at.cells0
                have fne : (Value.slice (some ⟨bv, ov, none⟩) fs.length cf).ownBlock ≠ some b12 := fun e => by have := hfb b12 e; omega
                have wne : (Value.slice (some ⟨bw, 0, none⟩) ps.length cw).ownBlock ≠ some b12 := fun e => by have := hwb b12 e; omega
                clear y0 y1 y2 y3 y4 y5 gw
                go_wp2_with (at_builtin; refine wpList_push_map _ rfl (.tmp 49) (.tmp 51) rfl w.heap.size _ fs rfl (mem6.om.below (kbelow _ _)) _ g rfl (MpBox.new g 27 rfl) (by omega) (btrans hb7 (kbelow _ _)).size ?_; intro v52 w7 hown7 hg7 hv7; have mem7 := (mem6.below (kbelow w6 (.cells #[.int .i64 g.p, .int .i64 g.a, .int .i64 g.b, .int .i64 g.c, .int .i64 g.d, .int .i64 g.e] 27))).growM hg7 hown7 hv7; have box7 := (box6.below (kbelow w6 (.cells #[.int .i64 g.p, .int .i64 g.a, .int .i64 g.b, .int .i64 g.c, .int .i64 g.d, .int .i64 g.e] 27))).grow hg7 fne; have hb8 : Below w.heap.size w w7 := Below.grown (btrans hb7 (kbelow w6 (.cells #[.int .i64 g.p, .int .i64 g.a, .int .i64 g.b, .int .i64 g.c, .int .i64 g.d, .int .i64 g.e] 27))) hg7 (btrans hb7 (kbelow w6 (.cells #[.int .i64 g.p, .int .i64 g.a, .int .i64 g.b, .int .i64 g.c, .int .i64 g.d, .int .i64 g.e] 27))).size (fun q hq => (mem6.om.lt q hq).1); obtain ⟨A7, c7, rfl, _⟩ := hown7.see; have q7 := mem7.ow.cell HSW.out; have hs7 : OwnInts w7 w.heap.size (.slice sw.A sw.xs.length sw.c) sw.xs := mem7.ew sw hsm)
                refine (l01Own_c sw.A sw.c sw.xs _ hs7.see' hs7.nilok (by omega)).mono ?_
                rintro e w9 ⟨v70, rfl, hown9, hb9⟩
                obtain ⟨A70, c70, rfl, _⟩ := hown9.see
                have mem9 := mem7.below hb9
                have box9 := box7.below hb9
                have hb10 := btrans hb8 hb9
                have z9 := hb9.size
                have hlo : ∀ s ∈ ps, ∀ q, s.v.ownBlock = some q → q < w7.heap.size := fun s hs q hq => ((mem7.ew s hs).lt q hq).2
                have hb12b := box7.lt
                clear v0 v1 v2 v3 v4 v5 q7
                have hwne : (Value.slice A70 sw.xs.length c70).ownBlock ≠ some b12 := fun e => by have := (hown9.lt b12 e).1; omega
                have hz7 := hb8.size
                obtain ⟨wd, hwd⟩ : ∃ wd, wd = sw.xs ++ [(j : Int)] := ⟨_, rfl⟩
                have HWD := Lib.hid hwd
                go_wp2_with (first | (at_builtin; refine wpList_push_int _ rfl (.tmp 58) (.tmp 60) rfl w7.heap.size _ sw.xs rfl (hown9.below (kbelow _ _)) ⟨w9.heap.size, 0, none⟩ (j : Int) rfl (by simp [go_sem]) (by omega) (Nat.le_trans z9 (kbelow _ _).size) ?_; intro v61 w11 hown11 hg11 hv11; rw [← hwd] at hown11; clear hwd; obtain ⟨A61, c61, rfl, _⟩ := hown11.see; have kki := kbelow w9 (.cells #[.int .i64 (j : Int)] 2); have mem11 := (mem9.below kki).growI hg11 (hown9.below kki) hlo; have box11 := (box9.below kki).grow hg11 hwne; have hb11 : Below w.heap.size w w11 := Below.grown (btrans hb10 kki) hg11 (btrans hb10 kki).size (fun q hq => Nat.le_trans hz7 (hown9.lt q hq).1); have kks := kbelow w11 (.cells #[.slice A61 wd.length c61] 103); have mem12 := mem11.below kks; have own12 := hown11.below kks; have box12c := box11.below kks; have hb12c := btrans hb11 kks) | (at_builtin; refine wpList_push_sl _ rfl (.tmp 53) (.tmp 62) rfl w.heap.size _ ps rfl mem12.ow ⟨w11.heap.size, 0, none⟩ ⟨A61, c61, wd⟩ rfl (by simp [go_sem]) (by omega) hb12c.size ?_; intro v63 w13 hown13 hg13 hv13; obtain ⟨A13, c13, rfl, _⟩ := hown13.at_; have mem13 := mem12.growS hg13 hown13 (own12.mono hz7); have box13 := box12c.grow hg13 wne; have hb13 : Below w.heap.size w w13 := Below.grown hb12c hg13 hb12c.size (fun q hq => (mem12.ow.lt q hq).1); obtain ⟨t0, t1, t2, t3, t4, t5⟩ := box13.at.cells0))
                refine (l01Put_c w.heap.size gk ck ks n g _ mem13.ok hb13.size HASC.out HKN.out hkl2 hgN).mono ?_
                rintro e w15 ⟨v15, rfl, hown15, hv15, hb15⟩
                have mem15 := mem13.put hb15 hown15 hv15 rfl
                obtain ⟨A15, c15, rfl, _⟩ := hown15.see
                have hb16 := btrans hb13 hb15
                go_wp2
                go_roundw
                case rel =>
                  simp only [List.length_append, List.length_singleton] at mem15
                  refine ⟨j + 1, fs ++ [g], ps ++ [⟨A61, c61, wd⟩], putM ks g, by go_num, by omega, by simp; omega, mem15, Lib.hid ?_, hb16⟩
                  have := pur.out.push g ⟨A61, c61, wd⟩
                  rw [ENEW.out]
                  have e1 : wd = now.2 ++ [(j : Int)] := by rw [← HSWX.out]; exact HWD.out
                  rw [← e1]
                  exact this
                case measure => simp [intOf]; omega
        · obtain rfl : j = ms.length := by omega
          have hkl : k < fs.length := by
            obtain ⟨t, ht⟩ := gTo_prefix (st := mst ms) now (monB ms n k) ms.length
            have h1 := pur.out.len.1
            rw [ht, List.length_append] at h1
            have := (List.getElem?_eq_some_iff.1 HN.out).1
            omega
          have hgq : monB ms n (k + 1) = gTo (mst ms) now (monB ms n k) ms.length := gb_succ HN.out
          have HGQ := Lib.hid hgq
          clear hgq hsf
          go_wp2
          go_roundw
          case rel => exact ⟨k + 1, fs, ps, ks, by go_num, by omega, h300, mem, by rw [HGQ.out]; exact pur, hb⟩
          case measure => simp [intOf]; omega
    · obtain rfl : k = fs.length := by omega
      have hend : (monB ms n fs.length)[fs.length]? = none := List.getElem?_eq_none (by rw [← pur.out.len.1]; exact Nat.le_refl _)
      have hq := monQ_of_end hend (by rw [← pur.out.len.1]; exact h300)
      have hmq : (monQ ms n).length ≤ 300 := by rw [hq, ← pur.out.len.1]; exact h300
      have hfs : fs = (monQ ms n).map Prod.fst := by rw [hq]; exact pur.out.fq
      have HMQ := Lib.hid hmq
      have HFS := Lib.hid hfs
      clear hend hq hmq hfs pur hsf
      go_wp2
      go_returns
      exact .inl ⟨_, _, HMQ.out, rfl, by rw [← HFS.out]; exact mem.om, hb⟩
end Go.Proofs.YtilfamenadaboaaGreat
