/- Draws of acceptors: 'l07DrawOf', 'l07Bad', 'l07Draw'. No condition. -/
import Derived.Test.YtbodaefdaagelaaDrawW
import Derived.Test.YtbodaefdaagelaaLeastW
import Derived.Test.YtbodaefdaagelaaPts
namespace Go.Proofs.Ytbodaefdaagelaa
set_option linter.unusedSimpArgs false
set_option linter.unusedVariables false
set_option linter.unusedSectionVars false
open Go.RowKit
/-- an acceptor's lists are seen, and lie in no block of the draw's -/
structure ASee (w : World) (b lo : Nat) (A1 : Option Addr) (c1 : Nat) (ms : List Mp) (A2 : Option Addr) (c2 : Nat) (la : List Int) : Prop where
  maps : SeeMaps w A1 ms
  nil1 : NilOk A1 c1
  far1 : InS (fun k => (k ≠ b ∧ lo ≤ k) ∧ k < w.heap.size) A1
  last : SeeInts w A2 la
  nil2 : NilOk A2 c2
  far2 : InS (fun k => (k ≠ b ∧ lo ≤ k) ∧ k < w.heap.size) A2
theorem ASee.drawn {w w' : World} {b lo c c1 c2 : Nat} {A A1 A2 : Option Addr} {code : List Int} {ms : List Mp} {la : List Int} (h : ASee w b lo A1 c1 ms A2 c2 la) (hd : Drawn w w' b A c code) : ASee w' b lo A1 c1 ms A2 c2 la := ⟨h.maps.keep (h.far1.mono fun _ hk => hk.1.1) hd.keep, h.nil1, h.far1.mono fun _ hk => ⟨hk.1, Nat.lt_of_lt_of_le hk.2 hd.keep.size⟩, h.last.keep (h.far2.mono fun _ hk => hk.1.1) hd.keep, h.nil2, h.far2.mono fun _ hk => ⟨hk.1, Nat.lt_of_lt_of_le hk.2 hd.keep.size⟩⟩
theorem ASee.below {w w' : World} {b lo c1 c2 : Nat} {A1 A2 : Option Addr} {ms : List Mp} {la : List Int} (h : ASee w b lo A1 c1 ms A2 c2 la) (hb : Below w.heap.size w w') : ASee w' b lo A1 c1 ms A2 c2 la := ⟨h.maps.below hb, h.nil1, h.far1.mono fun _ hk => ⟨hk.1, Nat.lt_of_lt_of_le hk.2 hb.size⟩, h.last.below hb, h.nil2, h.far2.mono fun _ hk => ⟨hk.1, Nat.lt_of_lt_of_le hk.2 hb.size⟩⟩
/-- what a draw of an acceptor hands back -/
def APost (lo : Nat) (R : List Mp → Int → List Int → Prop) (w : World) (b : Nat) (A : Option Addr) (c : Nat) (code : List Int) (e : Ending) (w' : World) : Prop :=
  ∃ (A1 : Option Addr) (c1 : Nat) (ms : List Mp) (f : Int) (A2 : Option Addr) (c2 : Nat) (la : List Int), e = .returned (.agg #[.slice A1 ms.length c1, .int .i64 f, .slice A2 la.length c2]) ∧ ASee w' b lo A1 c1 ms A2 c2 la ∧ R ms f la ∧ Drawn w w' b A c code
theorem ASee.set3 {w : World} {b lo c1 c2 : Nat} {A1 A2 : Option Addr} {ms : List Mp} {la : List Int} (h : ASee w b lo A1 c1 ms A2 c2 la) {q : Nat} (h1 : InS (fun k => k ≠ q) A1) (h2 : InS (fun k => k ≠ q) A2) (u0 u1 u2 : Value) : ASee (((w.setCell ⟨q, 0, none⟩ u0).setCell ⟨q, 1, none⟩ u1).setCell ⟨q, 2, none⟩ u2) b lo A1 c1 ms A2 c2 la := by
  have hk : Keep (fun k => k ≠ q) w (((w.setCell ⟨q, 0, none⟩ u0).setCell ⟨q, 1, none⟩ u1).setCell ⟨q, 2, none⟩ u2) := (((Keep.refl _ w).set (fun h => h rfl) u0).set (fun h => h rfl) u1).set (fun h => h rfl) u2
  exact ⟨h.maps.keep h1 hk, h.nil1, h.far1.mono fun _ h => ⟨h.1, Nat.lt_of_lt_of_le h.2 hk.size⟩, h.last.keep h2 hk, h.nil2, h.far2.mono fun _ h => ⟨h.1, Nat.lt_of_lt_of_le h.2 hk.size⟩⟩
theorem OBox.drawn {w1 w2 : World} {q b c : Nat} {A : Option Addr} {code : List Int} {v v' : Value} {i : Int} (h : OBox w1 q v i v') (hb : q ≠ b) (hd : Drawn w1 w2 b A c code) : OBox w2 q v i v' := h.keepS hd.keep hb
theorem OwnInts.far {w : World} {base b n c : Nat} {A : Option Addr} {xs : List Int} (h : OwnInts w base (.slice A n c) xs) (hb : b < base) : InS (fun k => k ≠ b) A := fun a ha => by
  subst ha
  have := (h.lt a.block rfl).1
  show a.block ≠ b
  omega
theorem OwnInts.inS {w : World} {base n c : Nat} {A : Option Addr} {xs : List Int} (h : OwnInts w base (.slice A n c) xs) : InS (fun k => base ≤ k ∧ k < w.heap.size) A := fun a ha => by
  subst ha
  exact h.lt a.block rfl
theorem ptsOf_len (S : Nat) : (ptsOf S).length ≤ 5 := by
  unfold ptsOf
  rw [List.length_map]
  exact Nat.le_trans (List.length_filter_le _ _) (by simp)
theorem Drawn.set3 {w W : World} {b c : Nat} {A : Option Addr} {code : List Int} (h : Drawn w W b A c code) (hb : b < w.heap.size) {q : Nat} (hq : w.heap.size ≤ q) (u0 u1 u2 : Value) : Drawn w (((W.setCell ⟨q, 0, none⟩ u0).setCell ⟨q, 1, none⟩ u1).setCell ⟨q, 2, none⟩ u2) b A c code :=
  ((h.set hb hq u0).set hb hq u1).set hb hq u2
set_option maxHeartbeats 8000000 in
set_option maxRecDepth 100000 in
theorem l07DrawOf_c {b c : Nat} {A : Option Addr} {code : List Int} (w : World) (h : SrcAt w b A c code) :
    Calls Try.prog 96 #[.pointer (some ⟨b, 0, none⟩)] w (APost w.heap.size (fun ms _ la => 0 < ms.length ∧ ms.length ≤ 6 ∧ la.length ≤ 5) w b A c code) := by
  unfold APost
  have hlt := h.lt
  obtain ⟨W1, hW1⟩ : ∃ W1, W1 = w.alloc (.cells #[.slice none 0 0, .int .i64 0, .slice none 0 0] 30) := ⟨_, rfl⟩
  have k1 : Below w.heap.size w W1 := by rw [hW1]; go_grown
  have z1 : W1.heap.size = w.heap.size + 1 := by rw [hW1, World.size_alloc]
  have bz : OBox W1 w.heap.size (.slice none 0 0) 0 (.slice none 0 0) := by rw [hW1]; exact OBox.new _ _ _ _ rfl
  have d1 : Drawn w W1 b A c code := (Drawn.refl h).below k1
  have HDL := Lib.hid (l05DrawList_c W1 d1.src)
  unfold MlPost at HDL
  go_enter Try.func96, Try.ntmps96
  go_wp2_with fail
  rw [← hW1]
  clear hW1
  refine HDL.out.mono ?_
  rintro e w2 ⟨v, ms, rfl, own, ⟨n, n1, n5, hr⟩, hd2⟩
  have bz2 := bz.drawn (by omega) hd2
  have hd := d1.trans hd2
  obtain ⟨m0, hm0⟩ := el hr.pos
  have hm0p := (hr.all m0 (List.mem_of_getElem? hm0)).2
  obtain ⟨g, cg, rfl⟩ : ∃ g cg, v = .slice (some ⟨g, 0, none⟩) ms.length cg := by
    have := hr.pos
    obtain ⟨zs, hz, _⟩ := own
    rcases hz.2 with ⟨e, e2⟩ | ⟨g, cap, cur, e, _⟩
    · omega
    · exact ⟨g, cap, e⟩
  have q0 := (own.at_ hm0).h0
  rw [Nat.zero_mul, hm0p] at q0
  have hpos := hr.pos
  have hpos' : (0 : Int) < ms.length := by omega
  have hsix := hr.six
  have hz2 := hd.keep.size
  have hfq := own.far (b := w.heap.size) (by omega)
  have own' := own.mono (show w.heap.size ≤ W1.heap.size by omega)
  have HO := Lib.hid own'
  have HNX := Lib.hid (fun W (hs : SrcAt W b A c code) => l01Next_c (n : Int) W hs (by omega))
  obtain ⟨s, hs, s0, s32⟩ : ∃ s : Nat, wrap64 ((2 : Int) ^ n) = (s : Int) ∧ 0 < s ∧ s ≤ 32 := by
    refine ⟨2 ^ n, ?_, Nat.pow_pos (by decide), ?_⟩
    · clear HDL bz d1 k1
      match n, n5 with
      | 0, _ => simp [wrap64]
      | 1, _ => simp [wrap64]
      | 2, _ => simp [wrap64]
      | 3, _ => simp [wrap64]
      | 4, _ => simp [wrap64]
      | 5, _ => simp [wrap64]
    · exact Nat.pow_le_pow_right (by decide) n5
  clear own own' hr hm0 hm0p hd2 bz d1 k1 HDL
  go_wp2_with fail
  refine (HNX.out _ hd.src).mono ?_
  rintro e w3 ⟨f, rfl, _, _, hd3⟩
  have own3 := HO.out.drawn hlt hd3
  have bz3 := bz2.drawn (by omega) hd3
  have hd3' := hd.trans hd3
  clear HNX HO hd hd3 bz2 q0
  have HN2 := Lib.hid (l01Next_c (s : Int) w3 hd3'.src (by omega))
  go_wp2_with fail
  refine HN2.out.mono ?_
  rintro e w4 ⟨t, rfl, ht, _, hd4⟩
  obtain ⟨t0, t1⟩ := ht (by omega)
  obtain ⟨S, rfl⟩ := Int.eq_ofNat_of_zero_le t0
  have HPT := Lib.hid (l01Points_c S w4 (by omega))
  have own4 := own3.drawn hlt hd4
  have bz4 := bz3.drawn (by omega) hd4
  have hd4' := hd3'.trans hd4
  have hpl := ptsOf_len S
  generalize ptsOf S = la at *
  clear HN2 ht hd4 own3 bz3 hd3' hs
  go_wp2_with fail
  refine HPT.out.mono ?_
  rintro e w5 ⟨v5, rfl, ol, hb5⟩
  obtain ⟨A2, c2, rfl, sl⟩ := ol.see
  have own5 := own4.below hb5
  have bz5 := bz4.below hb5
  have hd5 := hd4'.below hb5
  have hfl := ol.far hd4'.src.lt
  have hnl := ol.nilok
  have hz4 := hd4'.keep.size
  have zw4 : w.heap.size < w4.heap.size := bz4.lt
  have hfl2 := ol.far (b := w.heap.size) zw4
  obtain ⟨A1, c1, e1, sm⟩ := own5.see
  simp only [Value.slice.injEq] at e1
  obtain ⟨rfl, _, rfl⟩ := e1
  have HSE := Lib.hid (⟨sm, own5.nilok, fun a ha => ⟨⟨own5.far hlt a ha, (own5.inS a ha).1⟩, (own5.inS a ha).2⟩, sl, hnl, fun a ha => ⟨⟨hfl a ha, Nat.le_trans hz4 (ol.inS a ha).1⟩, (ol.inS a ha).2⟩⟩ : ASee w5 b w.heap.size (some ⟨g, 0, none⟩) cg ms A2 c2 la)
  obtain ⟨b0, b1, b2⟩ := bz5.cells
  have bf := bz5.free
  have blt := bz5.lt
  have HRR := Lib.hid (⟨hpos, hsix, hpl⟩ : 0 < ms.length ∧ ms.length ≤ 6 ∧ la.length ≤ 5)
  clear sm own5 sl ol own4 bz4 HPT hd4' hfl hnl
  go_wp2
  refine bodyPost_ret (v := .agg #[.slice (some ⟨g, 0, none⟩) ms.length cg, .int .i64 f, .slice A2 la.length c2]) (by simp [results, Try.results96, go_sem, b0, b1, b2]) rfl ⟨some ⟨g, 0, none⟩, cg, ms, f, A2, c2, la, rfl, HSE.out.set3 hfq hfl2 _ _ _, HRR.out, ?_⟩
  exact hd5.set3 hlt (Nat.le_refl _) _ _ _
/-! Draws of acceptors, seldom others: 'l07Bad', 'l07Draw'. -/
theorem ASee.set1 {w : World} {b lo c1 c2 : Nat} {A1 A2 : Option Addr} {ms : List Mp} {la : List Int} (h : ASee w b lo A1 c1 ms A2 c2 la) {q o : Nat} (h1 : InS (fun k => k ≠ q) A1) (h2 : InS (fun k => k ≠ q) A2) (u : Value) : ASee (w.setCell ⟨q, o, none⟩ u) b lo A1 c1 ms A2 c2 la := by
  have hk : Keep (fun k => k ≠ q) w (w.setCell ⟨q, o, none⟩ u) := (Keep.refl _ w).set (fun h => h rfl) u
  exact ⟨h.maps.keep h1 hk, h.nil1, h.far1.mono fun _ h => ⟨h.1, Nat.lt_of_lt_of_le h.2 hk.size⟩, h.last.keep h2 hk, h.nil2, h.far2.mono fun _ h => ⟨h.1, Nat.lt_of_lt_of_le h.2 hk.size⟩⟩
theorem OBox.set1 {w : World} {b : Nat} {v v' : Value} {i : Int} (h : OBox w b v i v') (x : Int) : OBox (w.setCell ⟨b, 1, none⟩ (.int .i64 x)) b v x v' := by
  obtain ⟨t, h⟩ := h
  exact ⟨t, heap_setCell_same w b 1 _ t _ h⟩
theorem OBox.far {w : World} {b : Nat} {v v' : Value} {i : Int} (h : OBox w b v i v') {a : Addr} (ha : b ≠ a.block) (u : Value) : OBox (w.setCell a u) b v i v' := by
  obtain ⟨t, h⟩ := h
  exact ⟨t, (heap_setCell_other w a b u ha).trans h⟩
theorem ASee.grown {w w' : World} {b lo c1 c2 : Nat} {A1 A2 : Option Addr} {ms : List Mp} {la : List Int} (h : ASee w b lo A1 c1 ms A2 c2 la) {row : Option Nat} (hg : w.grownBy w' row) (n : Nat) (hr : ∀ k, row = some k → n ≤ k) (p1 : InS (fun k => k < n) A1) (p2 : InS (fun k => k < n) A2) : ASee w' b lo A1 c1 ms A2 c2 la := by
  have hk : Keep (fun k => k < n) w w' := keep_grown hg fun k hk hs => by have := hr k hk; omega
  exact ⟨h.maps.keep p1 hk, h.nil1, h.far1.mono fun _ h => ⟨h.1, Nat.lt_of_lt_of_le h.2 hk.size⟩, h.last.keep p2 hk, h.nil2, h.far2.mono fun _ h => ⟨h.1, Nat.lt_of_lt_of_le h.2 hk.size⟩⟩
set_option maxHeartbeats 8000000 in
set_option maxRecDepth 100000 in
theorem l07Bad_c {b c lo c1 c2 : Nat} {A A1 A2 : Option Addr} {code la : List Int} {ms : List Mp} {f : Int} (w : World) (h : SrcAt w b A c code) (hs : ASee w b lo A1 c1 ms A2 c2 la) (hlo : lo ≤ w.heap.size) (m1 : 0 < ms.length) (m6 : ms.length ≤ 6) (l5 : la.length ≤ 5) :
    Calls Try.prog 98 #[.pointer (some ⟨b, 0, none⟩), .agg #[.slice A1 ms.length c1, .int .i64 f, .slice A2 la.length c2]] w (APost lo (fun ms _ la => ms.length ≤ 7 ∧ la.length ≤ 6) w b A c code) := by
  unfold APost
  have hlt := h.lt
  obtain ⟨W1, hW1⟩ : ∃ W1, W1 = (w.alloc (.cells #[.slice A1 ms.length c1, .int .i64 f, .slice A2 la.length c2] 30)).alloc (.cells #[.slice none 0 0, .int .i64 0, .slice none 0 0] 30) := ⟨_, rfl⟩
  have k1 : Below w.heap.size w W1 := by rw [hW1]; go_grown
  have z1 : W1.heap.size = w.heap.size + 2 := by rw [hW1, World.size_alloc, World.size_alloc]
  have bq : OBox W1 w.heap.size (.slice A1 ms.length c1) f (.slice A2 la.length c2) := by rw [hW1]; exact (OBox.new _ _ _ _ rfl).below (kbelow _ _)
  have bz : OBox W1 (w.heap.size + 1) (.slice none 0 0) 0 (.slice none 0 0) := by rw [hW1]; exact OBox.new _ _ _ _ (by rw [World.size_alloc])
  have d1 : Drawn w W1 b A c code := (Drawn.refl h).below k1
  have p3 : InS (fun k => k ≠ w.heap.size) A1 := hs.far1.mono fun k hk => by have := hk.2; omega
  have p4 : InS (fun k => k ≠ w.heap.size + 1) A1 := hs.far1.mono fun k hk => by have := hk.2; omega
  have r3 : InS (fun k => k ≠ w.heap.size) A2 := hs.far2.mono fun k hk => by have := hk.2; omega
  have r4 : InS (fun k => k ≠ w.heap.size + 1) A2 := hs.far2.mono fun k hk => by have := hk.2; omega
  have HNX := Lib.hid (l01Next_c 40 W1 d1.src (by omega))
  go_enter Try.func98, Try.ntmps98
  go_wp2_with fail
  rw [← hW1]
  clear hW1
  refine HNX.out.mono ?_
  rintro e w2 ⟨x, rfl, _, _, hd2⟩
  have bq2 := bq.drawn (by omega) hd2
  have bz2 := bz.drawn (by omega) hd2
  have hd := d1.trans hd2
  have hs2 := hs.drawn hd
  have hz2 : w.heap.size + 1 < w2.heap.size := bz2.lt
  clear bq bz d1 k1 hd2 HNX
  by_cases e0 : x = 0
  · subst e0
    have HBL := Lib.hid (l01BadList_c (cL := c1) w2 hd.src hs2.maps hs2.nil1 (hs2.far1.mono fun _ h => h.1.1) m1 m6)
    unfold MsPost at HBL
    obtain ⟨u0, u1, u2⟩ := bq2.cells
    go_wp2_with fail
    refine HBL.out.mono ?_
    rintro e w3 ⟨A', c', ms', rfl, sm, nl, fa, ho, hl7, hd3⟩
    have bq3 := bq2.drawn (by omega) hd3
    have bz3 := bz2.drawn (by omega) hd3
    have hd3' := hd.trans hd3
    have hs3 := hs2.drawn hd3
    have g3 : InS (fun k => k ≠ w.heap.size) A' := by
      rcases ho with rfl | ho
      · exact p3
      · exact ho.mono fun k hk => by have := hk.1; omega
    have g4 : InS (fun k => k ≠ w.heap.size + 1) A' := by
      rcases ho with rfl | ho
      · exact p4
      · exact ho.mono fun k hk => by have := hk.1; omega
    have gl : InS (fun k => (k ≠ b ∧ lo ≤ k) ∧ k < w3.heap.size) A' := by
      rcases ho with rfl | ho
      · exact hs3.far1
      · exact fun a ha => ⟨⟨fa a ha, by have := (ho a ha).1; omega⟩, (ho a ha).2⟩
    have hn3 : ASee w3 b lo A' c' ms' A2 c2 la := ⟨sm, nl, gl, hs3.last, hs3.nil2, hs3.far2⟩
    have hn4 := hn3.set1 (q := w.heap.size) (o := 0) g3 r3 (.slice A' ms'.length c')
    have bq4 := bq3.set0 (.slice A' ms'.length c')
    have bz4 := bz3.far (a := ⟨w.heap.size, 0, none⟩) (by simp) (.slice A' ms'.length c')
    have hd4 := hd3'.set hlt (a := ⟨w.heap.size, 0, none⟩) (Nat.le_refl _) (.slice A' ms'.length c')
    have v0 := bq3.cells.1
    have vf := bq3.free
    clear HBL u0 u1 u2 hs3 sm hd3 hn3 bq2 bz2 bz3 hd3'
    obtain ⟨x0, x1, x2⟩ := bq4.cells
    obtain ⟨y0, y1, y2⟩ := bz4.cells
    have yf := bz4.free
    have ylt := bz4.lt
    have HSE := Lib.hid (hn4.set3 (q := w.heap.size + 1) g4 r4 (.slice A' ms'.length c') (.int .i64 f) (.slice A2 la.length c2))
    have HRR := Lib.hid (⟨by omega, by omega⟩ : ms'.length ≤ 7 ∧ la.length ≤ 6)
    have HDF := Lib.hid (hd4.set3 hlt (q := w.heap.size + 1) (Nat.le_succ _) (.slice A' ms'.length c') (.int .i64 f) (.slice A2 la.length c2))
    go_wp2
    exact bodyPost_ret (v := .agg #[.slice A' ms'.length c', .int .i64 f, .slice A2 la.length c2]) (by simp [results, Try.results98, go_sem, y0, y1, y2]) rfl ⟨A', c', ms', f, A2, c2, la, rfl, HSE.out, HRR.out, HDF.out⟩
  · have d0 : (x == 0) = false := beq_eq_false_iff_ne.2 e0
    by_cases e1 : x = 1
    · subst e1
      have HPI := Lib.hid (pick_any [-1, 5] 2 rfl (by omega) (by omega) hd.src w2.heap.size rfl _ rfl)
      go_wp2_with fail
      obtain ⟨W2, hW2⟩ : ∃ W2, W2 = w2.alloc (.cells ([-1, 5].map (Value.int .i64)).toArray 2) := ⟨_, rfl⟩
      have hW3 : W2 = w2.alloc (.cells #[.int .i64 (-1), .int .i64 5] 2) := hW2
      rw [← hW2] at HPI
      rw [← hW3]
      clear hW2 hW3
      refine HPI.out.mono ?_
      rintro e w3 ⟨y, rfl, _, hd3⟩
      have bq3 := bq2.drawn (by omega) hd3
      have bz3 := bz2.drawn (by omega) hd3
      have hd3' := hd.trans hd3
      have hs3 := hs2.drawn hd3
      have hn4 := hs3.set1 (q := w.heap.size) (o := 1) p3 r3 (.int .i64 y)
      have bq4 := bq3.set1 y
      have bz4 := bz3.far (a := ⟨w.heap.size, 1, none⟩) (by simp) (.int .i64 y)
      have hd4 := hd3'.set hlt (a := ⟨w.heap.size, 1, none⟩) (Nat.le_refl _) (.int .i64 y)
      have v0 := bq3.cells.2.1
      have vf := bq3.free
      clear HPI hs3 hd3 bq2 bz2 bz3 hd3'
      obtain ⟨x0, x1, x2⟩ := bq4.cells
      obtain ⟨y0, y1, y2⟩ := bz4.cells
      have yf := bz4.free
      have ylt := bz4.lt
      have HSE := Lib.hid (hn4.set3 (q := w.heap.size + 1) p4 r4 (.slice A1 ms.length c1) (.int .i64 y) (.slice A2 la.length c2))
      have HRR := Lib.hid (⟨by omega, by omega⟩ : ms.length ≤ 7 ∧ la.length ≤ 6)
      have HDF := Lib.hid (hd4.set3 hlt (q := w.heap.size + 1) (Nat.le_succ _) (.slice A1 ms.length c1) (.int .i64 y) (.slice A2 la.length c2))
      go_wp2
      exact bodyPost_ret (v := .agg #[.slice A1 ms.length c1, .int .i64 y, .slice A2 la.length c2]) (by simp [results, Try.results98, go_sem, y0, y1, y2]) rfl ⟨A1, c1, ms, y, A2, c2, la, rfl, HSE.out, HRR.out, HDF.out⟩
    · have d1 : (x == 1) = false := beq_eq_false_iff_ne.2 e1
      by_cases e2 : x = 2
      · subst e2
        have hs2b : b < w2.heap.size := hd.src.lt
        have HOW := Lib.hid (l01Own_c A2 c2 la w2 hs2.last hs2.nil2 (by omega))
        obtain ⟨u0, u1, u2⟩ := bq2.cells
        go_wp2_with fail
        refine HOW.out.mono ?_
        rintro e w3 ⟨v3, rfl, own3, hb3⟩
        have bq3 := bq2.below hb3
        have bz3 := bz2.below hb3
        have hd3 := hd.below hb3
        have hs3 := hs2.below hb3
        obtain ⟨A3, c3, rfl, _⟩ := own3.see
        have HPI := Lib.hid (pick_any [0, -1, 5] 3 rfl (by omega) (by omega) hd3.src w3.heap.size rfl _ rfl)
        clear u0 u1 u2 HOW bq2 bz2 hd
        go_wp2_with fail
        obtain ⟨W2, hW2⟩ : ∃ W2, W2 = w3.alloc (.cells ([0, -1, 5].map (Value.int .i64)).toArray 2) := ⟨_, rfl⟩
        have hW3 : W2 = w3.alloc (.cells #[.int .i64 0, .int .i64 (-1), .int .i64 5] 2) := hW2
        rw [← hW2] at HPI
        rw [← hW3]
        clear hW2 hW3
        refine HPI.out.mono ?_
        rintro e w4 ⟨y, rfl, _, hd4⟩
        have own4 := own3.drawn hs2b hd4
        have kk8 := kbelow w4 (.cells #[.int .i64 y] 2)
        have bq4 := (bq3.drawn (by omega) hd4).below kk8
        have bz4 := (bz3.drawn (by omega) hd4).below kk8
        have hs4 := (hs3.drawn hd4).below kk8
        have hd8 := (hd3.trans hd4).below kk8
        have own8 := own4.below kk8
        have hz8 : w2.heap.size ≤ (w4.alloc (.cells #[.int .i64 y] 2)).heap.size := Nat.le_trans hb3.size (Nat.le_trans hd4.keep.size kk8.size)
        clear HPI own3 own4 bq3 bz3 hs3 hd4 hd3
        go_wp2_with (at_builtin; go_must (refine wpList_push_int _ rfl (.tmp 24) (.tmp 28) rfl w2.heap.size _ la rfl own8 ⟨w4.heap.size, 0, none⟩ y rfl (by simp [go_sem]) (by omega) hz8 ?_; intro v9 w9 hown9 hg9 hv9; have hs9 := hown9.see; obtain ⟨A9, c9, rfl, _⟩ := hs9; have bq9 := bq4.grow hg9 (fun e => by have := (own8.lt _ e).1; omega); have bz9 := bz4.grow hg9 (fun e => by have := (own8.lt _ e).1; omega); have v0 := bq9.cells.2.2; have vf := bq9.free; have bqs := bq9.set2 (.slice A9 (la.length + 1) c9); have bzs := bz9.far (a := ⟨w.heap.size, 2, none⟩) (by simp) (.slice A9 (la.length + 1) c9); have hxs := bqs.cells; obtain ⟨x0, x1, x2⟩ := hxs; have hys := bzs.cells; obtain ⟨y0, y1, y2⟩ := hys; have yf := bzs.free; have ylt := bzs.lt))
        have hl9 : (la ++ [y]).length = la.length + 1 := by simp
        have hd9 := hd8.grown hlt hg9 (fun j hj => by have := (own8.lt j hj).1; omega)
        have hs9 := hs4.grown hg9 w2.heap.size (fun j hj => (own8.lt j hj).1) (hs2.far1.mono fun _ h => h.2) (hs2.far2.mono fun _ h => h.2)
        obtain ⟨A8, c8, e8, s8⟩ := hown9.see
        simp only [Value.slice.injEq] at e8
        obtain ⟨rfl, _, rfl⟩ := e8
        have hn9 : ASee w9 b lo A1 c1 ms A9 c9 (la ++ [y]) := ⟨hs9.maps, hs9.nil1, hs9.far1, s8, hown9.nilok, fun a ha => ⟨⟨hown9.far hs2b a ha, by have := (hown9.inS a ha).1; omega⟩, (hown9.inS a ha).2⟩⟩
        have t3 : InS (fun k => k ≠ w.heap.size) A9 := hown9.inS.mono fun k hk => by have := hk.1; omega
        have t4 : InS (fun k => k ≠ w.heap.size + 1) A9 := hown9.inS.mono fun k hk => by have := hk.1; omega
        have hnS := (hn9.set1 (q := w.heap.size) (o := 2) p3 t3 (.slice A9 (la.length + 1) c9)).set3 (q := w.heap.size + 1) p4 t4 (.slice A1 ms.length c1) (.int .i64 f) (.slice A9 (la.length + 1) c9)
        have hdS := (hd9.set hlt (a := ⟨w.heap.size, 2, none⟩) (Nat.le_refl _) (.slice A9 (la.length + 1) c9)).set3 hlt (q := w.heap.size + 1) (Nat.le_succ _) (.slice A1 ms.length c1) (.int .i64 f) (.slice A9 (la.length + 1) c9)
        exact bodyPost_ret (v := .agg #[.slice A1 ms.length c1, .int .i64 f, .slice A9 (la.length + 1) c9]) (by simp [results, Try.results98, go_sem, y0, y1, y2]) rfl ⟨A1, c1, ms, f, A9, c9, la ++ [y], by rw [hl9], hnS, ⟨by omega, by omega⟩, hdS⟩
      · have d2 : (x == 2) = false := beq_eq_false_iff_ne.2 e2
        by_cases e3 : x = 3
        · subst e3
          have kk8 := kbelow w2 (.cells #[] 67)
          have bq3 := bq2.below kk8
          have bz3 := bz2.below kk8
          have hd3 := hd.below kk8
          have hs3 := hs2.below kk8
          have hn3 : ASee (w2.alloc (.cells #[] 67)) b lo (some ⟨w2.heap.size, 0, none⟩) 0 [] A2 c2 la := ⟨(fun hn => absurd rfl hn), (fun e => by cases e), (fun a ha => by have := Option.some.inj ha; subst this; exact ⟨⟨by show w2.heap.size ≠ b; omega, by show lo ≤ w2.heap.size; omega⟩, by show w2.heap.size < _; rw [World.size_alloc]; omega⟩), hs3.last, hs3.nil2, hs3.far2⟩
          have g3 : InS (fun k => k ≠ w.heap.size) (some (⟨w2.heap.size, 0, none⟩ : Addr)) := fun a ha => by have := Option.some.inj ha; subst this; show w2.heap.size ≠ w.heap.size; omega
          have g4 : InS (fun k => k ≠ w.heap.size + 1) (some (⟨w2.heap.size, 0, none⟩ : Addr)) := fun a ha => by have := Option.some.inj ha; subst this; show w2.heap.size ≠ w.heap.size + 1; omega
          have hn4 := hn3.set1 (q := w.heap.size) (o := 0) g3 r3 (.slice (some ⟨w2.heap.size, 0, none⟩) 0 0)
          have bq4 := bq3.set0 (.slice (some ⟨w2.heap.size, 0, none⟩) 0 0)
          have bz4 := bz3.far (a := ⟨w.heap.size, 0, none⟩) (by simp) (.slice (some ⟨w2.heap.size, 0, none⟩) 0 0)
          have hd4 := hd3.set hlt (a := ⟨w.heap.size, 0, none⟩) (Nat.le_refl _) (.slice (some ⟨w2.heap.size, 0, none⟩) 0 0)
          have v0 := bq3.cells.1
          have vf := bq3.free
          clear hs3 hn3 bq2 bz2 bz3 hd3
          obtain ⟨x0, x1, x2⟩ := bq4.cells
          obtain ⟨y0, y1, y2⟩ := bz4.cells
          have yf := bz4.free
          have ylt := bz4.lt
          have HSE := Lib.hid (hn4.set3 (q := w.heap.size + 1) g4 r4 (.slice (some ⟨w2.heap.size, 0, none⟩) 0 0) (.int .i64 f) (.slice A2 la.length c2))
          have HDF := Lib.hid (hd4.set3 hlt (q := w.heap.size + 1) (Nat.le_succ _) (.slice (some ⟨w2.heap.size, 0, none⟩) 0 0) (.int .i64 f) (.slice A2 la.length c2))
          go_wp2
          exact bodyPost_ret (v := .agg #[.slice (some ⟨w2.heap.size, 0, none⟩) 0 0, .int .i64 f, .slice A2 la.length c2]) (by simp [results, Try.results98, go_sem, y0, y1, y2]) rfl ⟨some ⟨w2.heap.size, 0, none⟩, 0, [], f, A2, c2, la, rfl, HSE.out, ⟨by simp, by omega⟩, HDF.out⟩
        · have d3 : (x == 3) = false := beq_eq_false_iff_ne.2 e3
          obtain ⟨x0, x1, x2⟩ := bq2.cells
          obtain ⟨y0, y1, y2⟩ := bz2.cells
          have yf := bz2.free
          have ylt := bz2.lt
          have HSE := Lib.hid (hs2.set3 (q := w.heap.size + 1) p4 r4 (.slice A1 ms.length c1) (.int .i64 f) (.slice A2 la.length c2))
          have HRR := Lib.hid (⟨by omega, by omega⟩ : ms.length ≤ 7 ∧ la.length ≤ 6)
          have HDF := Lib.hid (hd.set3 hlt (q := w.heap.size + 1) (Nat.le_succ _) (.slice A1 ms.length c1) (.int .i64 f) (.slice A2 la.length c2))
          go_wp2
          exact bodyPost_ret (v := .agg #[.slice A1 ms.length c1, .int .i64 f, .slice A2 la.length c2]) (by simp [results, Try.results98, go_sem, y0, y1, y2]) rfl ⟨A1, c1, ms, f, A2, c2, la, rfl, HSE.out, HRR.out, HDF.out⟩
/-! Draws of acceptors from codes: 'l07Draw', 'DrawLeastAcceptor', 'DrawPointsReached', 'DrawComplementOf'. -/
set_option maxHeartbeats 8000000 in
set_option maxRecDepth 100000 in
theorem l07Draw_c {b c : Nat} {A : Option Addr} {code : List Int} (w : World) (h : SrcAt w b A c code) :
    Calls Try.prog 93 #[.pointer (some ⟨b, 0, none⟩)] w (APost w.heap.size (fun ms _ la => ms.length ≤ 7 ∧ la.length ≤ 6) w b A c code) := by
  unfold APost
  have hlt := h.lt
  obtain ⟨W1, hW1⟩ : ∃ W1, W1 = w.alloc (.cells #[.slice none 0 0, .int .i64 0, .slice none 0 0] 30) := ⟨_, rfl⟩
  have k1 : Below w.heap.size w W1 := by rw [hW1]; go_grown
  have z1 : W1.heap.size = w.heap.size + 1 := by rw [hW1, World.size_alloc]
  have bz : OBox W1 w.heap.size (.slice none 0 0) 0 (.slice none 0 0) := by rw [hW1]; exact OBox.new _ _ _ _ rfl
  have d1 : Drawn w W1 b A c code := (Drawn.refl h).below k1
  have HDO := Lib.hid (l07DrawOf_c W1 d1.src)
  unfold APost at HDO
  go_enter Try.func93, Try.ntmps93
  go_wp2_with fail
  rw [← hW1]
  clear hW1
  refine HDO.out.mono ?_
  rintro e w2 ⟨A1, c1, ms, f, A2, c2, la, rfl, hs, ⟨m1, m6, l5⟩, hd2⟩
  have bz2 := bz.drawn (by omega) hd2
  have hd := d1.trans hd2
  have HBD := Lib.hid (l07Bad_c (f := f) w2 hd.src hs hd2.keep.size m1 m6 l5)
  unfold APost at HBD
  clear hs m1 m6 l5 hd2 HDO bz d1 k1
  go_wp2_with fail
  refine HBD.out.mono ?_
  rintro e w3 ⟨A3, c3, ms3, f3, A4, c4, la3, rfl, hs3, hr3, hd3⟩
  have bz3 := bz2.drawn (by omega) hd3
  have hd' := hd.trans hd3
  obtain ⟨y0, y1, y2⟩ := bz3.cells
  have yf := bz3.free
  have ylt := bz3.lt
  have HR := Lib.hid hr3
  have HS := Lib.hid hs3
  clear hr3 hs3
  have f1 : InS (fun k => k ≠ w.heap.size) A3 := HS.out.far1.mono fun k hk => by have := hk.1.2; omega
  have f2 : InS (fun k => k ≠ w.heap.size) A4 := HS.out.far2.mono fun k hk => by have := hk.1.2; omega
  have HSE := Lib.hid (HS.out.set3 (q := w.heap.size) f1 f2 (.slice A3 ms3.length c3) (.int .i64 f3) (.slice A4 la3.length c4))
  have HDF := Lib.hid (hd'.set3 hlt (q := w.heap.size) (Nat.le_refl _) (.slice A3 ms3.length c3) (.int .i64 f3) (.slice A4 la3.length c4))
  go_wp2
  exact bodyPost_ret (v := .agg #[.slice A3 ms3.length c3, .int .i64 f3, .slice A4 la3.length c4]) (by simp [results, Try.results93, go_sem, y0, y1, y2]) rfl ⟨A3, c3, ms3, f3, A4, c4, la3, rfl, ⟨HSE.out.maps, HSE.out.nil1, HSE.out.far1.mono fun k hk => ⟨⟨hk.1.1, by have := hk.1.2; omega⟩, hk.2⟩, HSE.out.last, HSE.out.nil2, HSE.out.far2.mono fun k hk => ⟨⟨hk.1.1, by have := hk.1.2; omega⟩, hk.2⟩⟩, HR.out, HDF.out⟩
/-- an acceptor that a draw from a code hands back -/
def CPost (w : World) (e : Ending) (w' : World) : Prop :=
  ∃ (A1 : Option Addr) (c1 : Nat) (ms : List Mp) (f : Int) (A2 : Option Addr) (c2 : Nat) (la : List Int), e = .returned (.agg #[.slice A1 ms.length c1, .int .i64 f, .slice A2 la.length c2]) ∧ SeeMaps w' A1 ms ∧ NilOk A1 c1 ∧ SeeInts w' A2 la ∧ NilOk A2 c2 ∧ ms.length ≤ 7 ∧ la.length ≤ 6 ∧ Below w.heap.size w w'
theorem Drawn.newer {w w1 w2 : World} {b c : Nat} {A : Option Addr} {code : List Int} (h0 : Below w.heap.size w w1) (hb : w.heap.size ≤ b) (h : Drawn w1 w2 b A c code) : Below w.heap.size w w2 := h0.trans (h.keep.below h0.size fun k hk => by omega)
set_option maxHeartbeats 8000000 in
set_option maxRecDepth 100000 in
theorem DrawLeastAcceptor_c {c : Nat} {A : Option Addr} {code : List Int} (w : World) (h : SeeBytes w A code) (hl : code.length ≤ 4611686018427387904) :
    Calls Try.prog 47 #[.slice A code.length c] w (CPost w) := by
  unfold CPost
  obtain ⟨W1, hW1⟩ : ∃ W1, W1 = w.alloc (.cells #[.slice none 0 0, .int .i64 0, .slice none 0 0] 30) := ⟨_, rfl⟩
  have k1 : Below w.heap.size w W1 := by rw [hW1]; go_grown
  have z1 : W1.heap.size = w.heap.size + 1 := by rw [hW1, World.size_alloc]
  have bz : OBox W1 w.heap.size (.slice none 0 0) 0 (.slice none 0 0) := by rw [hW1]; exact OBox.new _ _ _ _ rfl
  have HFR := Lib.hid (l01From_c (c := c) W1 (h.below k1) hl)
  go_enter Try.func47, Try.ntmps47
  go_wp2_with fail
  rw [← hW1]
  clear hW1
  refine HFR.out.mono ?_
  rintro e w2 ⟨b, rfl, hb, hsrc, hb2⟩
  have hlt := hsrc.lt
  have bz2 := bz.below hb2
  have HDR := Lib.hid (l07Draw_c w2 hsrc)
  unfold APost at HDR
  clear HFR bz
  go_wp2_with fail
  refine HDR.out.mono ?_
  rintro e w3 ⟨A3, c3, ms3, f3, A4, c4, la3, rfl, hs3, hr3, hd3⟩
  have bz3 := bz2.drawn (by omega) hd3
  have hz2 := hb2.size
  obtain ⟨y0, y1, y2⟩ := bz3.cells
  have yf := bz3.free
  have ylt := bz3.lt
  have f1 : InS (fun k => k ≠ w.heap.size) A3 := hs3.far1.mono fun k hk => by have := hk.1.2; omega
  have f2 : InS (fun k => k ≠ w.heap.size) A4 := hs3.far2.mono fun k hk => by have := hk.1.2; omega
  have HSE := Lib.hid (hs3.set3 (q := w.heap.size) f1 f2 (.slice A3 ms3.length c3) (.int .i64 f3) (.slice A4 la3.length c4))
  have HR := Lib.hid hr3
  have hbl : Below w.heap.size w w3 := Drawn.newer (btrans k1 hb2) (by omega) hd3
  have HBF : Hid (Below w.heap.size w (((w3.setCell ⟨w.heap.size, 0, none⟩ (.slice A3 ms3.length c3)).setCell ⟨w.heap.size, 1, none⟩ (.int .i64 f3)).setCell ⟨w.heap.size, 2, none⟩ (.slice A4 la3.length c4))) := Lib.hid (Below.setCell (Below.setCell (Below.setCell hbl (Nat.le_refl _) _) (Nat.le_refl _) _) (Nat.le_refl _) _)
  clear hs3 hr3 hbl HDR
  go_wp2
  exact bodyPost_ret (v := .agg #[.slice A3 ms3.length c3, .int .i64 f3, .slice A4 la3.length c4]) (by simp [results, Try.results47, go_sem, y0, y1, y2]) rfl ⟨A3, c3, ms3, f3, A4, c4, la3, rfl, HSE.out.maps, HSE.out.nil1, HSE.out.last, HSE.out.nil2, HR.out.1, HR.out.2, HBF.out⟩
set_option maxHeartbeats 8000000 in
set_option maxRecDepth 100000 in
theorem DrawPointsReached_c {c : Nat} {A : Option Addr} {code : List Int} (w : World) (h : SeeBytes w A code) (hl : code.length ≤ 4611686018427387904) :
    Calls Try.prog 54 #[.slice A code.length c] w (CPost w) := by
  unfold CPost
  obtain ⟨W1, hW1⟩ : ∃ W1, W1 = w.alloc (.cells #[.slice none 0 0, .int .i64 0, .slice none 0 0] 30) := ⟨_, rfl⟩
  have k1 : Below w.heap.size w W1 := by rw [hW1]; go_grown
  have z1 : W1.heap.size = w.heap.size + 1 := by rw [hW1, World.size_alloc]
  have bz : OBox W1 w.heap.size (.slice none 0 0) 0 (.slice none 0 0) := by rw [hW1]; exact OBox.new _ _ _ _ rfl
  have HFR := Lib.hid (l01From_c (c := c) W1 (h.below k1) hl)
  go_enter Try.func54, Try.ntmps54
  go_wp2_with fail
  rw [← hW1]
  clear hW1
  refine HFR.out.mono ?_
  rintro e w2 ⟨b, rfl, hb, hsrc, hb2⟩
  have hlt := hsrc.lt
  have bz2 := bz.below hb2
  have HDR := Lib.hid (l07Draw_c w2 hsrc)
  unfold APost at HDR
  clear HFR bz
  go_wp2_with fail
  refine HDR.out.mono ?_
  rintro e w3 ⟨A3, c3, ms3, f3, A4, c4, la3, rfl, hs3, hr3, hd3⟩
  have bz3 := bz2.drawn (by omega) hd3
  have hz2 := hb2.size
  obtain ⟨y0, y1, y2⟩ := bz3.cells
  have yf := bz3.free
  have ylt := bz3.lt
  have f1 : InS (fun k => k ≠ w.heap.size) A3 := hs3.far1.mono fun k hk => by have := hk.1.2; omega
  have f2 : InS (fun k => k ≠ w.heap.size) A4 := hs3.far2.mono fun k hk => by have := hk.1.2; omega
  have HSE := Lib.hid (hs3.set3 (q := w.heap.size) f1 f2 (.slice A3 ms3.length c3) (.int .i64 f3) (.slice A4 la3.length c4))
  have HR := Lib.hid hr3
  have hbl : Below w.heap.size w w3 := Drawn.newer (btrans k1 hb2) (by omega) hd3
  have HBF : Hid (Below w.heap.size w (((w3.setCell ⟨w.heap.size, 0, none⟩ (.slice A3 ms3.length c3)).setCell ⟨w.heap.size, 1, none⟩ (.int .i64 f3)).setCell ⟨w.heap.size, 2, none⟩ (.slice A4 la3.length c4))) := Lib.hid (Below.setCell (Below.setCell (Below.setCell hbl (Nat.le_refl _) _) (Nat.le_refl _) _) (Nat.le_refl _) _)
  clear hs3 hr3 hbl HDR
  go_wp2
  exact bodyPost_ret (v := .agg #[.slice A3 ms3.length c3, .int .i64 f3, .slice A4 la3.length c4]) (by simp [results, Try.results54, go_sem, y0, y1, y2]) rfl ⟨A3, c3, ms3, f3, A4, c4, la3, rfl, HSE.out.maps, HSE.out.nil1, HSE.out.last, HSE.out.nil2, HR.out.1, HR.out.2, HBF.out⟩
set_option maxHeartbeats 8000000 in
set_option maxRecDepth 100000 in
theorem DrawComplementOf_c {c : Nat} {A : Option Addr} {code : List Int} (w : World) (h : SeeBytes w A code) (hl : code.length ≤ 4611686018427387904) :
    Calls Try.prog 55 #[.slice A code.length c] w (CPost w) := by
  unfold CPost
  obtain ⟨W1, hW1⟩ : ∃ W1, W1 = w.alloc (.cells #[.slice none 0 0, .int .i64 0, .slice none 0 0] 30) := ⟨_, rfl⟩
  have k1 : Below w.heap.size w W1 := by rw [hW1]; go_grown
  have z1 : W1.heap.size = w.heap.size + 1 := by rw [hW1, World.size_alloc]
  have bz : OBox W1 w.heap.size (.slice none 0 0) 0 (.slice none 0 0) := by rw [hW1]; exact OBox.new _ _ _ _ rfl
  have HFR := Lib.hid (l01From_c (c := c) W1 (h.below k1) hl)
  go_enter Try.func55, Try.ntmps55
  go_wp2_with fail
  rw [← hW1]
  clear hW1
  refine HFR.out.mono ?_
  rintro e w2 ⟨b, rfl, hb, hsrc, hb2⟩
  have hlt := hsrc.lt
  have bz2 := bz.below hb2
  have HDR := Lib.hid (l07Draw_c w2 hsrc)
  unfold APost at HDR
  clear HFR bz
  go_wp2_with fail
  refine HDR.out.mono ?_
  rintro e w3 ⟨A3, c3, ms3, f3, A4, c4, la3, rfl, hs3, hr3, hd3⟩
  have bz3 := bz2.drawn (by omega) hd3
  have hz2 := hb2.size
  obtain ⟨y0, y1, y2⟩ := bz3.cells
  have yf := bz3.free
  have ylt := bz3.lt
  have f1 : InS (fun k => k ≠ w.heap.size) A3 := hs3.far1.mono fun k hk => by have := hk.1.2; omega
  have f2 : InS (fun k => k ≠ w.heap.size) A4 := hs3.far2.mono fun k hk => by have := hk.1.2; omega
  have HSE := Lib.hid (hs3.set3 (q := w.heap.size) f1 f2 (.slice A3 ms3.length c3) (.int .i64 f3) (.slice A4 la3.length c4))
  have HR := Lib.hid hr3
  have hbl : Below w.heap.size w w3 := Drawn.newer (btrans k1 hb2) (by omega) hd3
  have HBF : Hid (Below w.heap.size w (((w3.setCell ⟨w.heap.size, 0, none⟩ (.slice A3 ms3.length c3)).setCell ⟨w.heap.size, 1, none⟩ (.int .i64 f3)).setCell ⟨w.heap.size, 2, none⟩ (.slice A4 la3.length c4))) := Lib.hid (Below.setCell (Below.setCell (Below.setCell hbl (Nat.le_refl _) _) (Nat.le_refl _) _) (Nat.le_refl _) _)
  clear hs3 hr3 hbl HDR
  go_wp2
  exact bodyPost_ret (v := .agg #[.slice A3 ms3.length c3, .int .i64 f3, .slice A4 la3.length c4]) (by simp [results, Try.results55, go_sem, y0, y1, y2]) rfl ⟨A3, c3, ms3, f3, A4, c4, la3, rfl, HSE.out.maps, HSE.out.nil1, HSE.out.last, HSE.out.nil2, HR.out.1, HR.out.2, HBF.out⟩
/-! Draws of acceptors with a word or a number: 'DrawAccepts', 'DrawCountAccepted'. -/
/-- an acceptor and a word that a draw from a code hands back -/
def CwPost (w : World) (e : Ending) (w' : World) : Prop :=
  ∃ (A1 : Option Addr) (c1 : Nat) (ms : List Mp) (f : Int) (A2 : Option Addr) (c2 : Nat) (la : List Int) (A3 : Option Addr) (c3 : Nat) (xs : List Int), e = .returned (.tuple #[.agg #[.slice A1 ms.length c1, .int .i64 f, .slice A2 la.length c2], .slice A3 xs.length c3]) ∧ SeeMaps w' A1 ms ∧ NilOk A1 c1 ∧ SeeInts w' A2 la ∧ NilOk A2 c2 ∧ SeeInts w' A3 xs ∧ NilOk A3 c3 ∧ ms.length ≤ 7 ∧ la.length ≤ 6 ∧ xs.length ≤ 44 ∧ Below w.heap.size w w'
set_option maxHeartbeats 8000000 in
set_option maxRecDepth 100000 in
theorem DrawAccepts_c {c : Nat} {A : Option Addr} {code : List Int} (w : World) (h : SeeBytes w A code) (hl : code.length ≤ 4611686018427387904) :
    Calls Try.prog 50 #[.slice A code.length c] w (CwPost w) := by
  unfold CwPost
  obtain ⟨W1, hW1⟩ : ∃ W1, W1 = w.alloc (.cells #[.slice none 0 0, .int .i64 0, .slice none 0 0] 30) := ⟨_, rfl⟩
  have k1 : Below w.heap.size w W1 := by rw [hW1]; go_grown
  have z1 : W1.heap.size = w.heap.size + 1 := by rw [hW1, World.size_alloc]
  have bz : OBox W1 w.heap.size (.slice none 0 0) 0 (.slice none 0 0) := by rw [hW1]; exact OBox.new _ _ _ _ rfl
  have HFR := Lib.hid (l01From_c (c := c) W1 (h.below k1) hl)
  go_enter Try.func50, Try.ntmps50
  go_wp2_with fail
  rw [← hW1]
  clear hW1
  refine HFR.out.mono ?_
  rintro e w2 ⟨b, rfl, hb, hsrc, hb2⟩
  have hlt := hsrc.lt
  have hz2 := hb2.size
  have bz2 := bz.below hb2
  have HDR := Lib.hid (l07DrawOf_c w2 hsrc)
  unfold APost at HDR
  clear HFR bz
  go_wp2_with fail
  refine HDR.out.mono ?_
  rintro e w3 ⟨A1, c1, ms, f, A2, c2, la, rfl, hs3, ⟨m1, m6, l5⟩, hd3⟩
  have bz3 := bz2.drawn (by omega) hd3
  obtain ⟨W4, hW4⟩ : ∃ W4, W4 = w3.alloc (.cells #[.slice A1 ms.length c1, .int .i64 f, .slice A2 la.length c2] 30) := ⟨_, rfl⟩
  have k4 : Below w3.heap.size w3 W4 := by rw [hW4]; exact kbelow _ _
  have bq4 : OBox W4 w3.heap.size (.slice A1 ms.length c1) f (.slice A2 la.length c2) := by rw [hW4]; exact OBox.new _ _ _ _ rfl
  have bz4 := bz3.below k4
  have hs4 := hs3.below k4
  have hd4 := hd3.below k4
  have hz3 := hd3.keep.size
  have hz4 := hd4.keep.size
  have HWD := Lib.hid (l05DrawWord_c (AL := A1) (cL := c1) W4 hd4.src m1 (show ms.length ≤ 7 by omega))
  have b3 : b < w3.heap.size := hd3.src.lt
  obtain ⟨q0, q1, q2⟩ := bq4.cells
  clear hs3 hd3 bz3 bz2 HDR
  go_wp2_with fail
  rw [← hW4]
  clear hW4
  refine HWD.out.mono ?_
  rintro e w5 ⟨v5, xs, rfl, ow, hx44, hd5⟩
  have bq5 := bq4.drawn (by omega) hd5
  have bz5 := bz4.drawn (by omega) hd5
  have hs5 := hs4.drawn hd5
  have hd5' := hd4.trans hd5
  have hz5 := hd5'.keep.size
  obtain ⟨A3, c3, rfl, sx⟩ := ow.see
  have HBD := Lib.hid (l07Bad_c (f := f) w5 hd5'.src hs5 hz5 m1 m6 l5)
  unfold APost at HBD
  obtain ⟨p0, p1, p2⟩ := bq5.cells
  clear hd4 hd5 bq4 bz4 hs4 HWD q0 q1 q2
  go_wp2_with fail
  refine HBD.out.mono ?_
  rintro e w6 ⟨A4, c4, ms4, f4, A5, c5, la5, rfl, hs6, hr6, hd6⟩
  have bz6 := bz5.drawn (by omega) hd6
  have hd6' := hd5'.trans hd6
  have ow6 := ow.drawn (show b < W4.heap.size from Nat.lt_of_lt_of_le b3 k4.size) hd6
  obtain ⟨A3', c3', e3, sx6⟩ := ow6.see
  simp only [Value.slice.injEq] at e3
  obtain ⟨rfl, _, rfl⟩ := e3
  have hz6 := hd6'.keep.size
  obtain ⟨y0, y1, y2⟩ := bz6.cells
  have yf := bz6.free
  have ylt := bz6.lt
  have f1 : InS (fun k => k ≠ w.heap.size) A4 := hs6.far1.mono fun k hk => by have := hk.1.2; omega
  have f2 : InS (fun k => k ≠ w.heap.size) A5 := hs6.far2.mono fun k hk => by have := hk.1.2; omega
  have f3 : InS (fun k => k ≠ w.heap.size) A3 := ow6.inS.mono fun k hk => by have := hk.1; omega
  have hSE := hs6.set3 (q := w.heap.size) f1 f2 (.slice A4 ms4.length c4) (.int .i64 f4) (.slice A5 la5.length c5)
  have hkk : Keep (fun k => k ≠ w.heap.size) w6 (((w6.setCell ⟨w.heap.size, 0, none⟩ (.slice A4 ms4.length c4)).setCell ⟨w.heap.size, 1, none⟩ (.int .i64 f4)).setCell ⟨w.heap.size, 2, none⟩ (.slice A5 la5.length c5)) := (((Keep.refl _ w6).set (fun h => h rfl) _).set (fun h => h rfl) _).set (fun h => h rfl) _
  have hsx := sx6.keep f3 hkk
  have hbl : Below w.heap.size w w6 := Drawn.newer (btrans k1 hb2) (by omega) hd6'
  have HFI := Lib.hid (⟨hSE.maps, hSE.nil1, hSE.last, hSE.nil2, hsx, ow6.nilok, hr6.1, hr6.2, hx44, Below.setCell (Below.setCell (Below.setCell hbl (Nat.le_refl _) _) (Nat.le_refl _) _) (Nat.le_refl _) _⟩ : SeeMaps _ A4 ms4 ∧ NilOk A4 c4 ∧ SeeInts _ A5 la5 ∧ NilOk A5 c5 ∧ SeeInts (((w6.setCell ⟨w.heap.size, 0, none⟩ (.slice A4 ms4.length c4)).setCell ⟨w.heap.size, 1, none⟩ (.int .i64 f4)).setCell ⟨w.heap.size, 2, none⟩ (.slice A5 la5.length c5)) A3 xs ∧ NilOk A3 c3 ∧ ms4.length ≤ 7 ∧ la5.length ≤ 6 ∧ xs.length ≤ 44 ∧ Below w.heap.size w (((w6.setCell ⟨w.heap.size, 0, none⟩ (.slice A4 ms4.length c4)).setCell ⟨w.heap.size, 1, none⟩ (.int .i64 f4)).setCell ⟨w.heap.size, 2, none⟩ (.slice A5 la5.length c5)))
  clear hSE hsx hr6 hbl hkk hs6 sx6 sx ow6 ow hd6 hd6' hd5' hs5 bq5 bz5 HBD
  go_wp2
  exact bodyPost_ret (v := .tuple #[.agg #[.slice A4 ms4.length c4, .int .i64 f4, .slice A5 la5.length c5], .slice A3 xs.length c3]) (by simp [results, Try.results50, go_sem, y0, y1, y2]) rfl ⟨A4, c4, ms4, f4, A5, c5, la5, A3, c3, xs, rfl, HFI.out⟩
/-- an acceptor and a number that a draw from a code hands back -/
def CnPost (R : Int → Prop) (w : World) (e : Ending) (w' : World) : Prop :=
  ∃ (A1 : Option Addr) (c1 : Nat) (ms : List Mp) (f : Int) (A2 : Option Addr) (c2 : Nat) (la : List Int) (n : Int), e = .returned (.tuple #[.agg #[.slice A1 ms.length c1, .int .i64 f, .slice A2 la.length c2], .int .i64 n]) ∧ SeeMaps w' A1 ms ∧ NilOk A1 c1 ∧ SeeInts w' A2 la ∧ NilOk A2 c2 ∧ ms.length ≤ 7 ∧ la.length ≤ 6 ∧ R n ∧ Below w.heap.size w w'
set_option maxHeartbeats 8000000 in
set_option maxRecDepth 100000 in
theorem DrawCountAccepted_c {c : Nat} {A : Option Addr} {code : List Int} (w : World) (h : SeeBytes w A code) (hl : code.length ≤ 4611686018427387904) :
    Calls Try.prog 53 #[.slice A code.length c] w (CnPost (fun n => -1 ≤ n ∧ n ≤ 21) w) := by
  unfold CnPost
  obtain ⟨W1, hW1⟩ : ∃ W1, W1 = w.alloc (.cells #[.slice none 0 0, .int .i64 0, .slice none 0 0] 30) := ⟨_, rfl⟩
  have k1 : Below w.heap.size w W1 := by rw [hW1]; go_grown
  have z1 : W1.heap.size = w.heap.size + 1 := by rw [hW1, World.size_alloc]
  have bz : OBox W1 w.heap.size (.slice none 0 0) 0 (.slice none 0 0) := by rw [hW1]; exact OBox.new _ _ _ _ rfl
  have HFR := Lib.hid (l01From_c (c := c) W1 (h.below k1) hl)
  go_enter Try.func53, Try.ntmps53
  go_wp2_with fail
  rw [← hW1]
  clear hW1
  refine HFR.out.mono ?_
  rintro e w2 ⟨b, rfl, hb, hsrc, hb2⟩
  have hlt := hsrc.lt
  have hz2 := hb2.size
  have bz2 := bz.below hb2
  have HDR := Lib.hid (l07Draw_c w2 hsrc)
  unfold APost at HDR
  clear HFR bz
  go_wp2_with fail
  refine HDR.out.mono ?_
  rintro e w3 ⟨A1, c1, ms, f, A2, c2, la, rfl, hs3, hr3, hd3⟩
  have bz3 := bz2.drawn (by omega) hd3
  obtain ⟨W4, hW4⟩ : ∃ W4, W4 = w3.alloc (.cells #[.slice A1 ms.length c1, .int .i64 f, .slice A2 la.length c2] 30) := ⟨_, rfl⟩
  have k4 : Below w3.heap.size w3 W4 := by rw [hW4]; exact kbelow _ _
  have bq4 : OBox W4 w3.heap.size (.slice A1 ms.length c1) f (.slice A2 la.length c2) := by rw [hW4]; exact OBox.new _ _ _ _ rfl
  have bz4 := bz3.below k4
  have hs4 := hs3.below k4
  have hd4 := hd3.below k4
  have hz3 := hd3.keep.size
  have b3 : b < w3.heap.size := hd3.src.lt
  obtain ⟨q0, q1, q2⟩ := bq4.cells
  have HR := Lib.hid hr3
  clear hs3 hd3 bz3 bz2 HDR hr3
  go_wp2
  rw [← hW4]
  clear hW4
  refine wp_region_headS 4 (fun w' => w'.cell? ⟨w3.heap.size, 0, none⟩ = some (.slice A1 ms.length c1) ∧ w'.cell? ⟨w3.heap.size, 1, none⟩ = some (.int .i64 f) ∧ w'.cell? ⟨w3.heap.size, 2, none⟩ = some (.slice A2 la.length c2)) (by kernel_rfl) (by kernel_rfl) ⟨q0, q1, q2⟩ (fun hHeld => ?_)
  simp only [List.drop]
  refine headH_takeS (i := 0) (v := ?_) 10 rfl (by kernel_rfl) (by kernel_rfl) (fun _ _ _ h => h) (Or.inl ⟨by rfl, ?_⟩) hHeld ?_
  rotate_left
  · intro w hSw
    (try dsimp only at hSw)
    go_simp
    try with_reducible rfl
  try simp only [Act.put, List.setIfInBounds_toArray, List.set_cons_zero, List.set_cons_succ]
  refine headH_takeS (i := 1) (v := ?_) 11 rfl (by kernel_rfl) (by kernel_rfl) (fun _ _ _ h => h) (Or.inl ⟨by rfl, ?_⟩) hHeld ?_
  rotate_left
  · intro w hSw
    (try dsimp only at hSw)
    go_simp
    try with_reducible rfl
  try simp only [Act.put, List.setIfInBounds_toArray, List.set_cons_zero, List.set_cons_succ]
  refine headH_all (rs := [2]) (by kernel_rfl) (by kernel_rfl) (headH_cons rfl (fun K hK => ?_) headH_nil)
  go_simp
  have hse := lit_see W4 [0, 1, 3, 8, 20, 21, -1]
  obtain ⟨W5, hW5⟩ : ∃ W5, W5 = (W4.alloc (.cells ([0, 1, 3, 8, 20, 21, -1].map (Value.int .i64)).toArray 2)).drew := ⟨_, rfl⟩
  have hW6 : W5 = (W4.alloc (.cells #[.int .i64 0, .int .i64 1, .int .i64 3, .int .i64 8, .int .i64 20, .int .i64 21, .int .i64 (-1)] 2)).drew := hW5
  have hse' : SeeInts W5 (some ⟨W4.heap.size, 0, none⟩) [0, 1, 3, 8, 20, 21, -1] := by rw [hW5]; exact hse.below (Below.drew (Below.refl _ _))
  have k5 : Below W4.heap.size W4 W5 := by rw [hW6]; go_grown
  rw [← hW6]
  clear hW5 hW6 hse
  have bq5 := bq4.below k5
  have bz5 := bz4.below k5
  have hs5 := hs4.below k5
  have hd5 := hd4.below k5
  have b4 : b < W4.heap.size := Nat.lt_of_lt_of_le b3 k4.size
  have HPI := Lib.hid (show Calls Try.prog 100 #[.pointer (some ⟨b, 0, none⟩), .slice (some ⟨W4.heap.size, 0, none⟩) 7 7] W5 fun e w' => ∃ x : Int, e = .returned (.int .i64 x) ∧ x ∈ [0, 1, 3, 8, 20, 21, -1] ∧ Drawn W5 w' b A c code from l01Pick_c (L := some ⟨W4.heap.size, 0, none⟩) (cL := 7) [0, 1, 3, 8, 20, 21, -1] W5 hd5.src hse' (fun a ha => by have := Option.some.inj ha; subst this; show W4.heap.size ≠ b; omega) (by simp) (by simp))
  refine hK.out _ _ ⟨bq5.cells.1, bq5.cells.2.1, bq5.cells.2.2⟩ (fun hHeldn => ?_)
  clear hK K hHeld
  have hHeld := hHeldn
  clear hHeldn
  try simp only [Act.put, List.setIfInBounds_toArray, List.set_cons_zero, List.set_cons_succ]
  refine headH_all (rs := [3]) (by kernel_rfl) (by kernel_rfl) (headH_cons rfl (fun K hK => ?_) headH_nil)
  go_simp
  refine HPI.out.mono ?_
  rintro e w6 ⟨n, rfl, hn, hd6⟩
  have bq6 := bq5.drawn (by omega) hd6
  have bz6 := bz5.drawn (by omega) hd6
  have hs6 := hs5.drawn hd6
  have hd6' := hd5.trans hd6
  have hz6 := hd6'.keep.size
  have hnr : -1 ≤ n ∧ n ≤ 21 := by simp at hn; omega
  refine hK.out _ _ ⟨bq6.cells.1, bq6.cells.2.1, bq6.cells.2.2⟩ (fun hHeldn => ?_)
  clear hK K hHeld
  have hHeld := hHeldn
  clear hHeldn
  try simp only [Act.put, List.setIfInBounds_toArray, List.set_cons_zero, List.set_cons_succ]
  refine headH_tail (by kernel_rfl) ?_
  obtain ⟨y0, y1, y2⟩ := bz6.cells
  have yf := bz6.free
  have ylt := bz6.lt
  have f1 : InS (fun k => k ≠ w.heap.size) A1 := hs6.far1.mono fun k hk => by have := hk.1.2; omega
  have f2 : InS (fun k => k ≠ w.heap.size) A2 := hs6.far2.mono fun k hk => by have := hk.1.2; omega
  have hSE := hs6.set3 (q := w.heap.size) f1 f2 (.slice A1 ms.length c1) (.int .i64 f) (.slice A2 la.length c2)
  have hbl : Below w.heap.size w w6 := Drawn.newer (btrans k1 hb2) (by omega) hd6'
  have HFI := Lib.hid (⟨hSE.maps, hSE.nil1, hSE.last, hSE.nil2, HR.out.1, HR.out.2, hnr, Below.setCell (Below.setCell (Below.setCell hbl (Nat.le_refl _) _) (Nat.le_refl _) _) (Nat.le_refl _) _⟩ : SeeMaps _ A1 ms ∧ NilOk A1 c1 ∧ SeeInts _ A2 la ∧ NilOk A2 c2 ∧ ms.length ≤ 7 ∧ la.length ≤ 6 ∧ (-1 ≤ n ∧ n ≤ 21) ∧ Below w.heap.size w (((w6.setCell ⟨w.heap.size, 0, none⟩ (.slice A1 ms.length c1)).setCell ⟨w.heap.size, 1, none⟩ (.int .i64 f)).setCell ⟨w.heap.size, 2, none⟩ (.slice A2 la.length c2)))
  clear hHeld hSE hbl hn hnr
  go_wp2
  exact bodyPost_ret (v := .tuple #[.agg #[.slice A1 ms.length c1, .int .i64 f, .slice A2 la.length c2], .int .i64 n]) (by simp [results, Try.results53, go_sem, y0, y1, y2]) rfl ⟨A1, c1, ms, f, A2, c2, la, n, rfl, HFI.out⟩
end Go.Proofs.Ytbodaefdaagelaa
