/- 'FixedPoints', 'FixedByWord', on both sides. No condition. -/
import Derived.Test.YthadgdmooacccaaAlongB
import Derived.Shelf.SlicesE.DeleteFunc
namespace Go.Proofs.Ythadgdmooacccaa
set_option linter.unusedSimpArgs false
set_option linter.unusedVariables false
set_option linter.unusedSectionVars false
open Go.RowKit
def delL_ren : Go.Shelf.Ren := ⟨fun | 10 => 137 | 6 => 143 | n => n, fun | 22 => 23 | 23 => 2 | 25 => 129 | 3 => 3 | 4 => 4 | 0 => 0 | n => n, fun | n => n⟩
theorem delL : Go.Proofs.SlLaysH.n10 Try.prog delL_ren := {
  mixed := by kernel_rfl,
  f6 := ⟨Try.f143.name, by decide, Try.func143.trans (congrArg some (by kernel_rfl))⟩,
  f10 := ⟨Try.f137.name, by decide, Try.func137.trans (congrArg some (by kernel_rfl))⟩,
  t0 := Try.underlying0,
  a0 := Try.isAgg0,
  z0 := Try.sizeOf0,
  v0 := Try.zeroValue0,
  t3 := Try.underlying3,
  a3 := Try.isAgg3,
  z3 := Try.sizeOf3,
  v3 := Try.zeroValue3,
  t4 := Try.underlying4,
  a4 := Try.isAgg4,
  z4 := Try.sizeOf4,
  v4 := Try.zeroValue4,
  t22 := Try.underlying23,
  a22 := Try.isAgg23,
  z22 := Try.sizeOf23,
  v22 := Try.zeroValue23,
  a23 := Try.isAgg2,
  z23 := Try.sizeOf2,
  t25 := Try.underlying129,
  a25 := Try.isAgg129,
  z25 := Try.sizeOf129,
  v25 := Try.zeroValue129 }
section
variable {α : Type} [Inhabited α] {w : World} {base g n c q : Nat} {enc : α → Value} {xs : List Int} {ys : List α} {os : Array Obj}
theorem keep_putE {off : Nat} {d : Array α} : Keep (fun k => k ≠ g) w (Sort.grow (Sort.putRow enc (Sort.ahead w q) g off d) os) :=
  ⟨rfl, rfl, rfl, by simp, fun k hk hs => by
    show ((w.heap.modify g _) ++ os)[k]? = _
    rw [Array.getElem?_append_left (by simpa using hk), Array.getElem?_modify, if_neg (Ne.symm hs)]⟩
theorem own_putE {n' : Nat} {f : α → Int} (he : ∀ y, enc y = .int .i64 (f y)) (h : OwnInts w base (.slice (some ⟨g, 0, none⟩) n c) xs) (hl : ys.length = xs.length) (hn : n' ≤ ys.length) :
    OwnInts (Sort.grow (Sort.putRow enc (Sort.ahead w q) g 0 ys.toArray) os) base (.slice (some ⟨g, 0, none⟩) n' c) ((ys.take n').map f) := by
  obtain ⟨h1, h2⟩ := h
  rcases h2 with ⟨h2, _⟩ | ⟨g', cap, cur, h2, hb, hg, hc, hm, hs, ht⟩
  · cases h2
  · simp only [Value.slice.injEq, Option.some.injEq, Addr.mk.injEq, and_true] at h2
    obtain ⟨rfl, rfl, rfl⟩ := h2
    have hgl : g < w.heap.size := (Array.getElem?_eq_some_iff.1 hg).1
    have e1 : ((ys.take n').map f).length = n' := by rw [List.length_map, List.length_take]; omega
    refine ⟨by simp, .inr ⟨g, c, Sort.putCells enc 0 ys.toArray cur, by rw [e1], hb, ?_, by omega, hm, by simpa [Sort.putCells] using hs, ?_⟩⟩
    · show ((w.heap.modify g _) ++ os)[g]? = _
      rw [Array.getElem?_append_left (by simpa using hgl), Array.getElem?_modify, if_pos rfl, hg]
      rfl
    · rw [e1, Nat.mul_one]
      refine List.ext_getElem? fun j => ?_
      rw [List.getElem?_map, List.getElem?_map, List.getElem?_take, List.getElem?_take]
      by_cases hj : j < n'
      · have hjy : j < ys.length := by omega
        have hjc : j < cur.size := by omega
        rw [if_pos hj, if_pos hj, Array.getElem?_toList]
        simp only [Sort.putCells, Array.getElem?_mapIdx, Array.getElem?_eq_getElem hjc, Option.map_some, Nat.sub_zero, Nat.zero_le, Nat.zero_add, true_and, List.size_toArray, hjy, if_true, List.getElem?_eq_getElem hjy, he]
        simp [hjy, getElem!_pos]
      · rw [if_neg hj, if_neg hj]; rfl
end
def encF (x : Fin 5) : Value := .int .i64 (x.val : Int)
/-- does a map leave a point where it is? -/
def fixB (f : Mp) (x : Fin 5) : Bool := decide (f.to x.val = (x.val : Int))
theorem fixed1_c (f : Mp) (x : Fin 5) (b : Nat) (W : World) (h : MpAt W b 0 f) : FnGives Try.prog 117 #[.pointer (some ⟨b, 0, none⟩)] #[encF x] (.bool (fixB f x)) W := by
  have h5 := x.isLt
  have g := h.to' h5
  unfold FnGives encF fixB
  generalize x.val = k at *
  have l0 : (0 : Int) ≤ k := by omega
  have l5 : (k : Int) < 5 := by omega
  show Calls Try.prog 117 #[.int .i64 (k : Int), .pointer (some ⟨b, 0, none⟩)] W _
  go_enter Try.func117, Try.ntmps117
  go_wp2
  go_returns
  exact ⟨ret_bool rfl, 0, rfl⟩
theorem where1_c (f : Mp) (x : Fin 5) (b bh : Nat) (W : World) (h : MpAt W b 0 f) (hh : W.cell? ⟨bh, 0, none⟩ = some (.func (.func 117) #[] #[.pointer (some ⟨b, 0, none⟩)])) :
    FnGives Try.prog 138 #[.pointer (some ⟨bh, 0, none⟩)] #[encF x] (.bool (!fixB f x)) W := by
  have hc := fixed1_c f x b W h
  unfold FnGives at hc ⊢
  unfold encF at *
  generalize fixB f x = r at *
  generalize (x.val : Int) = k at *
  change Calls Try.prog 117 #[.int .i64 k, .pointer (some ⟨b, 0, none⟩)] W _ at hc
  show Calls Try.prog 138 #[.int .i64 k, .pointer (some ⟨bh, 0, none⟩)] W _
  go_enter Try.func138, Try.ntmps138
  go_wp2_with fail
  refine hc.mono ?_
  rintro e w2 ⟨rfl, q, rfl⟩
  go_wp2
  go_returns
  exact ⟨rfl, q, rfl⟩
def fixL (f : Mp) (n : Nat) : List Int := (ptsN n).filter fun p => decide (f.at p = p)
/-- the points below n, as numbers below 5 -/
def finN (n : Nat) : List (Fin 5) := (List.finRange 5).filter fun x => decide (x.val < n)
theorem finN_pts : ∀ n, n ≤ 5 → (finN n).map (fun x => (x.val : Int)) = ptsN n := by decide
theorem fix_fin (f : Mp) {n : Nat} (hn : n ≤ 5) : ((finN n).filter fun x => !(!fixB f x)).map (fun x => (x.val : Int)) = fixL f n := by
  unfold fixL
  rw [← finN_pts n hn, List.filter_map]
  congr 1
  refine List.filter_congr fun x _ => ?_
  rw [Bool.not_not]
  rfl
set_option maxHeartbeats 1000000 in
theorem where_c (f : Mp) (n : Int) (b : Nat) (w : World) (hf : MpN f n) (h : MpAt w b 0 f) :
    Calls Try.prog 116 #[.agg #[.int .i64 f.p, .int .i64 f.a, .int .i64 f.b, .int .i64 f.c, .int .i64 f.d, .int .i64 f.e], .func (.func 117) #[] #[.pointer (some ⟨b, 0, none⟩)]] w fun e w' => ∃ v, e = .returned v ∧ OwnInts w' w.heap.size v (fixL f n.toNat) ∧ Below w.heap.size w w' := by
  have n5 : n ≤ 5 := by have := hf.1.2.1; have := hf.2; omega
  have n1 : 1 ≤ n := by have := hf.1.1; have := hf.2; omega
  have hpt : ∀ W, Calls Try.prog 82 #[.int .i64 f.p] W fun e w' => ∃ v, e = .returned v ∧ OwnInts w' W.heap.size v (ptsN n.toNat) ∧ Below W.heap.size W w' := fun W => by rw [hf.2]; exact points_c n W (by omega) n5
  have HPT := Lib.hid hpt
  have blt : b < w.heap.size := World.block_lt_of_cell? w _ h.h0
  have k0 : Below w.heap.size w ((w.alloc (Obj.cells #[.int .i64 f.p, .int .i64 f.a, .int .i64 f.b, .int .i64 f.c, .int .i64 f.d, .int .i64 f.e] 61)).alloc (.cells #[.func (.func 117) #[] #[.pointer (some ⟨b, 0, none⟩)]] 129)) := by go_grown
  have hh : ((w.alloc (Obj.cells #[.int .i64 f.p, .int .i64 f.a, .int .i64 f.b, .int .i64 f.c, .int .i64 f.d, .int .i64 f.e] 61)).alloc (.cells #[.func (.func 117) #[] #[.pointer (some ⟨b, 0, none⟩)]] 129)).cell? ⟨w.heap.size + 1, 0, none⟩ = some (.func (.func 117) #[] #[.pointer (some ⟨b, 0, none⟩)]) := by simp [go_sem]
  have HN := Lib.hid hf
  clear hpt hf
  go_enter Try.func116, Try.ntmps116
  go_wp2_with fail
  refine (HPT.out _).mono ?_
  rintro e w1 ⟨v1, rfl, hown1, hb1⟩
  have hz1 := hb1.size
  have hk1 := btrans k0 hb1
  have hm1 := h.below hk1
  have hh1 := bcell hb1 hh
  have hlen := ptsN_length n.toNat
  obtain ⟨A1, c1, rfl, hs⟩ := hown1.see
  obtain ⟨y, o, x, rfl, _, _⟩ := hs.at_ (k := 0) (by omega)
  have ho : o = 0 := by
    rcases hown1.2 with ⟨h2, _⟩ | ⟨g', cap, cur, h2, _⟩
    · cases h2
    · simp only [Value.slice.injEq, Option.some.injEq, Addr.mk.injEq, and_true] at h2; exact h2.1.2
  subst ho
  have hcap : (ptsN n.toNat).length ≤ c1 := by
    rcases hown1.2 with ⟨h2, _⟩ | ⟨g', cap, cur, h2, _, _, h3, _⟩
    · cases h2
    · simp only [Value.slice.injEq] at h2
      omega
  have hyl := hown1.lt y rfl
  have hyb : y ≠ b := by simp at hyl; omega
  have hyh : y ≠ w.heap.size + 1 := by simp at hyl; omega
  have hfl := finN_pts n.toNat (by omega)
  have hfl2 : (finN n.toNat).length = (ptsN n.toNat).length := by rw [← hfl, List.length_map]
  have hHo : Sort.Holds encF w1 y 0 (finN n.toNat).toArray := fun j hj => by
    have := own_holds hown1 j (by rw [List.size_toArray, ← hfl2]; simpa using hj)
    refine ⟨this.1.trans ?_, this.2⟩
    have hj' : j < (finN n.toNat).length := by simpa using hj
    have hj2 : j < (ptsN n.toNat).length := by omega
    rw [getElem!_pos (finN n.toNat).toArray j hj, getElem!_pos (ptsN n.toNat).toArray j (by simpa using hj2)]
    simp only [List.getElem_toArray, ← hfl, List.getElem_map]
    rfl
  have hcon := AnyE.slices_DeleteFunc delL encF (fun _ => rfl) (fun x => !fixB f x) 138 #[.pointer (some ⟨w.heap.size + 1, 0, none⟩)] (enters_of Try.func138 (by kernel_rfl) rfl) 0 Try.zeroValue2 y 0 c1 (finN n.toNat).toArray w1
    (fun W x hb => where1_c f x b (w.heap.size + 1) W (hm1.below hb) (bcell hb hh1))
    (fun q os dk x _ => where1_c f x b (w.heap.size + 1) _ (by
      have k := keep_putE (w := w1) (g := y) (q := q) (enc := encF) (off := 0) (d := dk) (os := os)
      exact ⟨k.cell (Ne.symm hyb) hm1.h0, k.cell (Ne.symm hyb) hm1.h1, k.cell (Ne.symm hyb) hm1.h2, k.cell (Ne.symm hyb) hm1.h3, k.cell (Ne.symm hyb) hm1.h4, k.cell (Ne.symm hyb) hm1.h5⟩) ((keep_putE (w := w1) (g := y) (q := q) (enc := encF) (off := 0) (d := dk) (os := os)).cell (Ne.symm hyh) hh1))
    hHo (by simp; omega) (by simp; omega)
  have hsz : (finN n.toNat).toArray.size = (ptsN n.toNat).length := by simpa using hfl2
  rw [hsz] at hcon
  change Calls Try.prog 137 _ _ _ at hcon
  have hflen : ((finN n.toNat).toArray.toList.filter fun x => !(!fixB f x)).length = (fixL f n.toNat).length := by
    rw [← fix_fin f (show n.toNat ≤ 5 by omega), List.length_map]
  rw [hflen] at hcon
  have hcon2 : Calls Try.prog 137 #[.slice (some ⟨y, 0, none⟩) (ptsN n.toNat).length c1, .func (.func 138) #[] #[.pointer (some ⟨w.heap.size + 1, 0, none⟩)]] w1 fun e w' => e = .returned (.slice (some ⟨y, 0, none⟩) (fixL f n.toNat).length c1) ∧ OwnInts w' w.heap.size (.slice (some ⟨y, 0, none⟩) (fixL f n.toNat).length c1) (fixL f n.toNat) ∧ Keep (fun k => k ≠ y) w1 w' := by
    refine hcon.mono ?_
    rintro e w' ⟨rfl, q, rfl⟩
    refine ⟨rfl, ?_, ?_⟩
    · have e1 : (finN n.toNat).toArray.toList = finN n.toNat := by simp
      have hle := List.length_filter_le (fun x => !(!fixB f x)) (finN n.toNat)
      have := own_putE (n' := ((finN n.toNat).filter fun x => !(!fixB f x)).length) (f := fun x => (x.val : Int)) (enc := encF) (q := q) (os := #[]) (ys := ((finN n.toNat).filter fun x => !(!fixB f x)) ++ List.replicate ((ptsN n.toNat).length - ((finN n.toNat).filter fun x => !(!fixB f x)).length) (0 : Fin 5)) (fun _ => rfl) hown1 (by simp only [List.length_append, List.length_replicate]; omega) (by simp)
      rw [Sort.grow_empty, List.take_left, fix_fin f (by omega)] at this
      rw [← hflen, e1]
      exact this.mono (by simp; omega)
    · rw [← Sort.grow_empty (Sort.putRow _ _ _ _ _)]
      exact keep_putE
  have HC := Lib.hid hcon2
  clear hcon hcon2 hHo hflen hsz hfl hfl2 hs hlen hh1 hm1
  go_wp2_with fail
  refine HC.out.mono ?_
  rintro e w2 ⟨rfl, hown2, hk2⟩
  go_wp2
  go_returns
  exact ⟨_, rfl, hown2, hk1.trans (hk2.below (by have := hk1.size; omega) (fun i hi => by simp at hyl; show i ≠ y; omega))⟩
end Go.Proofs.Ythadgdmooacccaa
