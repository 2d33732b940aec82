/- A row of numbers, rewritten in place: slices.Sort, slices.Compact. No condition. -/
import Derived.Test.YtilfamenadaboaaGreatBase
import Derived.Shelf.SortM.Plain
import Derived.Shelf.SortM.SortNone
import Derived.Shelf.SlicesG.CompactI
namespace Go.Proofs.YtilfamenadaboaaGreat
set_option linter.unusedSimpArgs false
set_option linter.unusedVariables false
set_option linter.unusedSectionVars false
open Go.RowKit
def sortL_ren : Go.Shelf.Ren := ⟨fun | 5 => 122 | 8 => 130 | 7 => 136 | 19 => 146 | 20 => 147 | 10 => 149 | 11 => 150 | 12 => 151 | 13 => 152 | 14 => 153 | 15 => 154 | 16 => 155 | 17 => 156 | 18 => 157 | 30 => 163 | 31 => 159 | 32 => 160 | 33 => 164 | 34 => 165 | 35 => 148 | 40 => 167 | n => n, fun | 23 => 103 | 25 => 2 | 3 => 3 | 32 => 100 | 22 => 103 | 0 => 0 | 44 => 138 | 46 => 67 | 4 => 4 | 36 => 131 | 35 => 130 | 41 => 135 | 5 => 5 | 9 => 9 | 53 => 147 | 57 => 151 | 63 => 155 | 64 => 156 | n => n, fun | n => n⟩
theorem sortL : Go.Proofs.SlLaysM.n5 Tryz.prog sortL_ren := {
  mixed := by kernel_rfl,
  f5 := ⟨Tryz.f122.name, by decide, Tryz.func122.trans (congrArg some (by kernel_rfl))⟩,
  f7 := ⟨Tryz.f136.name, by decide, Tryz.func136.trans (congrArg some (by kernel_rfl))⟩,
  f8 := Tryz.func130.trans (congrArg some (by kernel_rfl)),
  f10 := ⟨Tryz.f149.name, by decide, Tryz.func149.trans (congrArg some (by kernel_rfl))⟩,
  f11 := ⟨Tryz.f150.name, by decide, Tryz.func150.trans (congrArg some (by kernel_rfl))⟩,
  f12 := ⟨Tryz.f151.name, by decide, Tryz.func151.trans (congrArg some (by kernel_rfl))⟩,
  f13 := ⟨Tryz.f152.name, by decide, Tryz.func152.trans (congrArg some (by kernel_rfl))⟩,
  f14 := ⟨Tryz.f153.name, by decide, Tryz.func153.trans (congrArg some (by kernel_rfl))⟩,
  f15 := ⟨Tryz.f154.name, by decide, Tryz.func154.trans (congrArg some (by kernel_rfl))⟩,
  f16 := ⟨Tryz.f155.name, by decide, Tryz.func155.trans (congrArg some (by kernel_rfl))⟩,
  f17 := ⟨Tryz.f156.name, by decide, Tryz.func156.trans (congrArg some (by kernel_rfl))⟩,
  f18 := ⟨Tryz.f157.name, by decide, Tryz.func157.trans (congrArg some (by kernel_rfl))⟩,
  f19 := Tryz.func146.trans (congrArg some (by kernel_rfl)),
  f20 := Tryz.func147.trans (congrArg some (by kernel_rfl)),
  f30 := ⟨Tryz.f163.name, by decide, Tryz.func163.trans (congrArg some (by kernel_rfl))⟩,
  f31 := Tryz.func159.trans (congrArg some (by kernel_rfl)),
  f32 := Tryz.func160.trans (congrArg some (by kernel_rfl)),
  f33 := ⟨Tryz.f164.name, by decide, Tryz.func164.trans (congrArg some (by kernel_rfl))⟩,
  f34 := ⟨Tryz.f165.name, by decide, Tryz.func165.trans (congrArg some (by kernel_rfl))⟩,
  f35 := ⟨Tryz.f148.name, by decide, Tryz.func148.trans (congrArg some (by kernel_rfl))⟩,
  f40 := ⟨Tryz.f167.name, by decide, Tryz.func167.trans (congrArg some (by kernel_rfl))⟩,
  t0 := Tryz.underlying0,
  a0 := Tryz.isAgg0,
  z0 := Tryz.sizeOf0,
  v0 := Tryz.zeroValue0,
  t3 := Tryz.underlying3,
  a3 := Tryz.isAgg3,
  z3 := Tryz.sizeOf3,
  v3 := Tryz.zeroValue3,
  t4 := Tryz.underlying4,
  a4 := Tryz.isAgg4,
  z4 := Tryz.sizeOf4,
  v4 := Tryz.zeroValue4,
  t5 := Tryz.underlying5,
  a5 := Tryz.isAgg5,
  z5 := Tryz.sizeOf5,
  v5 := Tryz.zeroValue5,
  t9 := Tryz.underlying9,
  a9 := Tryz.isAgg9,
  z9 := Tryz.sizeOf9,
  v9 := Tryz.zeroValue9,
  t22 := Tryz.underlying103,
  a22 := Tryz.isAgg103,
  z22 := Tryz.sizeOf103,
  v22 := Tryz.zeroValue103,
  t23 := Tryz.underlying103,
  a23 := Tryz.isAgg103,
  z23 := Tryz.sizeOf103,
  v23 := Tryz.zeroValue103,
  t25 := Tryz.underlying2,
  a25 := Tryz.isAgg2,
  z25 := Tryz.sizeOf2,
  v25 := Tryz.zeroValue2,
  t32 := Tryz.underlying100,
  a32 := Tryz.isAgg100,
  z32 := Tryz.sizeOf100,
  v32 := Tryz.zeroValue100,
  t35 := Tryz.underlying130,
  a35 := Tryz.isAgg130,
  z35 := Tryz.sizeOf130,
  v35 := Tryz.zeroValue130,
  t36 := Tryz.underlying131,
  a36 := Tryz.isAgg131,
  z36 := Tryz.sizeOf131,
  v36 := Tryz.zeroValue131,
  t41 := Tryz.underlying135,
  a41 := Tryz.isAgg135,
  z41 := Tryz.sizeOf135,
  v41 := Tryz.zeroValue135,
  t44 := Tryz.underlying138,
  a44 := Tryz.isAgg138,
  z44 := Tryz.sizeOf138,
  v44 := Tryz.zeroValue138,
  t46 := Tryz.underlying67,
  a46 := Tryz.isAgg67,
  z46 := Tryz.sizeOf67,
  v46 := Tryz.zeroValue67,
  t53 := Tryz.underlying147,
  a53 := Tryz.isAgg147,
  z53 := Tryz.sizeOf147,
  v53 := Tryz.zeroValue147,
  t57 := Tryz.underlying151,
  a57 := Tryz.isAgg151,
  z57 := Tryz.sizeOf151,
  v57 := Tryz.zeroValue151,
  t63 := Tryz.underlying155,
  a63 := Tryz.isAgg155,
  z63 := Tryz.sizeOf155,
  v63 := Tryz.zeroValue155,
  t64 := Tryz.underlying156,
  a64 := Tryz.isAgg156,
  z64 := Tryz.sizeOf156,
  v64 := Tryz.zeroValue156 }
def compL_ren : Go.Shelf.Ren := ⟨fun | 43 => 123 | n => n, fun | 22 => 103 | 23 => 2 | 3 => 3 | 4 => 4 | 0 => 0 | n => n, fun | n => n⟩
theorem compL : Go.Proofs.SlLaysN.n43 Tryz.prog compL_ren := {
  mixed := by kernel_rfl,
  f43 := ⟨Tryz.f123.name, by decide, Tryz.func123.trans (congrArg some (by kernel_rfl))⟩,
  t0 := Tryz.underlying0,
  a0 := Tryz.isAgg0,
  z0 := Tryz.sizeOf0,
  v0 := Tryz.zeroValue0,
  t3 := Tryz.underlying3,
  a3 := Tryz.isAgg3,
  z3 := Tryz.sizeOf3,
  v3 := Tryz.zeroValue3,
  t4 := Tryz.underlying4,
  a4 := Tryz.isAgg4,
  z4 := Tryz.sizeOf4,
  v4 := Tryz.zeroValue4,
  t22 := Tryz.underlying103,
  a22 := Tryz.isAgg103,
  z22 := Tryz.sizeOf103,
  v22 := Tryz.zeroValue103,
  t23 := Tryz.underlying2,
  a23 := Tryz.isAgg2,
  z23 := Tryz.sizeOf2,
  v23 := Tryz.zeroValue2,
  i23 := by kernel_rfl }
section
variable {w : World} {base g n c q : Nat} {xs ys : List Int} {os : Array Obj}
theorem own_holds (h : OwnInts w base (.slice (some ⟨g, 0, none⟩) n c) xs) : Sort.Holds (Value.int .i64) w g 0 xs.toArray := fun j hj => by
  have hl : j < xs.length := by simpa using hj
  obtain ⟨b, o, x, e, hx, hq⟩ := h.see'.at_ hl
  simp only [Option.some.injEq, Addr.mk.injEq, and_true] at e
  obtain ⟨rfl, rfl⟩ := e
  refine ⟨?_, own_free h _⟩
  rw [hq]
  simp [List.getElem?_eq_some_iff.1 hx |>.2, hl, getElem!_pos]
theorem keep_put : Keep (fun k => k ≠ g) w (Sort.grow (Sort.putRow (Value.int .i64) (Sort.ahead w q) g 0 ys.toArray) os) :=
  ⟨rfl, rfl, rfl, by simp, fun k hk hs => by
    show ((w.heap.modify g _) ++ os)[k]? = _
    rw [Array.getElem?_append_left (by simpa using hk), Array.getElem?_modify, if_neg (Ne.symm hs)]⟩
theorem own_put {n' : Nat} (h : OwnInts w base (.slice (some ⟨g, 0, none⟩) n c) xs) (hl : ys.length = xs.length) (hn : n' ≤ ys.length) :
    OwnInts (Sort.grow (Sort.putRow (Value.int .i64) (Sort.ahead w q) g 0 ys.toArray) os) base (.slice (some ⟨g, 0, none⟩) n' c) (ys.take n') := by
  obtain ⟨h1, h2⟩ := h
  rcases h2 with ⟨h2, _⟩ | ⟨g', cap, cur, h2, hb, hg, hc, hm, hs, ht⟩
  · cases h2
  · simp only [Value.slice.injEq, Option.some.injEq, Addr.mk.injEq, and_true] at h2
    obtain ⟨rfl, rfl, rfl⟩ := h2
    have hgl : g < w.heap.size := (Array.getElem?_eq_some_iff.1 hg).1
    have e1 : (ys.take n').length = n' := by rw [List.length_take]; omega
    refine ⟨by simp, .inr ⟨g, c, Sort.putCells (Value.int .i64) 0 ys.toArray cur, by rw [e1], hb, ?_, by omega, hm, by simpa [Sort.putCells] using hs, ?_⟩⟩
    · show ((w.heap.modify g _) ++ os)[g]? = _
      rw [Array.getElem?_append_left (by simpa using hgl), Array.getElem?_modify, if_pos rfl, hg]
      rfl
    · rw [e1, Nat.mul_one]
      refine List.ext_getElem? fun j => ?_
      rw [List.getElem?_map, List.getElem?_take, List.getElem?_take]
      by_cases hj : j < n'
      · have hjy : j < ys.length := by omega
        have hjc : j < cur.size := by omega
        rw [if_pos hj, if_pos hj, Array.getElem?_toList]
        simp only [Sort.putCells, Array.getElem?_mapIdx, Array.getElem?_eq_getElem hjc, Option.map_some, Nat.sub_zero, Nat.zero_le, Nat.zero_add, true_and, List.size_toArray, hjy, if_true, List.getElem?_eq_getElem hjy]
        simp [hjy, getElem!_pos]
      · rw [if_neg hj, if_neg hj]; rfl
end
/-- the numbers, ascending -/
def sortI (xs : List Int) : List Int := xs.mergeSort fun x y => decide (x ≤ y)
theorem sortI_length (xs : List Int) : (sortI xs).length = xs.length := List.length_mergeSort xs
theorem Sort_c (w : World) (base g c : Nat) (xs : List Int) (h : OwnInts w base (.slice (some ⟨g, 0, none⟩) xs.length c) xs) (hn : xs.length ≤ 2097152) :
    Calls Tryz.prog 122 #[.slice (some ⟨g, 0, none⟩) xs.length c] w fun e w' => e = .returned (.tuple #[]) ∧ OwnInts w' base (.slice (some ⟨g, 0, none⟩) xs.length c) (sortI xs) ∧ Keep (fun k => k ≠ g) w w' := by
  refine (AnyM.slices_Sort_int sortL g 0 c xs w (own_holds h) (h.lt g rfl).2 (by omega)).mono ?_
  rintro e w' ⟨rfl, q, os, rfl⟩
  have := own_put (n' := xs.length) (q := q) (os := os) h (sortI_length xs) (by rw [sortI_length]; exact Nat.le_refl _)
  rw [List.take_of_length_le (by rw [sortI_length]; exact Nat.le_refl _)] at this
  exact ⟨rfl, this, keep_put⟩
theorem Sort_none_c (w : World) (A : Option Addr) (c : Nat) : Calls Tryz.prog 122 #[.slice A 0 c] w fun e w' => e = .returned (.tuple #[]) ∧ Below w.heap.size w w' :=
  (AnyM.slices_Sort_int_none sortL A c w).mono fun e w' h => by obtain ⟨rfl, rfl⟩ := h; exact ⟨rfl, Below.refl _ _⟩
theorem comp_len (xs : List Int) : (Lib.compact xs).length ≤ xs.length := by
  unfold Lib.compact Lib.compactUpTo
  rw [List.length_map]
  exact Nat.le_trans (List.length_filter_le _ _) (by simp)
theorem Compact_c (w : World) (base g c : Nat) (xs : List Int) (h : OwnInts w base (.slice (some ⟨g, 0, none⟩) xs.length c) xs) (hn : xs.length ≤ 2097152) :
    Calls Tryz.prog 123 #[.slice (some ⟨g, 0, none⟩) xs.length c] w fun e w' => e = .returned (.slice (some ⟨g, 0, none⟩) (Lib.compact xs).length c) ∧ OwnInts w' base (.slice (some ⟨g, 0, none⟩) (Lib.compact xs).length c) (Lib.compact xs) ∧ Keep (fun k => k ≠ g) w w' := by
  have hc : xs.length ≤ c := by
    rcases h.2 with ⟨h2, _⟩ | ⟨g', cap, cur, h2, _, _, h3, _⟩
    · cases h2
    · simp only [Value.slice.injEq] at h2
      omega
  refine (AnyG.slices_Compact_int compL g 0 c xs w (own_holds h) (by omega) hc).mono ?_
  rintro e w' ⟨rfl, q, rfl⟩
  have hl := comp_len xs
  have := own_put (n' := (Lib.compact xs).length) (q := q) (os := #[]) (ys := Lib.compact xs ++ List.replicate (xs.length - (Lib.compact xs).length) 0) h (by simp; omega) (by simp)
  rw [Sort.grow_empty, List.take_left] at this
  have k := keep_put (w := w) (g := g) (q := q) (os := #[]) (ys := Lib.compact xs ++ List.replicate (xs.length - (Lib.compact xs).length) 0)
  rw [Sort.grow_empty] at k
  exact ⟨rfl, this, k⟩
theorem Compact_none_c (w : World) (A : Option Addr) (c : Nat) : Calls Tryz.prog 123 #[.slice A 0 c] w fun e w' => e = .returned (.slice A 0 c) ∧ Below w.heap.size w w' :=
  (AnyG.slices_Compact_int_empty compL A c w).mono fun e w' h => by obtain ⟨rfl, rfl⟩ := h; exact ⟨rfl, Below.refl _ _⟩
end Go.Proofs.YtilfamenadaboaaGreat
