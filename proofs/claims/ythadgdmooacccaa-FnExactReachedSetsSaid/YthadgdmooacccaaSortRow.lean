/- A row of numbers, rewritten in place: slices.Sort, slices.Compact. No condition. -/
import Derived.Test.YthadgdmooacccaaBase
import Derived.Shelf.SortM.Plain
import Derived.Shelf.SortM.SortNone
import Derived.Shelf.SlicesG.CompactI
namespace Go.Proofs.Ythadgdmooacccaa
set_option linter.unusedSimpArgs false
set_option linter.unusedVariables false
set_option linter.unusedSectionVars false
open Go.RowKit
def sortL_ren : Go.Shelf.Ren := ⟨fun | 5 => 102 | 8 => 114 | 7 => 122 | 19 => 135 | 20 => 136 | 10 => 144 | 11 => 145 | 12 => 146 | 13 => 147 | 14 => 148 | 15 => 149 | 16 => 150 | 17 => 151 | 18 => 152 | 30 => 163 | 31 => 155 | 32 => 156 | 33 => 164 | 34 => 165 | 35 => 166 | 40 => 176 | n => n, fun | 23 => 23 | 25 => 2 | 3 => 3 | 32 => 102 | 22 => 23 | 0 => 0 | 44 => 148 | 46 => 57 | 4 => 4 | 36 => 141 | 35 => 140 | 41 => 145 | 5 => 5 | 9 => 9 | 53 => 162 | 57 => 166 | 63 => 173 | 64 => 174 | n => n, fun | n => n⟩
theorem sortL : Go.Proofs.SlLaysM.n5 Try.prog sortL_ren := {
  mixed := by kernel_rfl,
  f5 := ⟨Try.f102.name, by decide, Try.func102.trans (congrArg some (by kernel_rfl))⟩,
  f7 := ⟨Try.f122.name, by decide, Try.func122.trans (congrArg some (by kernel_rfl))⟩,
  f8 := Try.func114.trans (congrArg some (by kernel_rfl)),
  f10 := ⟨Try.f144.name, by decide, Try.func144.trans (congrArg some (by kernel_rfl))⟩,
  f11 := ⟨Try.f145.name, by decide, Try.func145.trans (congrArg some (by kernel_rfl))⟩,
  f12 := ⟨Try.f146.name, by decide, Try.func146.trans (congrArg some (by kernel_rfl))⟩,
  f13 := ⟨Try.f147.name, by decide, Try.func147.trans (congrArg some (by kernel_rfl))⟩,
  f14 := ⟨Try.f148.name, by decide, Try.func148.trans (congrArg some (by kernel_rfl))⟩,
  f15 := ⟨Try.f149.name, by decide, Try.func149.trans (congrArg some (by kernel_rfl))⟩,
  f16 := ⟨Try.f150.name, by decide, Try.func150.trans (congrArg some (by kernel_rfl))⟩,
  f17 := ⟨Try.f151.name, by decide, Try.func151.trans (congrArg some (by kernel_rfl))⟩,
  f18 := ⟨Try.f152.name, by decide, Try.func152.trans (congrArg some (by kernel_rfl))⟩,
  f19 := Try.func135.trans (congrArg some (by kernel_rfl)),
  f20 := Try.func136.trans (congrArg some (by kernel_rfl)),
  f30 := ⟨Try.f163.name, by decide, Try.func163.trans (congrArg some (by kernel_rfl))⟩,
  f31 := Try.func155.trans (congrArg some (by kernel_rfl)),
  f32 := Try.func156.trans (congrArg some (by kernel_rfl)),
  f33 := ⟨Try.f164.name, by decide, Try.func164.trans (congrArg some (by kernel_rfl))⟩,
  f34 := ⟨Try.f165.name, by decide, Try.func165.trans (congrArg some (by kernel_rfl))⟩,
  f35 := ⟨Try.f166.name, by decide, Try.func166.trans (congrArg some (by kernel_rfl))⟩,
  f40 := ⟨Try.f176.name, by decide, Try.func176.trans (congrArg some (by kernel_rfl))⟩,
  t0 := Try.underlying0,
  a0 := Try.isAgg0,
  z0 := Try.sizeOf0,
  v0 := Try.zeroValue0,
  t3 := Try.underlying3,
  a3 := Try.isAgg3,
  z3 := Try.sizeOf3,
  v3 := Try.zeroValue3,
  t4 := Try.underlying4,
  a4 := Try.isAgg4,
  z4 := Try.sizeOf4,
  v4 := Try.zeroValue4,
  t5 := Try.underlying5,
  a5 := Try.isAgg5,
  z5 := Try.sizeOf5,
  v5 := Try.zeroValue5,
  t9 := Try.underlying9,
  a9 := Try.isAgg9,
  z9 := Try.sizeOf9,
  v9 := Try.zeroValue9,
  t22 := Try.underlying23,
  a22 := Try.isAgg23,
  z22 := Try.sizeOf23,
  v22 := Try.zeroValue23,
  t23 := Try.underlying23,
  a23 := Try.isAgg23,
  z23 := Try.sizeOf23,
  v23 := Try.zeroValue23,
  t25 := Try.underlying2,
  a25 := Try.isAgg2,
  z25 := Try.sizeOf2,
  v25 := Try.zeroValue2,
  t32 := Try.underlying102,
  a32 := Try.isAgg102,
  z32 := Try.sizeOf102,
  v32 := Try.zeroValue102,
  t35 := Try.underlying140,
  a35 := Try.isAgg140,
  z35 := Try.sizeOf140,
  v35 := Try.zeroValue140,
  t36 := Try.underlying141,
  a36 := Try.isAgg141,
  z36 := Try.sizeOf141,
  v36 := Try.zeroValue141,
  t41 := Try.underlying145,
  a41 := Try.isAgg145,
  z41 := Try.sizeOf145,
  v41 := Try.zeroValue145,
  t44 := Try.underlying148,
  a44 := Try.isAgg148,
  z44 := Try.sizeOf148,
  v44 := Try.zeroValue148,
  t46 := Try.underlying57,
  a46 := Try.isAgg57,
  z46 := Try.sizeOf57,
  v46 := Try.zeroValue57,
  t53 := Try.underlying162,
  a53 := Try.isAgg162,
  z53 := Try.sizeOf162,
  v53 := Try.zeroValue162,
  t57 := Try.underlying166,
  a57 := Try.isAgg166,
  z57 := Try.sizeOf166,
  v57 := Try.zeroValue166,
  t63 := Try.underlying173,
  a63 := Try.isAgg173,
  z63 := Try.sizeOf173,
  v63 := Try.zeroValue173,
  t64 := Try.underlying174,
  a64 := Try.isAgg174,
  z64 := Try.sizeOf174,
  v64 := Try.zeroValue174 }
def compL_ren : Go.Shelf.Ren := ⟨fun | 43 => 103 | n => n, fun | 22 => 23 | 23 => 2 | 3 => 3 | 4 => 4 | 0 => 0 | n => n, fun | n => n⟩
theorem compL : Go.Proofs.SlLaysN.n43 Try.prog compL_ren := {
  mixed := by kernel_rfl,
  f43 := ⟨Try.f103.name, by decide, Try.func103.trans (congrArg some (by kernel_rfl))⟩,
  t0 := Try.underlying0,
  a0 := Try.isAgg0,
  z0 := Try.sizeOf0,
  v0 := Try.zeroValue0,
  t3 := Try.underlying3,
  a3 := Try.isAgg3,
  z3 := Try.sizeOf3,
  v3 := Try.zeroValue3,
  t4 := Try.underlying4,
  a4 := Try.isAgg4,
  z4 := Try.sizeOf4,
  v4 := Try.zeroValue4,
  t22 := Try.underlying23,
  a22 := Try.isAgg23,
  z22 := Try.sizeOf23,
  v22 := Try.zeroValue23,
  t23 := Try.underlying2,
  a23 := Try.isAgg2,
  z23 := Try.sizeOf2,
  v23 := Try.zeroValue2,
  i23 := by kernel_rfl }
section
variable {w : World} {base g n c q : Nat} {xs ys : List Int} {os : Array Obj}
theorem own_holds (h : OwnInts w base (.slice (some ⟨g, 0, none⟩) n c) xs) : Sort.Holds (Value.int .i64) w g 0 xs.toArray := fun j hj => by
  have hl : j < xs.length := by simpa using hj
  obtain ⟨b, o, x, e, hx, hq⟩ := h.see'.at_ hl
  simp only [Option.some.injEq, Addr.mk.injEq, and_true] at e
  obtain ⟨rfl, rfl⟩ := e
  refine ⟨?_, own_free h _⟩
  rw [hq]
  simp [List.getElem?_eq_some_iff.1 hx |>.2, hl, getElem!_pos]
theorem keep_put : Keep (fun k => k ≠ g) w (Sort.grow (Sort.putRow (Value.int .i64) (Sort.ahead w q) g 0 ys.toArray) os) :=
  ⟨rfl, rfl, rfl, by simp, fun k hk hs => by
    show ((w.heap.modify g _) ++ os)[k]? = _
    rw [Array.getElem?_append_left (by simpa using hk), Array.getElem?_modify, if_neg (Ne.symm hs)]⟩
theorem own_put {n' : Nat} (h : OwnInts w base (.slice (some ⟨g, 0, none⟩) n c) xs) (hl : ys.length = xs.length) (hn : n' ≤ ys.length) :
    OwnInts (Sort.grow (Sort.putRow (Value.int .i64) (Sort.ahead w q) g 0 ys.toArray) os) base (.slice (some ⟨g, 0, none⟩) n' c) (ys.take n') := by
  obtain ⟨h1, h2⟩ := h
  rcases h2 with ⟨h2, _⟩ | ⟨g', cap, cur, h2, hb, hg, hc, hm, hs, ht⟩
  · cases h2
  · simp only [Value.slice.injEq, Option.some.injEq, Addr.mk.injEq, and_true] at h2
    obtain ⟨rfl, rfl, rfl⟩ := h2
    have hgl : g < w.heap.size := (Array.getElem?_eq_some_iff.1 hg).1
    have e1 : (ys.take n').length = n' := by rw [List.length_take]; omega
    refine ⟨by simp, .inr ⟨g, c, Sort.putCells (Value.int .i64) 0 ys.toArray cur, by rw [e1], hb, ?_, by omega, hm, by simpa [Sort.putCells] using hs, ?_⟩⟩
    · show ((w.heap.modify g _) ++ os)[g]? = _
      rw [Array.getElem?_append_left (by simpa using hgl), Array.getElem?_modify, if_pos rfl, hg]
      rfl
    · rw [e1, Nat.mul_one]
      refine List.ext_getElem? fun j => ?_
      rw [List.getElem?_map, List.getElem?_take, List.getElem?_take]
      by_cases hj : j < n'
      · have hjy : j < ys.length := by omega
        have hjc : j < cur.size := by omega
        rw [if_pos hj, if_pos hj, Array.getElem?_toList]
        simp only [Sort.putCells, Array.getElem?_mapIdx, Array.getElem?_eq_getElem hjc, Option.map_some, Nat.sub_zero, Nat.zero_le, Nat.zero_add, true_and, List.size_toArray, hjy, if_true, List.getElem?_eq_getElem hjy]
        simp [hjy, getElem!_pos]
      · rw [if_neg hj, if_neg hj]; rfl
end
/-- the numbers, ascending -/
def sortI (xs : List Int) : List Int := xs.mergeSort fun x y => decide (x ≤ y)
theorem sortI_length (xs : List Int) : (sortI xs).length = xs.length := List.length_mergeSort xs
theorem Sort_c (w : World) (base g c : Nat) (xs : List Int) (h : OwnInts w base (.slice (some ⟨g, 0, none⟩) xs.length c) xs) (hn : xs.length ≤ 2097152) :
    Calls Try.prog 102 #[.slice (some ⟨g, 0, none⟩) xs.length c] w fun e w' => e = .returned (.tuple #[]) ∧ OwnInts w' base (.slice (some ⟨g, 0, none⟩) xs.length c) (sortI xs) ∧ Keep (fun k => k ≠ g) w w' := by
  refine (AnyM.slices_Sort_int sortL g 0 c xs w (own_holds h) (h.lt g rfl).2 (by omega)).mono ?_
  rintro e w' ⟨rfl, q, os, rfl⟩
  have := own_put (n' := xs.length) (q := q) (os := os) h (sortI_length xs) (by rw [sortI_length]; exact Nat.le_refl _)
  rw [List.take_of_length_le (by rw [sortI_length]; exact Nat.le_refl _)] at this
  exact ⟨rfl, this, keep_put⟩
theorem Sort_none_c (w : World) (A : Option Addr) (c : Nat) : Calls Try.prog 102 #[.slice A 0 c] w fun e w' => e = .returned (.tuple #[]) ∧ Below w.heap.size w w' :=
  (AnyM.slices_Sort_int_none sortL A c w).mono fun e w' h => by obtain ⟨rfl, rfl⟩ := h; exact ⟨rfl, Below.refl _ _⟩
theorem comp_len (xs : List Int) : (Lib.compact xs).length ≤ xs.length := by
  unfold Lib.compact Lib.compactUpTo
  rw [List.length_map]
  exact Nat.le_trans (List.length_filter_le _ _) (by simp)
theorem Compact_c (w : World) (base g c : Nat) (xs : List Int) (h : OwnInts w base (.slice (some ⟨g, 0, none⟩) xs.length c) xs) (hn : xs.length ≤ 2097152) :
    Calls Try.prog 103 #[.slice (some ⟨g, 0, none⟩) xs.length c] w fun e w' => e = .returned (.slice (some ⟨g, 0, none⟩) (Lib.compact xs).length c) ∧ OwnInts w' base (.slice (some ⟨g, 0, none⟩) (Lib.compact xs).length c) (Lib.compact xs) ∧ Keep (fun k => k ≠ g) w w' := by
  have hc : xs.length ≤ c := by
    rcases h.2 with ⟨h2, _⟩ | ⟨g', cap, cur, h2, _, _, h3, _⟩
    · cases h2
    · simp only [Value.slice.injEq] at h2
      omega
  refine (AnyG.slices_Compact_int compL g 0 c xs w (own_holds h) (by omega) hc).mono ?_
  rintro e w' ⟨rfl, q, rfl⟩
  have hl := comp_len xs
  have := own_put (n' := (Lib.compact xs).length) (q := q) (os := #[]) (ys := Lib.compact xs ++ List.replicate (xs.length - (Lib.compact xs).length) 0) h (by simp; omega) (by simp)
  rw [Sort.grow_empty, List.take_left] at this
  have k := keep_put (w := w) (g := g) (q := q) (os := #[]) (ys := Lib.compact xs ++ List.replicate (xs.length - (Lib.compact xs).length) 0)
  rw [Sort.grow_empty] at k
  exact ⟨rfl, this, k⟩
theorem Compact_none_c (w : World) (A : Option Addr) (c : Nat) : Calls Try.prog 103 #[.slice A 0 c] w fun e w' => e = .returned (.slice A 0 c) ∧ Below w.heap.size w w' :=
  (AnyG.slices_Compact_int_empty compL A c w).mono fun e w' h => by obtain ⟨rfl, rfl⟩ := h; exact ⟨rfl, Below.refl _ _⟩
end Go.Proofs.Ythadgdmooacccaa
