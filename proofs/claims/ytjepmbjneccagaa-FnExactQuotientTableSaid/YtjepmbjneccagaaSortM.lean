/- slices.SortFunc at a row of maps of the call's own. No condition. -/
import Derived.Test.YtjepmbjneccagaaCmpM
import Derived.Test.YtjepmbjneccagaaBase
import Derived.Shelf.SlLaysF0
namespace Go.Proofs.Ytjepmbjneccagaa
set_option linter.unusedSimpArgs false
set_option linter.unusedVariables false
set_option linter.unusedSectionVars false
open Go.RowKit Go.Sort Go.Shelf
def sortFL_ren : Go.Shelf.Ren := ⟨fun | 6 => 103 | 15 => 107 | 14 => 106 | 28 => 119 | 29 => 120 | 20 => 111 | 21 => 112 | 22 => 113 | 23 => 114 | 24 => 115 | 25 => 116 | 26 => 117 | 27 => 118 | 46 => 122 | 47 => 123 | 48 => 124 | 49 => 125 | 50 => 126 | 57 => 127 | n => n, fun | 22 => 27 | 24 => 50 | 25 => 109 | 3 => 3 | 39 => 114 | 0 => 0 | 53 => 127 | 55 => 129 | 4 => 4 | 46 => 120 | 45 => 119 | 50 => 124 | 5 => 5 | 9 => 9 | 66 => 131 | 70 => 135 | 76 => 137 | 77 => 138 | n => n, fun | n => n⟩
theorem sortFL : Go.Proofs.SlLaysF0.n6 Try.prog sortFL_ren := {
  mixed := by kernel_rfl,
  f6 := ⟨Try.f103.name, by decide, Try.func103.trans (congrArg some (by kernel_rfl))⟩,
  f14 := ⟨Try.f106.name, by decide, Try.func106.trans (congrArg some (by kernel_rfl))⟩,
  f15 := Try.func107.trans (congrArg some (by kernel_rfl)),
  f20 := ⟨Try.f111.name, by decide, Try.func111.trans (congrArg some (by kernel_rfl))⟩,
  f21 := ⟨Try.f112.name, by decide, Try.func112.trans (congrArg some (by kernel_rfl))⟩,
  f22 := ⟨Try.f113.name, by decide, Try.func113.trans (congrArg some (by kernel_rfl))⟩,
  f23 := ⟨Try.f114.name, by decide, Try.func114.trans (congrArg some (by kernel_rfl))⟩,
  f24 := ⟨Try.f115.name, by decide, Try.func115.trans (congrArg some (by kernel_rfl))⟩,
  f25 := ⟨Try.f116.name, by decide, Try.func116.trans (congrArg some (by kernel_rfl))⟩,
  f26 := ⟨Try.f117.name, by decide, Try.func117.trans (congrArg some (by kernel_rfl))⟩,
  f27 := ⟨Try.f118.name, by decide, Try.func118.trans (congrArg some (by kernel_rfl))⟩,
  f28 := Try.func119.trans (congrArg some (by kernel_rfl)),
  f29 := Try.func120.trans (congrArg some (by kernel_rfl)),
  f46 := ⟨Try.f122.name, by decide, Try.func122.trans (congrArg some (by kernel_rfl))⟩,
  f47 := Try.func123.trans (congrArg some (by kernel_rfl)),
  f48 := Try.func124.trans (congrArg some (by kernel_rfl)),
  f49 := ⟨Try.f125.name, by decide, Try.func125.trans (congrArg some (by kernel_rfl))⟩,
  f50 := ⟨Try.f126.name, by decide, Try.func126.trans (congrArg some (by kernel_rfl))⟩,
  f57 := ⟨Try.f127.name, by decide, Try.func127.trans (congrArg some (by kernel_rfl))⟩,
  t0 := Try.underlying0,
  a0 := Try.isAgg0,
  z0 := Try.sizeOf0,
  v0 := Try.zeroValue0,
  t3 := Try.underlying3,
  a3 := Try.isAgg3,
  z3 := Try.sizeOf3,
  v3 := Try.zeroValue3,
  t4 := Try.underlying4,
  a4 := Try.isAgg4,
  z4 := Try.sizeOf4,
  v4 := Try.zeroValue4,
  t5 := Try.underlying5,
  a5 := Try.isAgg5,
  z5 := Try.sizeOf5,
  v5 := Try.zeroValue5,
  t9 := Try.underlying9,
  a9 := Try.isAgg9,
  z9 := Try.sizeOf9,
  v9 := Try.zeroValue9,
  t22 := Try.underlying27,
  a22 := Try.isAgg27,
  z22 := Try.sizeOf27,
  v22 := Try.zeroValue27,
  t25 := Try.underlying109,
  a25 := Try.isAgg109,
  z25 := Try.sizeOf109,
  v25 := Try.zeroValue109,
  t39 := Try.underlying114,
  a39 := Try.isAgg114,
  z39 := Try.sizeOf114,
  v39 := Try.zeroValue114,
  t45 := Try.underlying119,
  a45 := Try.isAgg119,
  z45 := Try.sizeOf119,
  v45 := Try.zeroValue119,
  t46 := Try.underlying120,
  a46 := Try.isAgg120,
  z46 := Try.sizeOf120,
  v46 := Try.zeroValue120,
  t50 := Try.underlying124,
  a50 := Try.isAgg124,
  z50 := Try.sizeOf124,
  v50 := Try.zeroValue124,
  t53 := Try.underlying127,
  a53 := Try.isAgg127,
  z53 := Try.sizeOf127,
  v53 := Try.zeroValue127,
  t55 := Try.underlying129,
  a55 := Try.isAgg129,
  z55 := Try.sizeOf129,
  v55 := Try.zeroValue129,
  t66 := Try.underlying131,
  a66 := Try.isAgg131,
  z66 := Try.sizeOf131,
  v66 := Try.zeroValue131,
  t70 := Try.underlying135,
  a70 := Try.isAgg135,
  z70 := Try.sizeOf135,
  v70 := Try.zeroValue135,
  t76 := Try.underlying137,
  a76 := Try.isAgg137,
  z76 := Try.sizeOf137,
  v76 := Try.zeroValue137,
  t77 := Try.underlying138,
  a77 := Try.isAgg138,
  z77 := Try.sizeOf138,
  v77 := Try.zeroValue138 }
theorem enc_get (m : Mp) : (encMp m)[0]! = .int .i64 m.p ∧ (encMp m)[1]! = .int .i64 m.a ∧ (encMp m)[2]! = .int .i64 m.b ∧ (encMp m)[3]! = .int .i64 m.c ∧ (encMp m)[4]! = .int .i64 m.d ∧ (encMp m)[5]! = .int .i64 m.e := ⟨rfl, rfl, rfl, rfl, rfl, rfl⟩
theorem flat_get {ys : Array Mp} {k r : Nat} {m : Mp} (hk : ys.toList[k]? = some m) (hr : r < 6) : (flatK encMp 6 ys)[k * 6 + r]! = (encMp m)[r]! := by
  have hl : k < ys.size := by have := (List.getElem?_eq_some_iff.1 hk).1; simpa using this
  have h2 : ys[k]! = m := by
    rw [getElem!_pos ys k hl]
    have := (List.getElem?_eq_some_iff.1 hk).2
    simpa using this
  rw [get_flatK encMp 6 ys (k * 6 + r) (by omega), show (k * 6 + r) / 6 = k by omega, show (k * 6 + r) % 6 = r by omega, h2]
section
variable {w : World} {base g n c q : Nat} {xs : List Mp} {os : Array Obj}
theorem maps_hold (h : OwnMaps w base (.slice (some ⟨g, 0, none⟩) n c) xs) : HoldsK encMp 6 w g 0 xs.toArray := fun j hj => by
  have hj2 : j < xs.length * 6 := by simpa using hj
  have hl : j / 6 < xs.length := by omega
  have ej : j = j / 6 * 6 + j % 6 := by omega
  have hm : xs[j / 6]? = some xs[j / 6] := List.getElem?_eq_getElem hl
  obtain ⟨q0, q1, q2, q3, q4, q5⟩ := h.at_ hm
  refine ⟨?_, h.free _⟩
  have hf := flat_get (ys := xs.toArray) (k := j / 6) (r := j % 6) (m := xs[j / 6]) (by simp) (by omega)
  rw [← ej] at hf
  rw [id, hf, Nat.zero_add]
  have e := enc_get xs[j / 6]
  generalize xs[j / 6] = m at *
  obtain ⟨e0, e1, e2, e3, e4, e5⟩ := e
  rcases (by omega : j % 6 = 0 ∨ j % 6 = 1 ∨ j % 6 = 2 ∨ j % 6 = 3 ∨ j % 6 = 4 ∨ j % 6 = 5) with e | e | e | e | e | e <;> rw [e] at ej ⊢ <;> rw [ej]
  · rw [e0]; exact q0
  · rw [e1]; exact q1
  · rw [e2]; exact q2
  · rw [e3]; exact q3
  · rw [e4]; exact q4
  · rw [e5]; exact q5
theorem keep_putM {d : Array Mp} : Keep (fun k => k ≠ g) w (sortWorldK encMp 6 w g 0 q d os) :=
  ⟨rfl, rfl, rfl, by simp [sortWorldK, grow, putRowK, putRow, mapBlock, ahead], fun k hk hs => by
    show ((w.heap.modify g _) ++ os)[k]? = _
    rw [Array.getElem?_append_left (by simpa using hk), Array.getElem?_modify, if_neg (Ne.symm hs)]⟩
theorem putCells_get {F cur : Array Value} {j : Nat} (hj : j < F.size) (hs : F.size ≤ cur.size) : (putCells id 0 F cur)[j]? = some F[j]! := by
  have hjc : j < cur.size := by omega
  simp only [Sort.putCells, Array.getElem?_mapIdx, Array.getElem?_eq_getElem hjc, Option.map_some, Nat.sub_zero, Nat.zero_le, Nat.zero_add, true_and, hj, if_true]
  simp [hj, getElem!_pos]
theorem own_putM {d : Array Mp} (h : OwnMaps w base (.slice (some ⟨g, 0, none⟩) n c) xs) (hl : d.size = xs.length) :
    OwnMaps (sortWorldK encMp 6 w g 0 q d os) base (.slice (some ⟨g, 0, none⟩) n c) d.toList := by
  obtain ⟨zs, ⟨h1, h2⟩, hr⟩ := h
  rcases h2 with ⟨h2, _⟩ | ⟨g', cap, cur, h2, hb, hg, hc, hm, hs, ht⟩
  · cases h2
  · simp only [Value.slice.injEq, Option.some.injEq, Addr.mk.injEq, and_true] at h2
    obtain ⟨rfl, rfl, rfl⟩ := h2
    have hgl : g < w.heap.size := (Array.getElem?_eq_some_iff.1 hg).1
    have hF : (flatK encMp 6 d).size = xs.length * 6 := by rw [size_flatK, hl]
    have hcs : xs.length * 6 ≤ cur.size := by rw [hs]; exact Nat.mul_le_mul_right 6 hc
    refine ⟨(putCells id 0 (flatK encMp 6 d) cur).toList.take (xs.length * 6), ⟨by simp [hl, putCells]; omega, .inr ⟨g, c, putCells id 0 (flatK encMp 6 d) cur, by simp [hl], hb, ?_, by simpa [hl] using hc, hm, by simpa [putCells] using hs, by simp [hl]⟩⟩, ?_, fun k m hk => ?_⟩
    · show ((w.heap.modify g _) ++ os)[g]? = _
      rw [Array.getElem?_append_left (by simpa using hgl), Array.getElem?_modify, if_pos rfl, hg]
      rfl
    · simp [hl, putCells]; omega
    · have hkl : k < xs.length := by have := (List.getElem?_eq_some_iff.1 hk).1; simpa [hl] using this
      have key : ∀ r, r < 6 → ((putCells id 0 (flatK encMp 6 d) cur).toList.take (xs.length * 6))[k * 6 + r]? = some (encMp m)[r]! := fun r hr => by
        rw [List.getElem?_take, if_pos (by omega), Array.getElem?_toList, putCells_get (by omega) (by omega), flat_get hk hr]
      obtain ⟨e0, e1, e2, e3, e4, e5⟩ := enc_get m
      refine ⟨?_, ?_, ?_, ?_, ?_, ?_⟩
      · rw [← e0]; exact key 0 (by omega)
      · rw [← e1]; exact key 1 (by omega)
      · rw [← e2]; exact key 2 (by omega)
      · rw [← e3]; exact key 3 (by omega)
      · rw [← e4]; exact key 4 (by omega)
      · rw [← e5]; exact key 5 (by omega)
end
theorem SortFuncM_c (w : World) (base g c : Nat) (xs : List Mp) {n : Int} (h : OwnMaps w base (.slice (some ⟨g, 0, none⟩) xs.length c) xs) (hn : xs.length ≤ 2097152) (hN : ∀ f ∈ xs, MpN f n) (hd : xs.Nodup) :
    Calls Try.prog 103 #[.slice (some ⟨g, 0, none⟩) xs.length c, .func (.func 104) #[] #[]] w fun e w' => e = .returned (.tuple #[]) ∧ OwnMaps w' base (.slice (some ⟨g, 0, none⟩) xs.length c) (sortM xs) ∧ Keep (fun k => k ≠ g) w w' := by
  have hx : xs.toArray.size = xs.length := by simp
  have hcon := AnyQ.slices_SortFunc sortFL 6 Try.isAgg50 Try.sizeOf50 encMp (fun _ => rfl) (fun x v hv => by simp [encMp] at hv; rcases hv with rfl | rfl | rfl | rfl | rfl | rfl <;> rfl) cmpM lexM_swo 104 #[] g 0 c xs.toArray w (enters_of Try.func104 (by kernel_rfl) rfl) (cmpLaysM g 0 _ w) (maps_hold h) (h.lt g rfl).2 (by rw [hx]; omega)
  rw [hx] at hcon
  refine hcon.mono ?_
  rintro e w' ⟨rfl, d', q, os, hp, hs, rfl⟩
  have hsz : d'.size = xs.length := by rw [hp.1, hx]
  have hperm : d'.toList.Perm xs := by
    have := hp.2.2
    rw [← hsz] at this
    have e2 : (xs.toArray.extract 0 d'.size).toList = xs := by
      rw [Array.toList_extract]
      simp [hsz]
    rw [e2] at this
    simpa using this
  have hN' : ∀ f ∈ d'.toList, MpN f n := fun f hf => hN f (hperm.mem_iff.1 hf)
  have hnd : d'.toList.Nodup := hperm.nodup_iff.2 hd
  have e : d'.toList = sortM xs := by
    refine AscM.ext ?_ (sortM_asc hN) fun f => by rw [mem_sortM hN]; exact hperm.mem_iff
    refine List.pairwise_iff_getElem.2 fun i j hi hj hij => ?_
    have hi2 : i < d'.size := by simpa using hi
    have hj2 : j < d'.size := by simpa using hj
    have h1 := hs i j (Nat.zero_le _) hij (by omega)
    rw [ltOf_cmpM, getElem!_pos d' j hj2, getElem!_pos d' i hi2] at h1
    have mi := hN' d'.toList[i] (List.getElem_mem hi)
    have mj := hN' d'.toList[j] (List.getElem_mem hj)
    have h2 : ¬ lexM d'.toList[j] d'.toList[i] := by simpa using h1
    rw [lexM_num mj mi] at h2
    have h3 : d'.toList[i].num ≠ d'.toList[j].num := fun e => by
      have e2 := num_inj mi mj e
      have := (List.getElem_inj (h₀ := hi) (h₁ := hj) hnd).1 e2
      omega
    omega
  have := own_putM (q := q) (os := os) h hsz
  rw [e] at this
  exact ⟨rfl, this, keep_putM⟩
end Go.Proofs.Ytjepmbjneccagaa
