/- slices.SortFunc at a row of maps of the call's own. No condition. -/
import Derived.Test.YtilfamenadaboaaGreatCmpM
import Derived.Test.YtilfamenadaboaaGreatBase
import Derived.Shelf.SlLaysF0
namespace Go.Proofs.YtilfamenadaboaaGreat
set_option linter.unusedSimpArgs false
set_option linter.unusedVariables false
set_option linter.unusedSectionVars false
open Go.RowKit Go.Sort Go.Shelf
def sortFL_ren : Go.Shelf.Ren := ⟨fun | 6 => 114 | 15 => 130 | 14 => 129 | 28 => 146 | 29 => 147 | 20 => 138 | 21 => 139 | 22 => 140 | 23 => 141 | 24 => 142 | 25 => 143 | 26 => 144 | 27 => 145 | 46 => 158 | 47 => 159 | 48 => 160 | 49 => 161 | 50 => 162 | 57 => 166 | n => n, fun | 22 => 24 | 24 => 27 | 25 => 113 | 3 => 3 | 39 => 100 | 0 => 0 | 53 => 138 | 55 => 67 | 4 => 4 | 46 => 131 | 45 => 130 | 50 => 135 | 5 => 5 | 9 => 9 | 66 => 147 | 70 => 151 | 76 => 155 | 77 => 156 | n => n, fun | n => n⟩
theorem sortFL : Go.Proofs.SlLaysF0.n6 Tryz.prog sortFL_ren := {
  mixed := by kernel_rfl,
  f6 := ⟨Tryz.f114.name, by decide, Tryz.func114.trans (congrArg some (by kernel_rfl))⟩,
  f14 := ⟨Tryz.f129.name, by decide, Tryz.func129.trans (congrArg some (by kernel_rfl))⟩,
  f15 := Tryz.func130.trans (congrArg some (by kernel_rfl)),
  f20 := ⟨Tryz.f138.name, by decide, Tryz.func138.trans (congrArg some (by kernel_rfl))⟩,
  f21 := ⟨Tryz.f139.name, by decide, Tryz.func139.trans (congrArg some (by kernel_rfl))⟩,
  f22 := ⟨Tryz.f140.name, by decide, Tryz.func140.trans (congrArg some (by kernel_rfl))⟩,
  f23 := ⟨Tryz.f141.name, by decide, Tryz.func141.trans (congrArg some (by kernel_rfl))⟩,
  f24 := ⟨Tryz.f142.name, by decide, Tryz.func142.trans (congrArg some (by kernel_rfl))⟩,
  f25 := ⟨Tryz.f143.name, by decide, Tryz.func143.trans (congrArg some (by kernel_rfl))⟩,
  f26 := ⟨Tryz.f144.name, by decide, Tryz.func144.trans (congrArg some (by kernel_rfl))⟩,
  f27 := ⟨Tryz.f145.name, by decide, Tryz.func145.trans (congrArg some (by kernel_rfl))⟩,
  f28 := Tryz.func146.trans (congrArg some (by kernel_rfl)),
  f29 := Tryz.func147.trans (congrArg some (by kernel_rfl)),
  f46 := ⟨Tryz.f158.name, by decide, Tryz.func158.trans (congrArg some (by kernel_rfl))⟩,
  f47 := Tryz.func159.trans (congrArg some (by kernel_rfl)),
  f48 := Tryz.func160.trans (congrArg some (by kernel_rfl)),
  f49 := ⟨Tryz.f161.name, by decide, Tryz.func161.trans (congrArg some (by kernel_rfl))⟩,
  f50 := ⟨Tryz.f162.name, by decide, Tryz.func162.trans (congrArg some (by kernel_rfl))⟩,
  f57 := ⟨Tryz.f166.name, by decide, Tryz.func166.trans (congrArg some (by kernel_rfl))⟩,
  t0 := Tryz.underlying0,
  a0 := Tryz.isAgg0,
  z0 := Tryz.sizeOf0,
  v0 := Tryz.zeroValue0,
  t3 := Tryz.underlying3,
  a3 := Tryz.isAgg3,
  z3 := Tryz.sizeOf3,
  v3 := Tryz.zeroValue3,
  t4 := Tryz.underlying4,
  a4 := Tryz.isAgg4,
  z4 := Tryz.sizeOf4,
  v4 := Tryz.zeroValue4,
  t5 := Tryz.underlying5,
  a5 := Tryz.isAgg5,
  z5 := Tryz.sizeOf5,
  v5 := Tryz.zeroValue5,
  t9 := Tryz.underlying9,
  a9 := Tryz.isAgg9,
  z9 := Tryz.sizeOf9,
  v9 := Tryz.zeroValue9,
  t22 := Tryz.underlying24,
  a22 := Tryz.isAgg24,
  z22 := Tryz.sizeOf24,
  v22 := Tryz.zeroValue24,
  t25 := Tryz.underlying113,
  a25 := Tryz.isAgg113,
  z25 := Tryz.sizeOf113,
  v25 := Tryz.zeroValue113,
  t39 := Tryz.underlying100,
  a39 := Tryz.isAgg100,
  z39 := Tryz.sizeOf100,
  v39 := Tryz.zeroValue100,
  t45 := Tryz.underlying130,
  a45 := Tryz.isAgg130,
  z45 := Tryz.sizeOf130,
  v45 := Tryz.zeroValue130,
  t46 := Tryz.underlying131,
  a46 := Tryz.isAgg131,
  z46 := Tryz.sizeOf131,
  v46 := Tryz.zeroValue131,
  t50 := Tryz.underlying135,
  a50 := Tryz.isAgg135,
  z50 := Tryz.sizeOf135,
  v50 := Tryz.zeroValue135,
  t53 := Tryz.underlying138,
  a53 := Tryz.isAgg138,
  z53 := Tryz.sizeOf138,
  v53 := Tryz.zeroValue138,
  t55 := Tryz.underlying67,
  a55 := Tryz.isAgg67,
  z55 := Tryz.sizeOf67,
  v55 := Tryz.zeroValue67,
  t66 := Tryz.underlying147,
  a66 := Tryz.isAgg147,
  z66 := Tryz.sizeOf147,
  v66 := Tryz.zeroValue147,
  t70 := Tryz.underlying151,
  a70 := Tryz.isAgg151,
  z70 := Tryz.sizeOf151,
  v70 := Tryz.zeroValue151,
  t76 := Tryz.underlying155,
  a76 := Tryz.isAgg155,
  z76 := Tryz.sizeOf155,
  v76 := Tryz.zeroValue155,
  t77 := Tryz.underlying156,
  a77 := Tryz.isAgg156,
  z77 := Tryz.sizeOf156,
  v77 := Tryz.zeroValue156 }
theorem enc_get (m : Mp) : (encMp m)[0]! = .int .i64 m.p ∧ (encMp m)[1]! = .int .i64 m.a ∧ (encMp m)[2]! = .int .i64 m.b ∧ (encMp m)[3]! = .int .i64 m.c ∧ (encMp m)[4]! = .int .i64 m.d ∧ (encMp m)[5]! = .int .i64 m.e := ⟨rfl, rfl, rfl, rfl, rfl, rfl⟩
theorem flat_get {ys : Array Mp} {k r : Nat} {m : Mp} (hk : ys.toList[k]? = some m) (hr : r < 6) : (flatK encMp 6 ys)[k * 6 + r]! = (encMp m)[r]! := by
  have hl : k < ys.size := by have := (List.getElem?_eq_some_iff.1 hk).1; simpa using this
  have h2 : ys[k]! = m := by
    rw [getElem!_pos ys k hl]
    have := (List.getElem?_eq_some_iff.1 hk).2
    simpa using this
  rw [get_flatK encMp 6 ys (k * 6 + r) (by omega), show (k * 6 + r) / 6 = k by omega, show (k * 6 + r) % 6 = r by omega, h2]
section
variable {w : World} {base g n c q : Nat} {xs : List Mp} {os : Array Obj}
theorem maps_hold (h : OwnMaps w base (.slice (some ⟨g, 0, none⟩) n c) xs) : HoldsK encMp 6 w g 0 xs.toArray := fun j hj => by
  have hj2 : j < xs.length * 6 := by simpa using hj
  have hl : j / 6 < xs.length := by omega
  have ej : j = j / 6 * 6 + j % 6 := by omega
  have hm : xs[j / 6]? = some xs[j / 6] := List.getElem?_eq_getElem hl
  obtain ⟨q0, q1, q2, q3, q4, q5⟩ := h.at_ hm
  refine ⟨?_, h.free _⟩
  have hf := flat_get (ys := xs.toArray) (k := j / 6) (r := j % 6) (m := xs[j / 6]) (by simp) (by omega)
  rw [← ej] at hf
  rw [id, hf, Nat.zero_add]
  have e := enc_get xs[j / 6]
  generalize xs[j / 6] = m at *
  obtain ⟨e0, e1, e2, e3, e4, e5⟩ := e
  rcases (by omega : j % 6 = 0 ∨ j % 6 = 1 ∨ j % 6 = 2 ∨ j % 6 = 3 ∨ j % 6 = 4 ∨ j % 6 = 5) with e | e | e | e | e | e <;> rw [e] at ej ⊢ <;> rw [ej]
  · rw [e0]; exact q0
  · rw [e1]; exact q1
  · rw [e2]; exact q2
  · rw [e3]; exact q3
  · rw [e4]; exact q4
  · rw [e5]; exact q5
theorem keep_putM {d : Array Mp} : Keep (fun k => k ≠ g) w (sortWorldK encMp 6 w g 0 q d os) :=
  ⟨rfl, rfl, rfl, by simp [sortWorldK, grow, putRowK, putRow, mapBlock, ahead], fun k hk hs => by
    show ((w.heap.modify g _) ++ os)[k]? = _
    rw [Array.getElem?_append_left (by simpa using hk), Array.getElem?_modify, if_neg (Ne.symm hs)]⟩
theorem putCells_get {F cur : Array Value} {j : Nat} (hj : j < F.size) (hs : F.size ≤ cur.size) : (putCells id 0 F cur)[j]? = some F[j]! := by
  have hjc : j < cur.size := by omega
  simp only [Sort.putCells, Array.getElem?_mapIdx, Array.getElem?_eq_getElem hjc, Option.map_some, Nat.sub_zero, Nat.zero_le, Nat.zero_add, true_and, hj, if_true]
  simp [hj, getElem!_pos]
theorem own_putM {d : Array Mp} (h : OwnMaps w base (.slice (some ⟨g, 0, none⟩) n c) xs) (hl : d.size = xs.length) :
    OwnMaps (sortWorldK encMp 6 w g 0 q d os) base (.slice (some ⟨g, 0, none⟩) n c) d.toList := by
  obtain ⟨zs, ⟨h1, h2⟩, hr⟩ := h
  rcases h2 with ⟨h2, _⟩ | ⟨g', cap, cur, h2, hb, hg, hc, hm, hs, ht⟩
  · cases h2
  · simp only [Value.slice.injEq, Option.some.injEq, Addr.mk.injEq, and_true] at h2
    obtain ⟨rfl, rfl, rfl⟩ := h2
    have hgl : g < w.heap.size := (Array.getElem?_eq_some_iff.1 hg).1
    have hF : (flatK encMp 6 d).size = xs.length * 6 := by rw [size_flatK, hl]
    have hcs : xs.length * 6 ≤ cur.size := by rw [hs]; exact Nat.mul_le_mul_right 6 hc
    refine ⟨(putCells id 0 (flatK encMp 6 d) cur).toList.take (xs.length * 6), ⟨by simp [hl, putCells]; omega, .inr ⟨g, c, putCells id 0 (flatK encMp 6 d) cur, by simp [hl], hb, ?_, by simpa [hl] using hc, hm, by simpa [putCells] using hs, by simp [hl]⟩⟩, ?_, fun k m hk => ?_⟩
    · show ((w.heap.modify g _) ++ os)[g]? = _
      rw [Array.getElem?_append_left (by simpa using hgl), Array.getElem?_modify, if_pos rfl, hg]
      rfl
    · simp [hl, putCells]; omega
    · have hkl : k < xs.length := by have := (List.getElem?_eq_some_iff.1 hk).1; simpa [hl] using this
      have key : ∀ r, r < 6 → ((putCells id 0 (flatK encMp 6 d) cur).toList.take (xs.length * 6))[k * 6 + r]? = some (encMp m)[r]! := fun r hr => by
        rw [List.getElem?_take, if_pos (by omega), Array.getElem?_toList, putCells_get (by omega) (by omega), flat_get hk hr]
      obtain ⟨e0, e1, e2, e3, e4, e5⟩ := enc_get m
      refine ⟨?_, ?_, ?_, ?_, ?_, ?_⟩
      · rw [← e0]; exact key 0 (by omega)
      · rw [← e1]; exact key 1 (by omega)
      · rw [← e2]; exact key 2 (by omega)
      · rw [← e3]; exact key 3 (by omega)
      · rw [← e4]; exact key 4 (by omega)
      · rw [← e5]; exact key 5 (by omega)
end
theorem SortFuncM_c (w : World) (base g c : Nat) (xs : List Mp) {n : Int} (h : OwnMaps w base (.slice (some ⟨g, 0, none⟩) xs.length c) xs) (hn : xs.length ≤ 2097152) (hN : ∀ f ∈ xs, MpN f n) (hd : xs.Nodup) :
    Calls Tryz.prog 114 #[.slice (some ⟨g, 0, none⟩) xs.length c, .func (.func 115) #[] #[]] w fun e w' => e = .returned (.tuple #[]) ∧ OwnMaps w' base (.slice (some ⟨g, 0, none⟩) xs.length c) (sortM xs) ∧ Keep (fun k => k ≠ g) w w' := by
  have hx : xs.toArray.size = xs.length := by simp
  have hcon := AnyQ.slices_SortFunc sortFL 6 Tryz.isAgg27 Tryz.sizeOf27 encMp (fun _ => rfl) (fun x v hv => by simp [encMp] at hv; rcases hv with rfl | rfl | rfl | rfl | rfl | rfl <;> rfl) cmpM lexM_swo 115 #[] g 0 c xs.toArray w (enters_of Tryz.func115 (by kernel_rfl) rfl) (cmpLaysM g 0 _ w) (maps_hold h) (h.lt g rfl).2 (by rw [hx]; omega)
  rw [hx] at hcon
  refine hcon.mono ?_
  rintro e w' ⟨rfl, d', q, os, hp, hs, rfl⟩
  have hsz : d'.size = xs.length := by rw [hp.1, hx]
  have hperm : d'.toList.Perm xs := by
    have := hp.2.2
    rw [← hsz] at this
    have e2 : (xs.toArray.extract 0 d'.size).toList = xs := by
      rw [Array.toList_extract]
      simp [hsz]
    rw [e2] at this
    simpa using this
  have hN' : ∀ f ∈ d'.toList, MpN f n := fun f hf => hN f (hperm.mem_iff.1 hf)
  have hnd : d'.toList.Nodup := hperm.nodup_iff.2 hd
  have e : d'.toList = sortM xs := by
    refine AscM.ext ?_ (sortM_asc hN) fun f => by rw [mem_sortM hN]; exact hperm.mem_iff
    refine List.pairwise_iff_getElem.2 fun i j hi hj hij => ?_
    have hi2 : i < d'.size := by simpa using hi
    have hj2 : j < d'.size := by simpa using hj
    have h1 := hs i j (Nat.zero_le _) hij (by omega)
    rw [ltOf_cmpM, getElem!_pos d' j hj2, getElem!_pos d' i hi2] at h1
    have mi := hN' d'.toList[i] (List.getElem_mem hi)
    have mj := hN' d'.toList[j] (List.getElem_mem hj)
    have h2 : ¬ lexM d'.toList[j] d'.toList[i] := by simpa using h1
    rw [lexM_num mj mi] at h2
    have h3 : d'.toList[i].num ≠ d'.toList[j].num := fun e => by
      have e2 := num_inj mi mj e
      have := (List.getElem_inj (h₀ := hi) (h₁ := hj) hnd).1 e2
      omega
    omega
  have := own_putM (q := q) (os := os) h hsz
  rw [e] at this
  exact ⟨rfl, this, keep_putM⟩
end Go.Proofs.YtilfamenadaboaaGreat
