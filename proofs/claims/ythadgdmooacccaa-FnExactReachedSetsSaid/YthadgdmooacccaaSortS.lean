/- 'bitsOf'; slices.SortFunc by it. No condition. -/
import Derived.Test.YthadgdmooacccaaReachO
import Derived.Test.YthadgdmooacccaaRankL
import Derived.Shelf.SlSortCmp.Whole1
import Derived.Shelf.SlLaysF
namespace Go.Proofs.Ythadgdmooacccaa
set_option linter.unusedSimpArgs false
set_option linter.unusedVariables false
set_option linter.unusedSectionVars false
open Go.RowKit Go.Sort Go.Shelf
def sortSL_ren : Go.Shelf.Ren := ⟨fun | 6 => 84 | 15 => 114 | 14 => 113 | 28 => 135 | 29 => 136 | 20 => 127 | 21 => 128 | 22 => 129 | 23 => 130 | 24 => 131 | 25 => 132 | 26 => 133 | 27 => 134 | 46 => 154 | 47 => 155 | 48 => 156 | 49 => 157 | 50 => 158 | 57 => 167 | n => n, fun | 22 => 47 | 24 => 23 | 25 => 95 | 3 => 3 | 39 => 102 | 0 => 0 | 53 => 148 | 55 => 57 | 4 => 4 | 46 => 141 | 45 => 140 | 50 => 145 | 5 => 5 | 9 => 9 | 66 => 162 | 70 => 166 | 76 => 173 | 77 => 174 | n => n, fun | n => n⟩
theorem sortSL : Go.Proofs.SlLaysF.n6 Try.prog sortSL_ren := {
  mixed := by kernel_rfl,
  f6 := ⟨Try.f84.name, by decide, Try.func84.trans (congrArg some (by kernel_rfl))⟩,
  f14 := ⟨Try.f113.name, by decide, Try.func113.trans (congrArg some (by kernel_rfl))⟩,
  f15 := Try.func114.trans (congrArg some (by kernel_rfl)),
  f20 := ⟨Try.f127.name, by decide, Try.func127.trans (congrArg some (by kernel_rfl))⟩,
  f21 := ⟨Try.f128.name, by decide, Try.func128.trans (congrArg some (by kernel_rfl))⟩,
  f22 := ⟨Try.f129.name, by decide, Try.func129.trans (congrArg some (by kernel_rfl))⟩,
  f23 := ⟨Try.f130.name, by decide, Try.func130.trans (congrArg some (by kernel_rfl))⟩,
  f24 := ⟨Try.f131.name, by decide, Try.func131.trans (congrArg some (by kernel_rfl))⟩,
  f25 := ⟨Try.f132.name, by decide, Try.func132.trans (congrArg some (by kernel_rfl))⟩,
  f26 := ⟨Try.f133.name, by decide, Try.func133.trans (congrArg some (by kernel_rfl))⟩,
  f27 := ⟨Try.f134.name, by decide, Try.func134.trans (congrArg some (by kernel_rfl))⟩,
  f28 := Try.func135.trans (congrArg some (by kernel_rfl)),
  f29 := Try.func136.trans (congrArg some (by kernel_rfl)),
  f46 := ⟨Try.f154.name, by decide, Try.func154.trans (congrArg some (by kernel_rfl))⟩,
  f47 := Try.func155.trans (congrArg some (by kernel_rfl)),
  f48 := Try.func156.trans (congrArg some (by kernel_rfl)),
  f49 := ⟨Try.f157.name, by decide, Try.func157.trans (congrArg some (by kernel_rfl))⟩,
  f50 := ⟨Try.f158.name, by decide, Try.func158.trans (congrArg some (by kernel_rfl))⟩,
  f57 := ⟨Try.f167.name, by decide, Try.func167.trans (congrArg some (by kernel_rfl))⟩,
  t0 := Try.underlying0,
  a0 := Try.isAgg0,
  z0 := Try.sizeOf0,
  v0 := Try.zeroValue0,
  t3 := Try.underlying3,
  a3 := Try.isAgg3,
  z3 := Try.sizeOf3,
  v3 := Try.zeroValue3,
  t4 := Try.underlying4,
  a4 := Try.isAgg4,
  z4 := Try.sizeOf4,
  v4 := Try.zeroValue4,
  t5 := Try.underlying5,
  a5 := Try.isAgg5,
  z5 := Try.sizeOf5,
  v5 := Try.zeroValue5,
  t9 := Try.underlying9,
  a9 := Try.isAgg9,
  z9 := Try.sizeOf9,
  v9 := Try.zeroValue9,
  t22 := Try.underlying47,
  a22 := Try.isAgg47,
  z22 := Try.sizeOf47,
  v22 := Try.zeroValue47,
  a24 := Try.isAgg23,
  z24 := Try.sizeOf23,
  t25 := Try.underlying95,
  a25 := Try.isAgg95,
  z25 := Try.sizeOf95,
  v25 := Try.zeroValue95,
  t39 := Try.underlying102,
  a39 := Try.isAgg102,
  z39 := Try.sizeOf102,
  v39 := Try.zeroValue102,
  t45 := Try.underlying140,
  a45 := Try.isAgg140,
  z45 := Try.sizeOf140,
  v45 := Try.zeroValue140,
  t46 := Try.underlying141,
  a46 := Try.isAgg141,
  z46 := Try.sizeOf141,
  v46 := Try.zeroValue141,
  t50 := Try.underlying145,
  a50 := Try.isAgg145,
  z50 := Try.sizeOf145,
  v50 := Try.zeroValue145,
  t53 := Try.underlying148,
  a53 := Try.isAgg148,
  z53 := Try.sizeOf148,
  v53 := Try.zeroValue148,
  t55 := Try.underlying57,
  a55 := Try.isAgg57,
  z55 := Try.sizeOf57,
  v55 := Try.zeroValue57,
  t66 := Try.underlying162,
  a66 := Try.isAgg162,
  z66 := Try.sizeOf162,
  v66 := Try.zeroValue162,
  t70 := Try.underlying166,
  a70 := Try.isAgg166,
  z70 := Try.sizeOf166,
  v70 := Try.zeroValue166,
  t76 := Try.underlying173,
  a76 := Try.isAgg173,
  z76 := Try.sizeOf173,
  v76 := Try.zeroValue173,
  t77 := Try.underlying174,
  a77 := Try.isAgg174,
  z77 := Try.sizeOf174,
  v77 := Try.zeroValue174 }
set_option maxHeartbeats 1000000 in
/-- 'bitsOf' lays nothing -/
theorem bitsOf_x (A : Option Addr) (c : Nat) (xs : List Int) (w : World) (h : SeeInts w A xs) (hx : ∀ x ∈ xs, 0 ≤ x ∧ x < 6) (hn : xs.length ≤ 2097152) :
    Calls Try.prog 86 #[.slice A xs.length c] w fun e w' => e = .returned (.int .i64 (bitsN xs)) ∧ w' = w := by
  have H := Lib.hid h
  clear h
  go_enter Try.func86, Try.ntmps86
  go_wp2
  go_loopw [8, 3] (fun i n wr => ∃ k : Nat, k ≤ xs.length ∧ i = .int .i64 k ∧ n = .int .i64 (bitsN (xs.take k)) ∧ wr = w) (fun i _ _ => xs.length - (intOf i).toNat)
  case atStart => exact ⟨0, Nat.zero_le _, rfl, rfl, rfl⟩
  case round =>
    obtain ⟨k, hk, rfl, rfl, rfl⟩ := hrel
    by_cases hlt : k < xs.length
    · obtain ⟨b, o, x, rfl, hxk, q⟩ := H.out.at_ hlt
      have hl : (0 : Int) ≤ k := by omega
      have hl' : (k : Int) < xs.length := by omega
      have hp := hx x (List.mem_of_getElem? hxk)
      have r0 := hp.1
      have r1 : x < 6 := by omega
      have HX := Lib.hid hxk
      have HP := Lib.hid hx
      clear hxk hx
      go_wp2
      go_roundw
      case rel =>
        refine ⟨k + 1, by omega, by go_num, ?_, by first | rfl | trivial⟩
        have hlt' : bitsN (xs.take k) < 2 ^ 63 := Nat.lt_of_lt_of_le (bitsN_lt (j := 6) fun y hy => HP.out y (List.mem_of_mem_take hy)) (by decide)
        rw [pow_of r0 r1, bits_or _ _ hlt' (pow_lt r1), List.take_add_one, HX.out]
        congr 1
        simp [bitsN, List.foldl_append]
      case measure => simp [intOf]; omega
    · obtain rfl : k = xs.length := by omega
      rw [List.take_length]
      go_wp2
      go_returns
      exact ⟨rfl, rfl⟩
def cfB (a b : List Int) : Int := (bitsN a : Int) - (bitsN b : Int)
theorem swoB (at_ : Nat → List Int) : SWO (ltOf fun i k => cfB (at_ i) (at_ k)) := by
  have e : ∀ i k, ltOf (fun i k => cfB (at_ i) (at_ k)) i k = decide (bitsN (at_ i) < bitsN (at_ k)) := fun i k => by
    unfold ltOf cfB
    by_cases h : bitsN (at_ i) < bitsN (at_ k)
    · rw [decide_eq_true h]; exact decide_eq_true (show (bitsN (at_ i) : Int) - bitsN (at_ k) < 0 by omega)
    · rw [decide_eq_false h]; exact decide_eq_false (show ¬ ((bitsN (at_ i) : Int) - bitsN (at_ k) < 0) by omega)
  refine ⟨fun x => ?_, fun x y z h1 h2 => ?_, fun x y z h1 h2 => ?_⟩
  · rw [e]; exact decide_eq_false (Nat.lt_irrefl _)
  · rw [e] at *; simp only [decide_eq_true_eq] at *; omega
  · rw [e] at *; simp only [decide_eq_false_iff_not] at *; omega
set_option maxHeartbeats 1000000 in
theorem reachedS1_c {A B : Option Addr} {c d : Nat} {a b : List Int} {n : Int} (W : World) (ha : SeeInts W A a) (hb : SeeInts W B b) (ca : AL n a) (cb : AL n b) (hn : n ≤ 5) :
    Calls Try.prog 85 #[.slice A a.length c, .slice B b.length d] W fun e w' => e = .returned (.int .i64 (cfB a b)) ∧ ∃ q os', w' = grow (W.drewN q) os' := by
  have la := ca.short hn
  have lb := cb.short hn
  have h32 : 2 ^ n.toNat ≤ 2 ^ 5 := Nat.pow_le_pow_right (by decide) (by omega)
  have ba := ca.bits_lt hn
  have bb := cb.bits_lt hn
  have HA := Lib.hid (bitsOf_x A c a W ha (fun x hx => by have := ca.2 x hx; omega) (by omega))
  have HB := Lib.hid (bitsOf_x B d b W hb (fun x hx => by have := cb.2 x hx; omega) (by omega))
  unfold cfB
  generalize bitsN a = x at *
  generalize bitsN b = y at *
  clear ha hb ca cb
  go_enter Try.func85, Try.ntmps85
  go_wp2_with fail
  refine HA.out.mono ?_
  rintro e w2 ⟨rfl, rfl⟩
  go_wp2_with fail
  refine HB.out.mono ?_
  rintro e w3 ⟨rfl, rfl⟩
  go_wp2
  go_returns
  exact ⟨rfl, 0, #[], by simp [grow, World.drewN]⟩
/-! ### A row of rows, put in another order in place -/
def atS (ws : List Sl) (s0 : Sl) (i : Nat) : Sl := ws.getD i s0
def encS (ws : List Sl) (s0 : Sl) (i : Nat) : Value := (atS ws s0 i).v
theorem atS_mem {ws : List Sl} {s0 : Sl} (h : s0 ∈ ws) (i : Nat) : atS ws s0 i ∈ ws := by
  unfold atS
  rw [List.getD_eq_getElem?_getD]
  cases e : ws[i]? with
  | none => exact h
  | some s => exact List.mem_of_getElem? e
theorem map_at (ws : List Sl) (s0 : Sl) : (List.range ws.length).map (atS ws s0) = ws := List.ext_getElem? fun j => by
  rw [List.getElem?_map]
  by_cases hj : j < ws.length
  · rw [List.getElem?_range hj]
    unfold atS
    rw [Option.map_some, List.getD_eq_getElem?_getD, List.getElem?_eq_getElem hj]
    rfl
  · rw [List.getElem?_eq_none (by simpa using hj), List.getElem?_eq_none (by omega)]
    rfl
section
variable {w : World} {base g n c q : Nat} {ws : List Sl} {s0 : Sl} {os : Array Obj}
theorem sls_holds (h : OwnSls w base (.slice (some ⟨g, 0, none⟩) n c) ws) : Holds (encS ws s0) w g 0 (List.range ws.length).toArray := fun j hj => by
  have hl : j < ws.length := by simpa using hj
  have h' : w.ownsRow base 23 1 (.slice (some ⟨g, 0, none⟩) n c) ws.length (ws.map Sl.v) := h
  have hn := own_slice_len h'
  subst hn
  have hc := h'.cellAt j (by omega)
  refine ⟨?_, own_free h' _⟩
  rw [Nat.zero_add, hc, List.getElem?_map, List.getElem?_eq_getElem hl]
  simp [encS, atS, hl, List.getD_eq_getElem?_getD]
theorem keep_putS {d : Array Nat} : Keep (fun k => k ≠ g) w (sortWorld (encS ws s0) w g 0 q d os) :=
  ⟨rfl, rfl, rfl, by simp [sortWorld, grow, putRow, mapBlock, ahead], fun k hk hs => by
    show ((w.heap.modify g _) ++ os)[k]? = _
    rw [Array.getElem?_append_left (by simpa using hk), Array.getElem?_modify, if_neg (Ne.symm hs)]⟩
theorem own_putS {d : Array Nat} (h : OwnSls w base (.slice (some ⟨g, 0, none⟩) n c) ws) (hl : d.size = ws.length) :
    OwnSls (sortWorld (encS ws s0) w g 0 q d os) base (.slice (some ⟨g, 0, none⟩) n c) (d.toList.map (atS ws s0)) := by
  obtain ⟨h1, h2⟩ := h
  rcases h2 with ⟨h2, _⟩ | ⟨g', cap, cur, h2, hb, hg, hc, hm, hs, ht⟩
  · cases h2
  · simp only [Value.slice.injEq, Option.some.injEq, Addr.mk.injEq, and_true] at h2
    obtain ⟨rfl, rfl, rfl⟩ := h2
    have hgl : g < w.heap.size := (Array.getElem?_eq_some_iff.1 hg).1
    have e1 : (d.toList.map (atS ws s0)).length = ws.length := by simp [hl]
    refine ⟨by simp, .inr ⟨g, c, putCells (encS ws s0) 0 d cur, by rw [e1], hb, ?_, by omega, hm, by simpa [putCells] using hs, ?_⟩⟩
    · show ((w.heap.modify g _) ++ os)[g]? = _
      rw [Array.getElem?_append_left (by simpa using hgl), Array.getElem?_modify, if_pos rfl, hg]
      rfl
    · rw [e1, Nat.mul_one]
      refine List.ext_getElem? fun j => ?_
      rw [List.getElem?_map, List.getElem?_map, List.getElem?_take]
      by_cases hj : j < ws.length
      · have hjd : j < d.size := by omega
        have hjc : j < cur.size := by omega
        rw [if_pos hj, Array.getElem?_toList]
        simp only [putCells, Array.getElem?_mapIdx, Array.getElem?_eq_getElem hjc, Option.map_some, Nat.sub_zero, Nat.zero_le, Nat.zero_add, true_and, hjd, if_true]
        simp [hjd, getElem!_pos, encS]
      · rw [if_neg hj, List.getElem?_eq_none (by simp; omega)]; rfl
end
theorem SortFuncB_c {n : Int} (w : World) (base g c : Nat) (ws : List Sl) (h : OwnSls w base (.slice (some ⟨g, 0, none⟩) ws.length c) ws) (he : ElsOk w base ws) (hn : ws.length ≤ 2097152) (hC : ∀ s ∈ ws, AL n s.xs) (hN : n ≤ 5) (hne : ws ≠ []) :
    Calls Try.prog 84 #[.slice (some ⟨g, 0, none⟩) ws.length c, .func (.func 85) #[] #[]] w fun e w' => e = .returned (.tuple #[]) ∧ ∃ us : List Sl, us.Perm ws ∧ us.Pairwise (fun s t => ¬ bitsN t.xs < bitsN s.xs) ∧ OwnSls w' base (.slice (some ⟨g, 0, none⟩) ws.length c) us ∧ Keep (fun k => k ≠ g) w w' := by
  obtain ⟨s0, hm0⟩ : ∃ s0, s0 ∈ ws := by
    cases ws with
    | nil => exact absurd rfl hne
    | cons s0 _ => exact ⟨s0, by simp⟩
  have hx : (List.range ws.length).toArray.size = ws.length := by simp
  have hat := fun i => hC _ (atS_mem hm0 i)
  have hel : ∀ s ∈ ws, ∀ k, s.v.ownBlock = some k → k ≠ g := fun s hs k hk e => own_ne h (he s hs) (by decide) g rfl (e ▸ hk)
  have hcon := Any.slices_SortFunc sortSL (encS ws s0) (fun x => rfl) (fun i k => cfB (atS ws s0 i).xs (atS ws s0 k).xs) (swoB (fun i => (atS ws s0 i).xs)) 85 #[] g 0 c (List.range ws.length).toArray w (enters_of Try.func85 (by kernel_rfl) rfl)
    (fun m os dk _ x y => by
      have k1 : Keep (fun k => k ≠ g) w (sortWorld (encS ws s0) w g 0 m dk os) := keep_putS
      have hx1 := atS_mem hm0 x
      have hy1 := atS_mem hm0 y
      have o1 := (he _ hx1).keep (hel _ hx1) k1
      have o2 := (he _ hy1).keep (hel _ hy1) k1
      exact reachedS1_c (c := (atS ws s0 x).c) (d := (atS ws s0 y).c) _ o1.see' o2.see' (hat x) (hat y) hN)
    (sls_holds h) (h.lt g rfl).2 (by rw [hx]; omega)
  rw [hx] at hcon
  refine hcon.mono ?_
  rintro e w' ⟨rfl, d', q, os, hp, hs, rfl⟩
  have hsz : d'.size = ws.length := by rw [hp.1, hx]
  have hperm : d'.toList.Perm (List.range ws.length) := by
    have := hp.2.2
    rw [← hsz] at this
    have e2 : ((List.range d'.size).toArray.extract 0 d'.size).toList = List.range ws.length := by
      rw [Array.toList_extract]
      simp [hsz]
    rw [hsz] at this e2
    rw [e2] at this
    have e3 : (d'.extract 0 ws.length) = d' := by rw [← hsz]; simp
    rw [e3] at this
    exact this
  refine ⟨rfl, d'.toList.map (atS ws s0), ?_, ?_, ?_, keep_putS⟩
  · have := hperm.map (atS ws s0)
    rwa [map_at] at this
  · rw [List.pairwise_map]
    refine List.pairwise_iff_getElem.2 fun i j hi hj hij => ?_
    have hi2 : i < d'.size := by simpa using hi
    have hj2 : j < d'.size := by simpa using hj
    have h1 := hs i j (Nat.zero_le _) hij (by omega)
    rw [getElem!_pos d' j hj2, getElem!_pos d' i hi2] at h1
    have h2 : ¬ bitsN (atS ws s0 d'[j]).xs < bitsN (atS ws s0 d'[i]).xs := fun hlt => of_decide_eq_false h1 (show cfB _ _ < 0 by unfold cfB; omega)
    simpa using h2
  · exact own_putS h hsz
end Go.Proofs.Ythadgdmooacccaa
