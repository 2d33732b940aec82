/- 'ideals': the left, right and two-sided ideals of all elements, as sets of places. No condition. -/
import Derived.Test.YtilfamenadaboaaGreatIdl
namespace Go.Proofs.YtilfamenadaboaaGreat
set_option linter.unusedSimpArgs false
set_option linter.unusedVariables false
set_option linter.unusedSectionVars false
open Go.RowKit
theorem info_set : (Tryz.prog.info? 69).map (fun i => (i.zero, i.size, i.bytes)) = some (some (.agg #[.int .u64 0, .int .u64 0, .int .u64 0, .int .u64 0, .int .u64 0]), 5, 40) := by kernel_rfl
theorem mk_sets (W : World) {N : Nat} (hN : N ≤ 300) : ∃ w', (Instr.makeSlice 70 (.int .i64 (N : Int)) (.int .i64 (N : Int))).run Tryz.prog W = .ok (.slice (some ⟨W.heap.size, 0, none⟩) N N) w' ∧ SetsBox w' W.heap.size N (fun _ _ => False) ∧ Below W.heap.size W w' := by
  obtain ⟨ib, hib, hz0, hz1, hz2⟩ := info_parts info_set
  obtain ⟨w', hrun, r1, r2⟩ := run_make_full (P := Tryz.prog) W W.heap.size 70 69 ib _ 5 Tryz.underlying70 hib hz0 hz1 .i64 .i64 N (by rw [hz2]; omega) (by unfold maxLen; omega) (Nat.le_refl _)
  exact ⟨w', hrun, SetsBox.new r1 rfl, (Below.refl _ _).grown r2 (Nat.le_refl _) (fun k h => by cases h)⟩
theorem drew_size (w : World) : w.drew.heap.size = w.heap.size := rfl
section
variable {l : List Mp} {n : Int} {M : Nat} {w : World}
/-- what 'ideals' hands back -/
def IdPost (l : List Mp) (w : World) (e : Ending) (w' : World) : Prop := ∃ D gl gr gb, e = .returned (.pointer (some ⟨D, 0, none⟩)) ∧ IdMem w' D gl gr gb l.length (leftTo l.length (mpl l) l.length 0) (rightTo l.length (mpl l) l.length 0) (bothTo l.length (rightTo l.length (mpl l) l.length 0) (leftTo l.length (mpl l) l.length 0) l.length 0) ∧ Below w.heap.size w w'
theorem leftTo_lt (hc : Clo l n) {i k k' q : Nat} (hk : k' < l.length) (h : leftTo l.length (mpl l) i k k' q) : q < 320 := by
  obtain ⟨i', h1, _, rfl⟩ := h
  obtain ⟨_, _, _, _, _, h⟩ := mpl_at hc h1 hk
  have := hc.len
  omega
open Classical in
set_option maxHeartbeats 8000000 in
set_option maxRecDepth 100000 in
theorem ideals_c (hc : Clo l n) (mon : MonAt w M l n) :
    Calls Tryz.prog 57 #[.pointer (some ⟨M, 0, none⟩)] w (IdPost l w) := by
  obtain ⟨A, c, c0, see⟩ := mon.cellsOf
  have hlen := hc.len
  have HMP := Lib.hid (fun i k hi hk => mpl_at (i := i) (k := k) hc hi hk)
  have HLT := Lib.hid (fun i k k' q hk h => leftTo_lt (i := i) (k := k) (k' := k') (q := q) hc hk h)
  have HPR := Lib.hid (fun W (hW : MonAt W M l n) i k f g hi hk => product_c M l n i k f g W hW hc.len hi hk (hc.get hi).2 (hc.get hk).2)
  clear see
  unfold IdPost
  clear hc
  generalize l.length = N at *
  generalize mpl l = mp at *
  obtain ⟨R, hR⟩ : ∃ R, R = rightTo N mp N 0 := ⟨_, rfl⟩
  obtain ⟨L, hL⟩ : ∃ L, L = leftTo N mp N 0 := ⟨_, rfl⟩
  rw [← hR, ← hL]
  have HRR := Lib.hid hR
  have HLL := Lib.hid hL
  clear hR hL
  go_enter Tryz.func57, Tryz.ntmps57
  go_upto_region 2 with fail
  go_cut [4] from 15 to 22 (fun d wx => ∃ D gl gr gb, d = .pointer (some ⟨D, 0, none⟩) ∧ IdNe D gl gr gb ∧ IdMem wx D gl gr gb N (fun _ _ => False) (fun _ _ => False) (fun _ _ => False) ∧ Below w.heap.size w wx ∧ w.heap.size ≤ gl ∧ w.heap.size ≤ gr ∧ w.heap.size ≤ gb)
  case first =>
    clear HMP HLT HPR mon c0
    refine wp_region_headS 6 (fun w' => True) (by kernel_rfl) (by kernel_rfl) trivial (fun hHeld => ?_)
    simp only [List.drop]
    refine headH_takeS (i := 0) (v := ?_) 15 rfl (by kernel_rfl) (by kernel_rfl) (fun _ _ _ h => h) (Or.inl ⟨by rfl, ?_⟩) hHeld ?_
    rotate_left
    · intro w hSw
      (try dsimp only at hSw)
      go_simp
      try with_reducible rfl
    try simp only [Act.put, List.setIfInBounds_toArray, List.set_cons_zero, List.set_cons_succ]
    refine headH_takeS (i := 2) (v := ?_) 17 rfl (by kernel_rfl) (by kernel_rfl) (fun _ _ _ h => h) (Or.inl ⟨by rfl, ?_⟩) hHeld ?_
    rotate_left
    · intro w hSw
      (try dsimp only at hSw)
      go_simp
      try with_reducible rfl
    try simp only [Act.put, List.setIfInBounds_toArray, List.set_cons_zero, List.set_cons_succ]
    refine headH_takeS (i := 4) (v := ?_) 19 rfl (by kernel_rfl) (by kernel_rfl) (fun _ _ _ h => h) (Or.inl ⟨by rfl, ?_⟩) hHeld ?_
    rotate_left
    · intro w hSw
      (try dsimp only at hSw)
      go_simp
      try with_reducible rfl
    try simp only [Act.put, List.setIfInBounds_toArray, List.set_cons_zero, List.set_cons_succ]
    refine headH_all (rs := [1, 3, 5]) (by kernel_rfl) (by kernel_rfl) (headH_cons rfl (fun K hK => ?_) (headH_cons rfl (fun K hK => ?_) (headH_cons rfl (fun K hK => ?_) headH_nil)))
    · obtain ⟨w1, hrun1, b1, k1⟩ := mk_sets w.drew (N := N) (by omega)
      go_simp
      refine hK.out _ _ trivial (fun hHeldn => ?_)
      clear hK K hHeld
      have hHeld := hHeldn
      clear hHeldn
      try simp only [Act.put, List.setIfInBounds_toArray, List.set_cons_zero, List.set_cons_succ]
      refine headH_all (rs := [3, 5]) (by kernel_rfl) (by kernel_rfl) (headH_cons rfl (fun K hK => ?_) (headH_cons rfl (fun K hK => ?_) headH_nil))
      · obtain ⟨w2, hrun2, b2, k2⟩ := mk_sets w1 (N := N) (by omega)
        go_simp
        refine hK.out _ _ trivial (fun hHeldn => ?_)
        clear hK K hHeld
        have hHeld := hHeldn
        clear hHeldn
        try simp only [Act.put, List.setIfInBounds_toArray, List.set_cons_zero, List.set_cons_succ]
        refine headH_all (rs := [5]) (by kernel_rfl) (by kernel_rfl) (headH_cons rfl (fun K hK => ?_) headH_nil)
        obtain ⟨w3, hrun3, b3, k3⟩ := mk_sets w2 (N := N) (by omega)
        go_simp
        refine hK.out _ _ trivial (fun hHeldn => ?_)
        clear hK K hHeld
        have hHeld := hHeldn
        clear hHeldn
        try simp only [Act.put, List.setIfInBounds_toArray, List.set_cons_zero, List.set_cons_succ]
        refine headH_tail (by kernel_rfl) ?_
        clear hHeld hrun1 hrun2 hrun3
        have z1 := b1.lt
        have z2 := b2.lt
        have z3 := b3.lt
        have kk := kbelow w3 (.cells #[.slice (some ⟨w.drew.heap.size, 0, none⟩) N N, .slice (some ⟨w1.heap.size, 0, none⟩) N N, .slice (some ⟨w2.heap.size, 0, none⟩) N N] 72)
        have s3 := b3.below kk
        have s2 := (b2.below k3).below kk
        have s1 := ((b1.below k2).below k3).below kk
        have y1 := k1.size
        have y2 := k2.size
        have y3 := k3.size
        have e0 := drew_size w
        go_wp2
        go_meet
        case rel => exact ⟨w3.heap.size, _, _, _, rfl, ⟨by omega, by omega, by omega, by omega, by omega, by omega⟩, ⟨by simp [go_sem], by simp [go_sem], by simp [go_sem], s1, s2, s3⟩, btrans (bdr k1) (btrans k2 (btrans k3 kk)), by omega, by omega, by omega⟩
      · obtain ⟨w2, hrun2, b2, k2⟩ := mk_sets w1 (N := N) (by omega)
        go_simp
        refine hK.out _ _ trivial (fun hHeldn => ?_)
        clear hK K hHeld
        have hHeld := hHeldn
        clear hHeldn
        try simp only [Act.put, List.setIfInBounds_toArray, List.set_cons_zero, List.set_cons_succ]
        refine headH_all (rs := [3]) (by kernel_rfl) (by kernel_rfl) (headH_cons rfl (fun K hK => ?_) headH_nil)
        obtain ⟨w3, hrun3, b3, k3⟩ := mk_sets w2 (N := N) (by omega)
        go_simp
        refine hK.out _ _ trivial (fun hHeldn => ?_)
        clear hK K hHeld
        have hHeld := hHeldn
        clear hHeldn
        try simp only [Act.put, List.setIfInBounds_toArray, List.set_cons_zero, List.set_cons_succ]
        refine headH_tail (by kernel_rfl) ?_
        clear hHeld hrun1 hrun2 hrun3
        have z1 := b1.lt
        have z2 := b2.lt
        have z3 := b3.lt
        have kk := kbelow w3 (.cells #[.slice (some ⟨w.drew.heap.size, 0, none⟩) N N, .slice (some ⟨w2.heap.size, 0, none⟩) N N, .slice (some ⟨w1.heap.size, 0, none⟩) N N] 72)
        have s3 := b3.below kk
        have s2 := (b2.below k3).below kk
        have s1 := ((b1.below k2).below k3).below kk
        have y1 := k1.size
        have y2 := k2.size
        have y3 := k3.size
        have e0 := drew_size w
        go_wp2
        go_meet
        case rel => exact ⟨w3.heap.size, _, _, _, rfl, ⟨by omega, by omega, by omega, by omega, by omega, by omega⟩, ⟨by simp [go_sem], by simp [go_sem], by simp [go_sem], s1, s3, s2⟩, btrans (bdr k1) (btrans k2 (btrans k3 kk)), by omega, by omega, by omega⟩
    · obtain ⟨w1, hrun1, b1, k1⟩ := mk_sets w.drew (N := N) (by omega)
      go_simp
      refine hK.out _ _ trivial (fun hHeldn => ?_)
      clear hK K hHeld
      have hHeld := hHeldn
      clear hHeldn
      try simp only [Act.put, List.setIfInBounds_toArray, List.set_cons_zero, List.set_cons_succ]
      refine headH_all (rs := [1, 5]) (by kernel_rfl) (by kernel_rfl) (headH_cons rfl (fun K hK => ?_) (headH_cons rfl (fun K hK => ?_) headH_nil))
      · obtain ⟨w2, hrun2, b2, k2⟩ := mk_sets w1 (N := N) (by omega)
        go_simp
        refine hK.out _ _ trivial (fun hHeldn => ?_)
        clear hK K hHeld
        have hHeld := hHeldn
        clear hHeldn
        try simp only [Act.put, List.setIfInBounds_toArray, List.set_cons_zero, List.set_cons_succ]
        refine headH_all (rs := [5]) (by kernel_rfl) (by kernel_rfl) (headH_cons rfl (fun K hK => ?_) headH_nil)
        obtain ⟨w3, hrun3, b3, k3⟩ := mk_sets w2 (N := N) (by omega)
        go_simp
        refine hK.out _ _ trivial (fun hHeldn => ?_)
        clear hK K hHeld
        have hHeld := hHeldn
        clear hHeldn
        try simp only [Act.put, List.setIfInBounds_toArray, List.set_cons_zero, List.set_cons_succ]
        refine headH_tail (by kernel_rfl) ?_
        clear hHeld hrun1 hrun2 hrun3
        have z1 := b1.lt
        have z2 := b2.lt
        have z3 := b3.lt
        have kk := kbelow w3 (.cells #[.slice (some ⟨w1.heap.size, 0, none⟩) N N, .slice (some ⟨w.drew.heap.size, 0, none⟩) N N, .slice (some ⟨w2.heap.size, 0, none⟩) N N] 72)
        have s3 := b3.below kk
        have s2 := (b2.below k3).below kk
        have s1 := ((b1.below k2).below k3).below kk
        have y1 := k1.size
        have y2 := k2.size
        have y3 := k3.size
        have e0 := drew_size w
        go_wp2
        go_meet
        case rel => exact ⟨w3.heap.size, _, _, _, rfl, ⟨by omega, by omega, by omega, by omega, by omega, by omega⟩, ⟨by simp [go_sem], by simp [go_sem], by simp [go_sem], s2, s1, s3⟩, btrans (bdr k1) (btrans k2 (btrans k3 kk)), by omega, by omega, by omega⟩
      · obtain ⟨w2, hrun2, b2, k2⟩ := mk_sets w1 (N := N) (by omega)
        go_simp
        refine hK.out _ _ trivial (fun hHeldn => ?_)
        clear hK K hHeld
        have hHeld := hHeldn
        clear hHeldn
        try simp only [Act.put, List.setIfInBounds_toArray, List.set_cons_zero, List.set_cons_succ]
        refine headH_all (rs := [1]) (by kernel_rfl) (by kernel_rfl) (headH_cons rfl (fun K hK => ?_) headH_nil)
        obtain ⟨w3, hrun3, b3, k3⟩ := mk_sets w2 (N := N) (by omega)
        go_simp
        refine hK.out _ _ trivial (fun hHeldn => ?_)
        clear hK K hHeld
        have hHeld := hHeldn
        clear hHeldn
        try simp only [Act.put, List.setIfInBounds_toArray, List.set_cons_zero, List.set_cons_succ]
        refine headH_tail (by kernel_rfl) ?_
        clear hHeld hrun1 hrun2 hrun3
        have z1 := b1.lt
        have z2 := b2.lt
        have z3 := b3.lt
        have kk := kbelow w3 (.cells #[.slice (some ⟨w2.heap.size, 0, none⟩) N N, .slice (some ⟨w.drew.heap.size, 0, none⟩) N N, .slice (some ⟨w1.heap.size, 0, none⟩) N N] 72)
        have s3 := b3.below kk
        have s2 := (b2.below k3).below kk
        have s1 := ((b1.below k2).below k3).below kk
        have y1 := k1.size
        have y2 := k2.size
        have y3 := k3.size
        have e0 := drew_size w
        go_wp2
        go_meet
        case rel => exact ⟨w3.heap.size, _, _, _, rfl, ⟨by omega, by omega, by omega, by omega, by omega, by omega⟩, ⟨by simp [go_sem], by simp [go_sem], by simp [go_sem], s3, s1, s2⟩, btrans (bdr k1) (btrans k2 (btrans k3 kk)), by omega, by omega, by omega⟩
    · obtain ⟨w1, hrun1, b1, k1⟩ := mk_sets w.drew (N := N) (by omega)
      go_simp
      refine hK.out _ _ trivial (fun hHeldn => ?_)
      clear hK K hHeld
      have hHeld := hHeldn
      clear hHeldn
      try simp only [Act.put, List.setIfInBounds_toArray, List.set_cons_zero, List.set_cons_succ]
      refine headH_all (rs := [1, 3]) (by kernel_rfl) (by kernel_rfl) (headH_cons rfl (fun K hK => ?_) (headH_cons rfl (fun K hK => ?_) headH_nil))
      · obtain ⟨w2, hrun2, b2, k2⟩ := mk_sets w1 (N := N) (by omega)
        go_simp
        refine hK.out _ _ trivial (fun hHeldn => ?_)
        clear hK K hHeld
        have hHeld := hHeldn
        clear hHeldn
        try simp only [Act.put, List.setIfInBounds_toArray, List.set_cons_zero, List.set_cons_succ]
        refine headH_all (rs := [3]) (by kernel_rfl) (by kernel_rfl) (headH_cons rfl (fun K hK => ?_) headH_nil)
        obtain ⟨w3, hrun3, b3, k3⟩ := mk_sets w2 (N := N) (by omega)
        go_simp
        refine hK.out _ _ trivial (fun hHeldn => ?_)
        clear hK K hHeld
        have hHeld := hHeldn
        clear hHeldn
        try simp only [Act.put, List.setIfInBounds_toArray, List.set_cons_zero, List.set_cons_succ]
        refine headH_tail (by kernel_rfl) ?_
        clear hHeld hrun1 hrun2 hrun3
        have z1 := b1.lt
        have z2 := b2.lt
        have z3 := b3.lt
        have kk := kbelow w3 (.cells #[.slice (some ⟨w1.heap.size, 0, none⟩) N N, .slice (some ⟨w2.heap.size, 0, none⟩) N N, .slice (some ⟨w.drew.heap.size, 0, none⟩) N N] 72)
        have s3 := b3.below kk
        have s2 := (b2.below k3).below kk
        have s1 := ((b1.below k2).below k3).below kk
        have y1 := k1.size
        have y2 := k2.size
        have y3 := k3.size
        have e0 := drew_size w
        go_wp2
        go_meet
        case rel => exact ⟨w3.heap.size, _, _, _, rfl, ⟨by omega, by omega, by omega, by omega, by omega, by omega⟩, ⟨by simp [go_sem], by simp [go_sem], by simp [go_sem], s2, s3, s1⟩, btrans (bdr k1) (btrans k2 (btrans k3 kk)), by omega, by omega, by omega⟩
      · obtain ⟨w2, hrun2, b2, k2⟩ := mk_sets w1 (N := N) (by omega)
        go_simp
        refine hK.out _ _ trivial (fun hHeldn => ?_)
        clear hK K hHeld
        have hHeld := hHeldn
        clear hHeldn
        try simp only [Act.put, List.setIfInBounds_toArray, List.set_cons_zero, List.set_cons_succ]
        refine headH_all (rs := [1]) (by kernel_rfl) (by kernel_rfl) (headH_cons rfl (fun K hK => ?_) headH_nil)
        obtain ⟨w3, hrun3, b3, k3⟩ := mk_sets w2 (N := N) (by omega)
        go_simp
        refine hK.out _ _ trivial (fun hHeldn => ?_)
        clear hK K hHeld
        have hHeld := hHeldn
        clear hHeldn
        try simp only [Act.put, List.setIfInBounds_toArray, List.set_cons_zero, List.set_cons_succ]
        refine headH_tail (by kernel_rfl) ?_
        clear hHeld hrun1 hrun2 hrun3
        have z1 := b1.lt
        have z2 := b2.lt
        have z3 := b3.lt
        have kk := kbelow w3 (.cells #[.slice (some ⟨w2.heap.size, 0, none⟩) N N, .slice (some ⟨w1.heap.size, 0, none⟩) N N, .slice (some ⟨w.drew.heap.size, 0, none⟩) N N] 72)
        have s3 := b3.below kk
        have s2 := (b2.below k3).below kk
        have s1 := ((b1.below k2).below k3).below kk
        have y1 := k1.size
        have y2 := k2.size
        have y3 := k3.size
        have e0 := drew_size w
        go_wp2
        go_meet
        case rel => exact ⟨w3.heap.size, _, _, _, rfl, ⟨by omega, by omega, by omega, by omega, by omega, by omega⟩, ⟨by simp [go_sem], by simp [go_sem], by simp [go_sem], s3, s2, s1⟩, btrans (bdr k1) (btrans k2 (btrans k3 kk)), by omega, by omega, by omega⟩
  case rest =>
    obtain ⟨D, gl, gr, gb, rfl, ne, mem0, hb0, nl, nr, nb⟩ := hcut
    have HNE := Lib.hid ne
    clear ne c0
    go_wp2
    go_loopw [24] (fun iv wr => ∃ i : Nat, i ≤ N ∧ iv = .int .i64 i ∧ IdMem wr D gl gr gb N (leftTo N mp i 0) (rightTo N mp i 0) (fun _ _ => False) ∧ Below w.heap.size w wr) (fun iv _ => N - (intOf iv).toNat)
    case atStart => exact ⟨0, by omega, rfl, mem0.congr (fun i _ q => (leftTo_zero i q).symm) (fun i _ q => (rightTo_zero i q).symm) (fun _ _ _ => Iff.rfl), hb0⟩
    case round =>
      clear mem0 hb0
      obtain ⟨i, hi, rfl, mem, hb⟩ := hrel
      have l0 : (0 : Int) ≤ i := by omega
      by_cases hlt : i < N
      · have l1 : (i : Int) < N := by omega
        go_wp2
        go_loopw [28] (fun kv wr => ∃ k : Nat, k ≤ N ∧ kv = .int .i64 k ∧ IdMem wr D gl gr gb N (leftTo N mp i k) (rightTo N mp i k) (fun _ _ => False) ∧ Below w.heap.size w wr) (fun kv _ => N - (intOf kv).toNat)
        case atStart => exact ⟨0, by omega, rfl, mem, hb⟩
        case round =>
          clear mem hb
          obtain ⟨k, hk, rfl, mem, hb⟩ := hrel
          have m0 : (0 : Int) ≤ k := by omega
          by_cases hltk : k < N
          · have m1 : (k : Int) < N := by omega
            obtain ⟨f, g, hf, hg, hq, hq2⟩ := HMP.out i k hlt hltk
            have h1 := HPR.out wr (mon.below hb) i k f g hf hg
            rw [hq] at h1
            obtain ⟨q, hqq⟩ : ∃ q, q = mp i k := ⟨_, rfl⟩
            rw [← hqq] at h1 hq2
            have HQ := Lib.hid hqq
            clear hf hg hq hqq
            go_wp2_with fail
            refine h1.mono ?_
            rintro e w2 ⟨rfl, hb2⟩
            have mem2 := mem.below hb2
            have p0 := mem2.d0
            have p1 := mem2.d1
            have h2 := put_c gr N i q _ w2 mem2.sr hlt (by omega)
            go_wp2_with fail
            refine h2.mono ?_
            rintro e w3 ⟨rfl, hk3, hs3⟩
            have mem3 := mem2.putR HNE.out hk3 hs3
            clear p0 p1
            have p0 := mem3.d0
            have p1 := mem3.d1
            have h3 := put_c gl N k q _ w3 mem3.sl hltk (by omega)
            go_wp2_with fail
            refine h3.mono ?_
            rintro e w4 ⟨rfl, hk4, hs4⟩
            have mem4 : IdMem w4 D gl gr gb N (leftTo N mp i (k + 1)) (rightTo N mp i (k + 1)) (fun _ _ => False) := (mem3.putL HNE.out hk4 hs4).congr (fun i' _ q' => by have := leftTo_step (mp := mp) (k := k) hlt i' q'; rw [← HQ.out] at this; exact this) (fun i' _ q' => by have := rightTo_step (mp := mp) (i := i) hltk i' q'; rw [← HQ.out] at this; exact this) (fun _ _ _ => Iff.rfl)
            have hb4 : Below w.heap.size w w4 := ((hb.trans (hb2.mono hb.size)).trans (hk3.below (by have := hb.size; have := hb2.size; omega) (fun j hj => by show j ≠ gr; omega))).trans (hk4.below (by have := hb.size; have := hb2.size; have := hk3.size; omega) (fun j hj => by show j ≠ gl; omega))
            clear p0 p1 h2 h3
            go_wp2
            go_roundw
            case rel => exact ⟨k + 1, by omega, by go_num, mem4, hb4⟩
            case measure => simp [intOf]; omega
          · have eN : N = k := by omega
            subst eN
            go_wp2
            go_roundw
            case rel => exact ⟨i + 1, by omega, by go_num, mem.congr (fun i' hi' q => leftTo_row hi' i q) (fun i' _ q => rightTo_row i i' q) (fun _ _ _ => Iff.rfl), hb⟩
            case measure => simp [intOf]; omega
      · have eN : N = i := by omega
        subst eN
        rw [← HRR.out, ← HLL.out] at mem
        have mem1 := mem.congr (fun _ _ _ => Iff.rfl) (fun _ _ _ => Iff.rfl) (fun i' _ q => (bothTo_zero (N := N) (R := R) (L := L) i' q).symm)
        clear mem
        have HL := Lib.hid (fun k q (hk : k < N) (h : L k q) => HLT.out N 0 k q hk (by rw [← HLL.out]; exact h))
        go_wp2
        go_loopw [54] (fun iv wr => ∃ i : Nat, i ≤ N ∧ iv = .int .i64 i ∧ IdMem wr D gl gr gb N L R (bothTo N R L i 0) ∧ Below w.heap.size w wr) (fun iv _ => N - (intOf iv).toNat)
        case atStart => exact ⟨0, by omega, rfl, mem1, hb⟩
        case round =>
          clear mem1 hb
          obtain ⟨i, hi, rfl, mem, hb⟩ := hrel
          have l0 : (0 : Int) ≤ i := by omega
          by_cases hlt : i < N
          · have l1 : (i : Int) < N := by omega
            go_wp2
            go_loopw [58] (fun kv wr => ∃ k : Nat, k ≤ N ∧ kv = .int .i64 k ∧ IdMem wr D gl gr gb N L R (bothTo N R L i k) ∧ Below w.heap.size w wr) (fun kv _ => N - (intOf kv).toNat)
            case atStart => exact ⟨0, by omega, rfl, mem, hb⟩
            case round =>
              clear mem hb
              obtain ⟨k, hk, rfl, mem, hb⟩ := hrel
              have m0 : (0 : Int) ≤ k := by omega
              by_cases hltk : k < N
              · have m1 : (k : Int) < N := by omega
                have p1 := mem.d1
                have h1 := has_c gr (i * 5) k (R i) wr (mem.sr.at_ i hlt) (by omega)
                by_cases hR : R i k
                · rw [decide_eq_true hR] at h1
                  have HR := Lib.hid hR
                  clear hR
                  go_wp2_with fail
                  refine h1.mono ?_
                  rintro e w2 ⟨rfl, hb2⟩
                  have mem2 := mem.below hb2
                  clear p1 h1
                  have p0 := mem2.d0
                  have p2 := mem2.d2
                  obtain ⟨y, hy, y0, y1, y2, y3, y4⟩ := (mem2.sl.at_ k hltk).w5
                  have h2 := fun W hW => add_c gb N i (bothTo N R L i k) (L k) y W hW hlt hy
                  have mem3 : IdMem w2.drew D gl gr gb N L R (bothTo N R L i k) := mem2.below (bdr (Below.refl _ _))
                  go_wp2
                  go_still_tail 13, (by kernel_rfl)
                  change wpList _ _ _ _ _ w2.drew
                  go_wp2_with fail
                  refine (h2 _ mem3.sb).mono ?_
                  rintro e w4 ⟨rfl, hk4, hs4⟩
                  have mem4 : IdMem w4 D gl gr gb N L R (bothTo N R L i (k + 1)) := (mem3.putB HNE.out hk4 hs4).congr (fun _ _ _ => Iff.rfl) (fun _ _ _ => Iff.rfl) (fun i' _ q => bothTo_yes hltk HR.out (fun q hq => HL.out k q hltk hq) i' q)
                  have hb4 : Below w.heap.size w w4 := (hb.trans (hb2.mono hb.size)).trans (Below.trans (bdrewN (Below.refl _ _) 1) (hk4.below (by have := hb.size; have := hb2.size; show w.heap.size ≤ w2.heap.size; omega) (fun j hj => by show j ≠ gb; omega)))
                  clear p0 p2 y0 y1 y2 y3 y4 h2
                  go_wp2
                  go_roundw
                  case rel => exact ⟨k + 1, by omega, by go_num, mem4, hb4⟩
                  case measure => simp [intOf]; omega
                · rw [decide_eq_false hR] at h1
                  have HR := Lib.hid hR
                  clear hR
                  go_wp2_with fail
                  refine h1.mono ?_
                  rintro e w2 ⟨rfl, hb2⟩
                  have mem2 := (mem.below hb2).congr (fun _ _ _ => Iff.rfl) (fun _ _ _ => Iff.rfl) (fun i' _ q => bothTo_no HR.out i' q)
                  clear p1 h1
                  go_wp2
                  go_roundw
                  case rel => exact ⟨k + 1, by omega, by go_num, mem2, hb.trans (hb2.mono hb.size)⟩
                  case measure => simp [intOf]; omega
              · obtain rfl : k = N := by omega
                go_wp2
                go_roundw
                case rel => exact ⟨i + 1, by omega, by go_num, mem.congr (fun _ _ _ => Iff.rfl) (fun _ _ _ => Iff.rfl) (fun i' _ q => bothTo_row i i' q), hb⟩
                case measure => simp [intOf]; omega
          · obtain rfl : i = N := by omega
            go_wp2
            go_returns
            exact ⟨D, gl, gr, gb, rfl, mem, hb⟩
end
end Go.Proofs.YtilfamenadaboaaGreat
