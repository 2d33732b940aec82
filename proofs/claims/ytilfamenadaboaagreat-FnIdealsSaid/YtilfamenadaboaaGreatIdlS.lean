/- The reference's ideals: products put in order. No condition. -/
import Derived.Test.YtilfamenadaboaaGreatRegMon
import Derived.Test.YtilfamenadaboaaGreatBase
namespace Go.Proofs.YtilfamenadaboaaGreat
set_option linter.unusedSimpArgs false
set_option linter.unusedVariables false
set_option linter.unusedSectionVars false
open Go.RowKit
def rightM (l : List Mp) (f : Mp) : List Mp := sortM (l.map fun g => mulM f g)
def leftM (l : List Mp) (f : Mp) : List Mp := sortM (l.map fun g => mulM g f)
def idealM (l : List Mp) (f : Mp) : List Mp := sortM ((leftM l f).flatMap (rightM l))
theorem sortM_snoc (l : List Mp) (f : Mp) : sortM (l ++ [f]) = putM (sortM l) f := by
  unfold sortM
  rw [List.foldl_append]
  rfl
section
variable {l : List Mp} {n : Int}
/-- elements put in order -/
theorem Clo.sorted (hc : Clo l n) {L : List Mp} (h : ∀ g ∈ L, g ∈ l) : AscM (sortM L) ∧ (∀ g, g ∈ sortM L ↔ g ∈ L) ∧ (∀ g ∈ sortM L, MpN g n) ∧ (sortM L).length ≤ 300 := by
  have hN : ∀ g ∈ L, MpN g n := fun g hg => hc.all g (h g hg)
  have h1 := sortM_asc hN
  have h2 : ∀ g, g ∈ sortM L ↔ g ∈ L := fun g => mem_sortM hN
  exact ⟨h1, h2, fun g hg => hN g ((h2 g).1 hg), Nat.le_trans (h1.nodup.length_le_of_subset fun x hx => h x ((h2 x).1 hx)) hc.len⟩
theorem Clo.rights (hc : Clo l n) {f : Mp} (hf : f ∈ l) : ∀ g ∈ l.map (fun g => mulM f g), g ∈ l := fun g hg => by
  obtain ⟨h, hh, rfl⟩ := List.mem_map.1 hg
  exact hc.mul f hf h hh
theorem Clo.lefts (hc : Clo l n) {f : Mp} (hf : f ∈ l) : ∀ g ∈ l.map (fun g => mulM g f), g ∈ l := fun g hg => by
  obtain ⟨h, hh, rfl⟩ := List.mem_map.1 hg
  exact hc.mul h hh f hf
theorem Clo.right (hc : Clo l n) {f : Mp} (hf : f ∈ l) : ∀ g ∈ rightM l f, g ∈ l := fun g hg => hc.rights hf g (((hc.sorted (hc.rights hf)).2.1 g).1 hg)
theorem Clo.left (hc : Clo l n) {f : Mp} (hf : f ∈ l) : ∀ g ∈ leftM l f, g ∈ l := fun g hg => hc.lefts hf g (((hc.sorted (hc.lefts hf)).2.1 g).1 hg)
theorem Clo.flat (hc : Clo l n) {f : Mp} (hf : f ∈ l) : ∀ g ∈ (leftM l f).flatMap (rightM l), g ∈ l := fun g hg => by
  obtain ⟨h, hh, hg⟩ := List.mem_flatMap.1 hg
  exact hc.right (hc.left hf h hh) g hg

set_option maxHeartbeats 4000000 in
set_option maxRecDepth 100000 in
theorem l04Right_c (A : Option Addr) (c : Nat) (f : Mp) (w : World) (hs : SeeMaps w A l) (hc : Clo l n) (hf : f ∈ l) :
    Calls Tryz.prog 60 #[.slice A l.length c, .agg #[.int .i64 f.p, .int .i64 f.a, .int .i64 f.b, .int .i64 f.c, .int .i64 f.d, .int .i64 f.e]] w fun e w' => ∃ v, e = .returned v ∧ OwnMaps w' w.heap.size v (rightM l f) ∧ Below w.heap.size w w' := by
  have fN := hc.all f hf
  have hlen := hc.len
  have kk := kbelow w (.cells #[.int .i64 f.p, .int .i64 f.a, .int .i64 f.b, .int .i64 f.c, .int .i64 f.d, .int .i64 f.e] 27)
  have bt := MpBox.new (w := w) f 27 rfl
  have see := hs.below kk
  have HC := Lib.hid hc
  have HF := Lib.hid hf
  clear hs hc hf
  go_enter Tryz.func60, Tryz.ntmps60
  go_wp2
  obtain ⟨W1, hW1⟩ : ∃ W1, W1 = w.alloc (.cells #[.int .i64 f.p, .int .i64 f.a, .int .i64 f.b, .int .i64 f.c, .int .i64 f.d, .int .i64 f.e] 27) := ⟨_, rfl⟩
  have own0 : OwnMaps (W1.alloc (.cells #[] 27)) W1.heap.size (.slice (some ⟨w.heap.size + 1, 0, none⟩) 0 0) [] := by
    have h1 := World.ownsRow_made (e := 27) (size := 6) W1 #[] 0 (Nat.le_refl _) (by decide) rfl
    have h2 : (W1.alloc (.cells #[] 27)).ownsRow W1.heap.size 27 6 (.slice (some ⟨w.heap.size + 1, 0, none⟩) 0 0) 0 [] := by rw [hW1] at h1 ⊢; simpa using h1
    exact ⟨[], h2, ⟨rfl, fun k m hk => by simp at hk⟩⟩
  rw [← hW1] at kk bt see ⊢
  clear hW1
  have kk2 := kbelow W1 (.cells #[] 27)
  obtain ⟨L, hL⟩ : ∃ L, L = l.map (fun g => mulM f g) := ⟨_, rfl⟩
  have hLl : ∀ g ∈ L, g ∈ l := by rw [hL]; exact HC.out.rights HF.out
  have HLL := Lib.hid hLl
  have hLg : ∀ k g, l[k]? = some g → L[k]? = some (mulM f g) := fun k g hk => by rw [hL, List.getElem?_map, hk]; rfl
  have HLG := Lib.hid hLg
  have HLN := Lib.hid (show L.length = l.length by rw [hL, List.length_map])
  have HRES := Lib.hid (show rightM l f = sortM L by rw [hL]; rfl)
  clear hL hLl hLg
  go_loopw [6, 5] (fun i v wr => ∃ (k gq cq : Nat), k ≤ l.length ∧ i = .int .i64 k ∧ v = .slice (some ⟨gq, 0, none⟩) (sortM (L.take k)).length cq ∧ OwnMaps wr W1.heap.size v (sortM (L.take k)) ∧ Below W1.heap.size W1 wr) (fun i _ _ => l.length - (intOf i).toNat)
  case atStart => exact ⟨0, _, _, Nat.zero_le _, rfl, rfl, own0, kk2⟩
  case round =>
    clear own0 kk2
    obtain ⟨k, gq, cq, hk, rfl, rfl, own, hb⟩ := hrel
    by_cases hlt : k < l.length
    · obtain ⟨bl, ol, g, rfl, hg, gg⟩ := (see.below hb).at_ hlt
      have l0 : (0 : Int) ≤ k := by omega
      have l1 : (k : Int) < l.length := by omega
      have gN := (HC.out.get hg).2
      obtain ⟨g0, g1, g2, g3, g4, g5⟩ := gg
      obtain ⟨t0, t1, t2, t3, t4, t5⟩ := (bt.below hb).at.cells0
      have hT : ∀ g ∈ L.take k, g ∈ l := fun g hg => HLL.out g (List.mem_of_mem_take hg)
      obtain ⟨s1, s2, s3, s4⟩ := HC.out.sorted hT
      have hLk := HLG.out k g hg
      obtain ⟨x, hx⟩ : ∃ x, x = mulM f g := ⟨_, rfl⟩
      have hxm : x ∈ l := by rw [← hx] at hLk; exact HLL.out x (List.mem_of_getElem? hLk)
      have htm := fun W => l01Times_c f g n W (by assumption) (by assumption)
      rw [← hx] at hLk htm
      have hst := sortM_take hLk
      have HTM := Lib.hid htm
      have hput := fun W (hW : Below wr.heap.size wr W) => l01Put_c W1.heap.size gq cq (sortM (L.take k)) n x W (own.below hW) (by have := hb.size; have := hW.size; omega) s1 s3 s4 (HC.out.all x hxm)
      rw [← hst] at hput
      have hpos : 0 < (sortM (L.take (k + 1))).length := by
        rw [hst]
        exact List.length_pos_of_mem (mem_putM.2 (.inr rfl))
      have HPUT := Lib.hid hput
      have HPOS := Lib.hid hpos
      clear hput hpos hst htm hLk hx hxm s1 s2 s3 s4 hT own hg
      generalize hS2 : sortM (L.take (k + 1)) = S2 at *
      have HS2 := Lib.hid hS2
      clear hS2
      generalize sortM (L.take k) = S1 at *
      go_wp2
      refine wp_region_headS 7 (fun w' => w'.cell? ⟨w.heap.size, 0, none⟩ = some (.int .i64 f.p) ∧ w'.cell? ⟨w.heap.size, 1, none⟩ = some (.int .i64 f.a) ∧ w'.cell? ⟨w.heap.size, 2, none⟩ = some (.int .i64 f.b) ∧ w'.cell? ⟨w.heap.size, 3, none⟩ = some (.int .i64 f.c) ∧ w'.cell? ⟨w.heap.size, 4, none⟩ = some (.int .i64 f.d) ∧ w'.cell? ⟨w.heap.size, 5, none⟩ = some (.int .i64 f.e) ∧ w'.cell? ⟨bl, ol + k * 6, none⟩ = some (.int .i64 g.p) ∧ w'.cell? ⟨bl, ol + k * 6 + 1, none⟩ = some (.int .i64 g.a) ∧ w'.cell? ⟨bl, ol + k * 6 + 2, none⟩ = some (.int .i64 g.b) ∧ w'.cell? ⟨bl, ol + k * 6 + 3, none⟩ = some (.int .i64 g.c) ∧ w'.cell? ⟨bl, ol + k * 6 + 4, none⟩ = some (.int .i64 g.d) ∧ w'.cell? ⟨bl, ol + k * 6 + 5, none⟩ = some (.int .i64 g.e)) (by kernel_rfl) (by kernel_rfl) ⟨t0, t1, t2, t3, t4, t5, g0, g1, g2, g3, g4, g5⟩ (fun hHeld => ?_)
      simp only [List.drop]
      refine headH_takeS (i := 0) (v := ?_) 14 rfl (by kernel_rfl) (by kernel_rfl) (fun _ _ _ h => h) (Or.inl ⟨by rfl, ?_⟩) hHeld ?_
      rotate_left
      · intro w hSw
        (try dsimp only at hSw)
        go_simp
        try with_reducible rfl
      try simp only [Act.put, List.setIfInBounds_toArray, List.set_cons_zero, List.set_cons_succ]
      refine headH_takeS (i := 1) (v := ?_) 15 rfl (by kernel_rfl) (by kernel_rfl) (fun _ _ _ h => h) (Or.inl ⟨by rfl, ?_⟩) hHeld ?_
      rotate_left
      · intro w hSw
        (try dsimp only at hSw)
        go_simp
        try with_reducible rfl
      try simp only [Act.put, List.setIfInBounds_toArray, List.set_cons_zero, List.set_cons_succ]
      refine headH_takeS (i := 2) (v := ?_) 16 rfl (by kernel_rfl) (by kernel_rfl) (fun _ _ _ h => h) (Or.inl ⟨by rfl, ?_⟩) hHeld ?_
      rotate_left
      · intro w hSw
        (try dsimp only at hSw)
        go_simp
        try with_reducible rfl
      try simp only [Act.put, List.setIfInBounds_toArray, List.set_cons_zero, List.set_cons_succ]
      refine headH_takeS (i := 3) (v := ?_) 17 rfl (by kernel_rfl) (by kernel_rfl) (fun _ _ _ h => h) (Or.inl ⟨by rfl, ?_⟩) hHeld ?_
      rotate_left
      · intro w hSw
        (try dsimp only at hSw)
        go_simp
        try with_reducible rfl
      try simp only [Act.put, List.setIfInBounds_toArray, List.set_cons_zero, List.set_cons_succ]
      refine headH_takeS (i := 4) (v := ?_) 18 rfl (by kernel_rfl) (by kernel_rfl) (fun _ _ _ h => h) (Or.inl ⟨by rfl, ?_⟩) hHeld ?_
      rotate_left
      · intro w hSw
        (try dsimp only at hSw)
        go_simp
        try with_reducible rfl
      try simp only [Act.put, List.setIfInBounds_toArray, List.set_cons_zero, List.set_cons_succ]
      refine headH_takeS (i := 5) (v := ?_) 19 rfl (by kernel_rfl) (by kernel_rfl) (fun _ _ _ h => h) (Or.inl ⟨by rfl, ?_⟩) hHeld ?_
      rotate_left
      · intro w hSw
        (try dsimp only at hSw)
        go_simp
        try with_reducible rfl
      try simp only [Act.put, List.setIfInBounds_toArray, List.set_cons_zero, List.set_cons_succ]
      refine headH_all (rs := [6]) (by kernel_rfl) (by kernel_rfl) (headH_cons rfl (fun K hK => ?_) headH_nil)
      go_simp
      refine (HTM.out _).mono ?_
      rintro e w2 ⟨rfl, hb2⟩
      try go_simp
      replace hb2 := bdr hb2
      refine hK.out _ _ ⟨bcell hb2 t0, bcell hb2 t1, bcell hb2 t2, bcell hb2 t3, bcell hb2 t4, bcell hb2 t5, bcell hb2 g0, bcell hb2 g1, bcell hb2 g2, bcell hb2 g3, bcell hb2 g4, bcell hb2 g5⟩ (fun hHeldn => ?_)
      clear hK K hHeld
      have hHeld := hHeldn
      clear hHeldn
      try simp only [Act.put, List.setIfInBounds_toArray, List.set_cons_zero, List.set_cons_succ]
      refine headH_tail (by kernel_rfl) ?_
      clear hHeld t0 t1 t2 t3 t4 t5 g0 g1 g2 g3 g4 g5
      go_wp2_with fail
      refine (HPUT.out _ hb2).mono ?_
      rintro e w4 ⟨v4, rfl, hown4, _, hb4⟩
      obtain ⟨gq4, c4, rfl, _, _⟩ := hown4.block HPOS.out
      go_wp2
      go_roundw
      case rel => exact ⟨k + 1, gq4, c4, by omega, by go_num, by rw [HS2.out], by rw [HS2.out]; exact hown4, btrans hb (btrans hb2 hb4)⟩
      case measure => simp [intOf]; omega
    · obtain rfl : k = l.length := by omega
      rw [List.take_of_length_le (Nat.le_of_eq HLN.out)] at own ⊢
      go_wp2
      go_returns
      rw [HRES.out]
      exact ⟨_, rfl, own.mono kk.size, btrans kk hb⟩
set_option maxHeartbeats 4000000 in
set_option maxRecDepth 100000 in
theorem l04Left_c (A : Option Addr) (c : Nat) (f : Mp) (w : World) (hs : SeeMaps w A l) (hc : Clo l n) (hf : f ∈ l) :
    Calls Tryz.prog 62 #[.slice A l.length c, .agg #[.int .i64 f.p, .int .i64 f.a, .int .i64 f.b, .int .i64 f.c, .int .i64 f.d, .int .i64 f.e]] w fun e w' => ∃ v, e = .returned v ∧ OwnMaps w' w.heap.size v (leftM l f) ∧ Below w.heap.size w w' := by
  have fN := hc.all f hf
  have hlen := hc.len
  have kk := kbelow w (.cells #[.int .i64 f.p, .int .i64 f.a, .int .i64 f.b, .int .i64 f.c, .int .i64 f.d, .int .i64 f.e] 27)
  have bt := MpBox.new (w := w) f 27 rfl
  have see := hs.below kk
  have HC := Lib.hid hc
  have HF := Lib.hid hf
  clear hs hc hf
  go_enter Tryz.func62, Tryz.ntmps62
  go_wp2
  obtain ⟨W1, hW1⟩ : ∃ W1, W1 = w.alloc (.cells #[.int .i64 f.p, .int .i64 f.a, .int .i64 f.b, .int .i64 f.c, .int .i64 f.d, .int .i64 f.e] 27) := ⟨_, rfl⟩
  have own0 : OwnMaps (W1.alloc (.cells #[] 27)) W1.heap.size (.slice (some ⟨w.heap.size + 1, 0, none⟩) 0 0) [] := by
    have h1 := World.ownsRow_made (e := 27) (size := 6) W1 #[] 0 (Nat.le_refl _) (by decide) rfl
    have h2 : (W1.alloc (.cells #[] 27)).ownsRow W1.heap.size 27 6 (.slice (some ⟨w.heap.size + 1, 0, none⟩) 0 0) 0 [] := by rw [hW1] at h1 ⊢; simpa using h1
    exact ⟨[], h2, ⟨rfl, fun k m hk => by simp at hk⟩⟩
  rw [← hW1] at kk bt see ⊢
  clear hW1
  have kk2 := kbelow W1 (.cells #[] 27)
  obtain ⟨L, hL⟩ : ∃ L, L = l.map (fun g => mulM g f) := ⟨_, rfl⟩
  have hLl : ∀ g ∈ L, g ∈ l := by rw [hL]; exact HC.out.lefts HF.out
  have HLL := Lib.hid hLl
  have hLg : ∀ k g, l[k]? = some g → L[k]? = some (mulM g f) := fun k g hk => by rw [hL, List.getElem?_map, hk]; rfl
  have HLG := Lib.hid hLg
  have HLN := Lib.hid (show L.length = l.length by rw [hL, List.length_map])
  have HRES := Lib.hid (show leftM l f = sortM L by rw [hL]; rfl)
  clear hL hLl hLg
  go_loopw [6, 5] (fun i v wr => ∃ (k gq cq : Nat), k ≤ l.length ∧ i = .int .i64 k ∧ v = .slice (some ⟨gq, 0, none⟩) (sortM (L.take k)).length cq ∧ OwnMaps wr W1.heap.size v (sortM (L.take k)) ∧ Below W1.heap.size W1 wr) (fun i _ _ => l.length - (intOf i).toNat)
  case atStart => exact ⟨0, _, _, Nat.zero_le _, rfl, rfl, own0, kk2⟩
  case round =>
    clear own0 kk2
    obtain ⟨k, gq, cq, hk, rfl, rfl, own, hb⟩ := hrel
    by_cases hlt : k < l.length
    · obtain ⟨bl, ol, g, rfl, hg, gg⟩ := (see.below hb).at_ hlt
      have l0 : (0 : Int) ≤ k := by omega
      have l1 : (k : Int) < l.length := by omega
      have gN := (HC.out.get hg).2
      obtain ⟨g0, g1, g2, g3, g4, g5⟩ := gg
      obtain ⟨t0, t1, t2, t3, t4, t5⟩ := (bt.below hb).at.cells0
      have hT : ∀ g ∈ L.take k, g ∈ l := fun g hg => HLL.out g (List.mem_of_mem_take hg)
      obtain ⟨s1, s2, s3, s4⟩ := HC.out.sorted hT
      have hLk := HLG.out k g hg
      obtain ⟨x, hx⟩ : ∃ x, x = mulM g f := ⟨_, rfl⟩
      have hxm : x ∈ l := by rw [← hx] at hLk; exact HLL.out x (List.mem_of_getElem? hLk)
      have htm := fun W => l01Times_c g f n W (by assumption) (by assumption)
      rw [← hx] at hLk htm
      have hst := sortM_take hLk
      have HTM := Lib.hid htm
      have hput := fun W (hW : Below wr.heap.size wr W) => l01Put_c W1.heap.size gq cq (sortM (L.take k)) n x W (own.below hW) (by have := hb.size; have := hW.size; omega) s1 s3 s4 (HC.out.all x hxm)
      rw [← hst] at hput
      have hpos : 0 < (sortM (L.take (k + 1))).length := by
        rw [hst]
        exact List.length_pos_of_mem (mem_putM.2 (.inr rfl))
      have HPUT := Lib.hid hput
      have HPOS := Lib.hid hpos
      clear hput hpos hst htm hLk hx hxm s1 s2 s3 s4 hT own hg
      generalize hS2 : sortM (L.take (k + 1)) = S2 at *
      have HS2 := Lib.hid hS2
      clear hS2
      generalize sortM (L.take k) = S1 at *
      go_wp2
      refine wp_region_headS 7 (fun w' => w'.cell? ⟨w.heap.size, 0, none⟩ = some (.int .i64 f.p) ∧ w'.cell? ⟨w.heap.size, 1, none⟩ = some (.int .i64 f.a) ∧ w'.cell? ⟨w.heap.size, 2, none⟩ = some (.int .i64 f.b) ∧ w'.cell? ⟨w.heap.size, 3, none⟩ = some (.int .i64 f.c) ∧ w'.cell? ⟨w.heap.size, 4, none⟩ = some (.int .i64 f.d) ∧ w'.cell? ⟨w.heap.size, 5, none⟩ = some (.int .i64 f.e) ∧ w'.cell? ⟨bl, ol + k * 6, none⟩ = some (.int .i64 g.p) ∧ w'.cell? ⟨bl, ol + k * 6 + 1, none⟩ = some (.int .i64 g.a) ∧ w'.cell? ⟨bl, ol + k * 6 + 2, none⟩ = some (.int .i64 g.b) ∧ w'.cell? ⟨bl, ol + k * 6 + 3, none⟩ = some (.int .i64 g.c) ∧ w'.cell? ⟨bl, ol + k * 6 + 4, none⟩ = some (.int .i64 g.d) ∧ w'.cell? ⟨bl, ol + k * 6 + 5, none⟩ = some (.int .i64 g.e)) (by kernel_rfl) (by kernel_rfl) ⟨t0, t1, t2, t3, t4, t5, g0, g1, g2, g3, g4, g5⟩ (fun hHeld => ?_)
      simp only [List.drop]
      refine headH_takeS (i := 0) (v := ?_) 14 rfl (by kernel_rfl) (by kernel_rfl) (fun _ _ _ h => h) (Or.inl ⟨by rfl, ?_⟩) hHeld ?_
      rotate_left
      · intro w hSw
        (try dsimp only at hSw)
        go_simp
        try with_reducible rfl
      try simp only [Act.put, List.setIfInBounds_toArray, List.set_cons_zero, List.set_cons_succ]
      refine headH_takeS (i := 1) (v := ?_) 15 rfl (by kernel_rfl) (by kernel_rfl) (fun _ _ _ h => h) (Or.inl ⟨by rfl, ?_⟩) hHeld ?_
      rotate_left
      · intro w hSw
        (try dsimp only at hSw)
        go_simp
        try with_reducible rfl
      try simp only [Act.put, List.setIfInBounds_toArray, List.set_cons_zero, List.set_cons_succ]
      refine headH_takeS (i := 2) (v := ?_) 16 rfl (by kernel_rfl) (by kernel_rfl) (fun _ _ _ h => h) (Or.inl ⟨by rfl, ?_⟩) hHeld ?_
      rotate_left
      · intro w hSw
        (try dsimp only at hSw)
        go_simp
        try with_reducible rfl
      try simp only [Act.put, List.setIfInBounds_toArray, List.set_cons_zero, List.set_cons_succ]
      refine headH_takeS (i := 3) (v := ?_) 17 rfl (by kernel_rfl) (by kernel_rfl) (fun _ _ _ h => h) (Or.inl ⟨by rfl, ?_⟩) hHeld ?_
      rotate_left
      · intro w hSw
        (try dsimp only at hSw)
        go_simp
        try with_reducible rfl
      try simp only [Act.put, List.setIfInBounds_toArray, List.set_cons_zero, List.set_cons_succ]
      refine headH_takeS (i := 4) (v := ?_) 18 rfl (by kernel_rfl) (by kernel_rfl) (fun _ _ _ h => h) (Or.inl ⟨by rfl, ?_⟩) hHeld ?_
      rotate_left
      · intro w hSw
        (try dsimp only at hSw)
        go_simp
        try with_reducible rfl
      try simp only [Act.put, List.setIfInBounds_toArray, List.set_cons_zero, List.set_cons_succ]
      refine headH_takeS (i := 5) (v := ?_) 19 rfl (by kernel_rfl) (by kernel_rfl) (fun _ _ _ h => h) (Or.inl ⟨by rfl, ?_⟩) hHeld ?_
      rotate_left
      · intro w hSw
        (try dsimp only at hSw)
        go_simp
        try with_reducible rfl
      try simp only [Act.put, List.setIfInBounds_toArray, List.set_cons_zero, List.set_cons_succ]
      refine headH_all (rs := [6]) (by kernel_rfl) (by kernel_rfl) (headH_cons rfl (fun K hK => ?_) headH_nil)
      go_simp
      refine (HTM.out _).mono ?_
      rintro e w2 ⟨rfl, hb2⟩
      try go_simp
      replace hb2 := bdr hb2
      refine hK.out _ _ ⟨bcell hb2 t0, bcell hb2 t1, bcell hb2 t2, bcell hb2 t3, bcell hb2 t4, bcell hb2 t5, bcell hb2 g0, bcell hb2 g1, bcell hb2 g2, bcell hb2 g3, bcell hb2 g4, bcell hb2 g5⟩ (fun hHeldn => ?_)
      clear hK K hHeld
      have hHeld := hHeldn
      clear hHeldn
      try simp only [Act.put, List.setIfInBounds_toArray, List.set_cons_zero, List.set_cons_succ]
      refine headH_tail (by kernel_rfl) ?_
      clear hHeld t0 t1 t2 t3 t4 t5 g0 g1 g2 g3 g4 g5
      go_wp2_with fail
      refine (HPUT.out _ hb2).mono ?_
      rintro e w4 ⟨v4, rfl, hown4, _, hb4⟩
      obtain ⟨gq4, c4, rfl, _, _⟩ := hown4.block HPOS.out
      go_wp2
      go_roundw
      case rel => exact ⟨k + 1, gq4, c4, by omega, by go_num, by rw [HS2.out], by rw [HS2.out]; exact hown4, btrans hb (btrans hb2 hb4)⟩
      case measure => simp [intOf]; omega
    · obtain rfl : k = l.length := by omega
      rw [List.take_of_length_le (Nat.le_of_eq HLN.out)] at own ⊢
      go_wp2
      go_returns
      rw [HRES.out]
      exact ⟨_, rfl, own.mono kk.size, btrans kk hb⟩
set_option maxHeartbeats 4000000 in
set_option maxRecDepth 100000 in
theorem l04Ideal_c (A : Option Addr) (c : Nat) (f : Mp) (w : World) (hs : SeeMaps w A l) (hc : Clo l n) (hf : f ∈ l) :
    Calls Tryz.prog 58 #[.slice A l.length c, .agg #[.int .i64 f.p, .int .i64 f.a, .int .i64 f.b, .int .i64 f.c, .int .i64 f.d, .int .i64 f.e]] w fun e w' => ∃ v, e = .returned v ∧ OwnMaps w' w.heap.size v (idealM l f) ∧ Below w.heap.size w w' := by
  have fN := hc.all f hf
  have hlen := hc.len
  have kk := kbelow w (.cells #[.int .i64 f.p, .int .i64 f.a, .int .i64 f.b, .int .i64 f.c, .int .i64 f.d, .int .i64 f.e] 27)
  have see := hs.below kk
  have hleft := l04Left_c A c f _ see hc hf
  have HL := Lib.hid hleft
  have HRI := Lib.hid (fun W g (hW : SeeMaps W A l) (hg : g ∈ l) => l04Right_c A c g W hW hc hg)
  have HLM := Lib.hid (hc.left hf)
  have HFL := Lib.hid (hc.flat hf)
  have HC := Lib.hid hc
  have hXl : (leftM l f).length ≤ 300 := (hc.sorted (hc.lefts hf)).2.2.2
  clear hs hf hleft hc
  obtain ⟨X, hX⟩ : ∃ X, X = leftM l f := ⟨_, rfl⟩
  have HRES := Lib.hid (show idealM l f = sortM (X.flatMap (rightM l)) by rw [hX]; rfl)
  rw [← hX] at HL HLM HFL hXl
  clear hX
  go_enter Tryz.func58, Tryz.ntmps58
  go_wp2_with fail
  refine HL.out.mono ?_
  rintro e w1 ⟨v1, rfl, hown1, hb1⟩
  obtain ⟨A1, c1, rfl, hs1⟩ := hown1.see
  have see1 := see.below hb1
  have own0 : OwnMaps (w1.alloc (.cells #[] 27)) w1.heap.size (.slice (some ⟨w1.heap.size, 0, none⟩) 0 0) [] :=
    ⟨[], World.ownsRow_made (e := 27) (size := 6) w1 #[] 0 (Nat.le_refl _) (by decide) rfl, ⟨rfl, fun k m hk => by simp at hk⟩⟩
  have kk2 := kbelow w1 (.cells #[] 27)
  clear see HL hown1
  go_wp2
  go_loopw [7, 6] (fun i v wr => ∃ (k gq cq : Nat), k ≤ X.length ∧ i = .int .i64 k ∧ v = .slice (some ⟨gq, 0, none⟩) (sortM ((X.take k).flatMap (rightM l))).length cq ∧ OwnMaps wr w1.heap.size v (sortM ((X.take k).flatMap (rightM l))) ∧ Below w1.heap.size w1 wr) (fun i _ _ => X.length - (intOf i).toNat)
  case atStart => exact ⟨0, _, _, Nat.zero_le _, rfl, rfl, own0, kk2⟩
  case round =>
    clear own0 kk2
    obtain ⟨k, gq, cq, hk, rfl, rfl, own, hb⟩ := hrel
    by_cases hlt : k < X.length
    · obtain ⟨bl, ol, g, rfl, hg, gg⟩ := (hs1.below hb).at_ hlt
      have l0 : (0 : Int) ≤ k := by omega
      have l1 : (k : Int) < X.length := by omega
      have gM := HLM.out g (List.mem_of_getElem? hg)
      obtain ⟨g0, g1, g2, g3, g4, g5⟩ := gg
      have h1 := HRI.out wr g (see1.below hb) gM
      have e1 : (X.take (k + 1)).flatMap (rightM l) = (X.take k).flatMap (rightM l) ++ rightM l g := by rw [List.take_add_one, hg, List.flatMap_append]; simp
      have E1 := Lib.hid e1
      have hflat : ∀ x ∈ (X.take k).flatMap (rightM l), x ∈ l := fun x hx => HFL.out x (by
        obtain ⟨y, hy, hxy⟩ := List.mem_flatMap.1 hx
        exact List.mem_flatMap.2 ⟨y, List.mem_of_mem_take hy, hxy⟩)
      have hri := HC.out.right gM
      have hRl : (rightM l g).length ≤ 300 := (HC.out.sorted (HC.out.rights gM)).2.2.2
      have HFT := Lib.hid hflat
      have HRT := Lib.hid hri
      clear e1 hflat hri hg gM
      generalize (X.take k).flatMap (rightM l) = Y at *
      obtain ⟨Y2, hY2⟩ : ∃ Y2, Y2 = (X.take (k + 1)).flatMap (rightM l) := ⟨_, rfl⟩
      rw [← hY2] at E1
      have HY2 := Lib.hid hY2
      clear hY2
      generalize rightM l g = R at *
      go_wp2_with fail
      refine h1.mono ?_
      rintro e w2 ⟨v2, rfl, hown2, hb2⟩
      obtain ⟨A2, c2, rfl, hs2⟩ := hown2.see
      have hb3 := btrans hb hb2
      have own2 := own.below hb2
      clear own hown2 h1 g0 g1 g2 g3 g4 g5
      go_wp2
      go_loopw [9, 6] (fun i v wr2 => ∃ (j gq cq : Nat), j ≤ R.length ∧ i = .int .i64 j ∧ v = .slice (some ⟨gq, 0, none⟩) (sortM (Y ++ R.take j)).length cq ∧ OwnMaps wr2 w1.heap.size v (sortM (Y ++ R.take j)) ∧ Below w2.heap.size w2 wr2) (fun i _ _ => R.length - (intOf i).toNat)
      case atStart => exact ⟨0, gq, cq, Nat.zero_le _, rfl, by simp, by simpa using own2, Below.refl _ _⟩
      case round =>
        clear own2
        obtain ⟨j, gq, cq, hj, rfl, rfl, own, hbj⟩ := hrel
        have m0 : (0 : Int) ≤ j := by omega
        by_cases hltj : j < R.length
        · obtain ⟨bl2, ol2, x, rfl, hx, gx⟩ := (hs2.below hbj).at_ hltj
          have m1 : (j : Int) < R.length := by omega
          obtain ⟨x0, x1, x2, x3, x4, x5⟩ := gx
          have hall : ∀ z ∈ Y ++ R.take j, z ∈ l := fun z hz => by
            rcases List.mem_append.1 hz with hz | hz
            · exact HFT.out z hz
            · exact HRT.out z (List.mem_of_mem_take hz)
          obtain ⟨s1, s2, s3, s4⟩ := HC.out.sorted hall
          have hxm := HRT.out x (List.mem_of_getElem? hx)
          have e2 : sortM (Y ++ R.take (j + 1)) = putM (sortM (Y ++ R.take j)) x := by
            rw [← sortM_snoc, List.append_assoc, List.take_add_one, hx]
            rfl
          have hput := l01Put_c w1.heap.size gq cq (sortM (Y ++ R.take j)) n x wr own (btrans hb3 hbj).size s1 s3 s4 (HC.out.all x hxm)
          rw [← e2] at hput
          have hpos : 0 < (sortM (Y ++ R.take (j + 1))).length := by
            rw [e2]
            exact List.length_pos_of_mem (mem_putM.2 (.inr rfl))
          have HPUT := Lib.hid hput
          have HPOS := Lib.hid hpos
          clear hput hpos e2 hxm s1 s2 s3 s4 hall own hx
          generalize hS2 : sortM (Y ++ R.take (j + 1)) = S2 at *
          have HS2 := Lib.hid hS2
          clear hS2
          generalize sortM (Y ++ R.take j) = S1 at *
          go_wp2_with fail
          refine HPUT.out.mono ?_
          rintro e w4 ⟨v4, rfl, hown4, _, hb4⟩
          obtain ⟨gq4, c4, rfl, _, _⟩ := hown4.block HPOS.out
          go_wp2
          go_roundw
          case rel => exact ⟨j + 1, gq4, c4, by omega, by go_num, by rw [HS2.out], by rw [HS2.out]; exact hown4, btrans hbj hb4⟩
          case measure => simp [intOf]; omega
        · obtain rfl : j = R.length := by omega
          rw [List.take_length, ← E1.out] at own ⊢
          go_wp2
          go_roundw
          case rel => exact ⟨k + 1, gq, cq, by omega, by go_num, by rw [← HY2.out], by rw [← HY2.out]; exact own, btrans hb3 hbj⟩
          case measure => simp [intOf]; omega
    · obtain rfl : k = X.length := by omega
      rw [List.take_length] at own ⊢
      go_wp2
      go_returns
      rw [HRES.out]
      have hb5 := btrans kk hb1
      exact ⟨_, rfl, own.mono hb5.size, btrans hb5 hb⟩
end
end Go.Proofs.YtilfamenadaboaaGreat
