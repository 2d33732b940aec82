/- The draws' source: 'l01From', 'l01Next', 'l01Pick', 'l01Near': numbers in range, whatever the code. No condition. -/
import Derived.Test.YtilfamenadaboaaGreatBase
import Derived.Test.YtilfamenadaboaaGreatMul
import Derived.Test.YtilfamenadaboaaGreatPushM
import Derived.Test.YtilfamenadaboaaGreatSls
import Derived.Test.YtilfamenadaboaaGreatIdent
import Derived.Laws.BitsLemmas
namespace Go.Proofs.YtilfamenadaboaaGreat
set_option linter.unusedSimpArgs false
set_option linter.unusedVariables false
set_option linter.unusedSectionVars false
open Go.RowKit
/-- bytes as they are read -/
def SeeBytes (w : World) (A : Option Addr) (xs : List Int) : Prop := xs ≠ [] → ∃ b o, A = some ⟨b, o, none⟩ ∧ ∀ k x, xs[k]? = some x → (0 ≤ x ∧ x < 256) ∧ w.cell? ⟨b, o + k, none⟩ = some (.int .u8 x)
theorem SeeBytes.keep {w w1 : World} {A : Option Addr} {xs : List Int} {S : Nat → Prop} (h : SeeBytes w A xs) (hs : ∀ a, A = some a → S a.block) (hk : Keep S w w1) : SeeBytes w1 A xs := fun hn => by
  obtain ⟨b, o, e, g⟩ := h hn
  exact ⟨b, o, e, fun k x hkx => ⟨(g k x hkx).1, hk.cell (p := ⟨b, o + k, none⟩) (hs ⟨b, o, none⟩ e) (g k x hkx).2⟩⟩
theorem SeeBytes.below {w w1 : World} {A : Option Addr} {xs : List Int} (h : SeeBytes w A xs) (hb : Below w.heap.size w w1) : SeeBytes w1 A xs := h.keep (S := fun _ => True) (fun _ _ => trivial) (kb hb)
/-- the source in its block -/
structure SrcAt (w : World) (b : Nat) (A : Option Addr) (c : Nat) (code : List Int) : Prop where
  ex : ∃ (i h : Int) (t : TypeId), 0 ≤ i ∧ 0 ≤ h ∧ h < 18446744073709551616 ∧ w.heap[b]? = some (.cells #[.slice A code.length c, .int .i64 i, .int .u64 h] t (0, 0))
  see : SeeBytes w A code
  far : ∀ a, A = some a → code ≠ [] → a.block < b
  len : code.length ≤ 4611686018427387904
section
variable {w w' : World} {b c : Nat} {A : Option Addr} {code : List Int}
theorem SrcAt.lt (h : SrcAt w b A c code) : b < w.heap.size := by
  obtain ⟨_, _, _, _, _, _, e⟩ := h.ex
  exact (Array.getElem?_eq_some_iff.1 e).1
theorem SeeBytes.keepB {S : Nat → Prop} (h : SeeBytes w A code) (hf : ∀ a, A = some a → code ≠ [] → a.block < b) (hs : ∀ k, k < b → S k) (hk : Keep S w w') : SeeBytes w' A code := by
  by_cases hn : code = []
  · exact fun h => absurd hn h
  · exact h.keep (fun a ha => hs _ (hf a ha hn)) hk
theorem SrcAt.keep {S : Nat → Prop} (h : SrcAt w b A c code) (hs : ∀ k, k ≤ b → S k) (hk : Keep S w w') : SrcAt w' b A c code := by
  obtain ⟨i, x, t, h1, h2, h3, e⟩ := h.ex
  exact ⟨⟨i, x, t, h1, h2, h3, (hk.block b (Array.getElem?_eq_some_iff.1 e).1 (hs b (Nat.le_refl _))).trans e⟩, h.see.keepB h.far (fun k hk => hs k (by omega)) hk, h.far, h.len⟩
theorem SrcAt.below (h : SrcAt w b A c code) (hb : Below w.heap.size w w') : SrcAt w' b A c code := h.keep (S := fun _ => True) (fun _ _ => trivial) (kb hb)
end
/-- what a draw leaves: the source, and all blocks but its own as they were -/
structure Drawn (w w' : World) (b : Nat) (A : Option Addr) (c : Nat) (code : List Int) : Prop where
  src : SrcAt w' b A c code
  keep : Keep (fun k => k ≠ b) w w'
theorem Drawn.trans {w w1 w2 : World} {b c : Nat} {A : Option Addr} {code : List Int} (h : Drawn w w1 b A c code) (h' : Drawn w1 w2 b A c code) : Drawn w w2 b A c code := ⟨h'.src, h.keep.trans h'.keep⟩
theorem Drawn.below {w w1 w2 : World} {b c : Nat} {A : Option Addr} {code : List Int} (h : Drawn w w1 b A c code) (hb : Below w1.heap.size w1 w2) : Drawn w w2 b A c code := ⟨h.src.below hb, h.keep.trans (kb hb)⟩
theorem Drawn.refl {w : World} {b c : Nat} {A : Option Addr} {code : List Int} (h : SrcAt w b A c code) : Drawn w w b A c code := ⟨h, Keep.refl _ _⟩
theorem Drawn.lift {w0 w w1 : World} {b c : Nat} {A : Option Addr} {code : List Int} (hb : Below w0.heap.size w0 w) (h : Drawn w w1 b A c code) : Drawn w0 w1 b A c code := ⟨h.src, (kb hb).trans h.keep⟩
theorem wrapsU (n : Int) (h₀ : 0 ≤ n) (h₁ : n < 2 ^ 64) : IntKind.u64.wrap n = n := by
  have : IntKind.u64.wrap n = n % 18446744073709551616 := rfl
  rw [this]
  omega
theorem wrapU_rng (n : Int) : 0 ≤ IntKind.u64.wrap n ∧ IntKind.u64.wrap n < 18446744073709551616 := by
  have : IntKind.u64.wrap n = n % 18446744073709551616 := rfl
  rw [this]
  omega
theorem rnd_rng {a : Int} (h0 : 0 ≤ a) (h1 : a < 18446744073709551616) : 0 ≤ wrap64 (bits BinOp.and IntKind.u64 (a / 8589934592) 16777215) ∧ wrap64 (bits BinOp.and IntKind.u64 (a / 8589934592) 16777215) ≤ 16777215 := by
  obtain ⟨m, rfl⟩ : ∃ m : Nat, a = (m : Int) := ⟨a.toNat, by omega⟩
  have e : (m : Int) / 8589934592 = ((m / 8589934592 : Nat) : Int) := by omega
  have hm : m / 8589934592 < 2 ^ 64 := by omega
  have e2 : bits .and .u64 ((m / 8589934592 : Nat) : Int) ((16777215 : Nat) : Int) = ((m / 8589934592 &&& 16777215 : Nat) : Int) := (bits_nat .u64 64 (by decide) wrapsU _ _ hm (by decide)).1
  rw [e]
  rw [show bits BinOp.and IntKind.u64 ((m / 8589934592 : Nat) : Int) 16777215 = ((m / 8589934592 &&& 16777215 : Nat) : Int) from e2]
  have h3 : (m / 8589934592 &&& 16777215) ≤ 16777215 := Nat.and_le_right
  unfold wrap64
  omega
theorem rem_rng {x n : Int} (h0 : 0 ≤ x) (hn : 0 < n) : 0 ≤ Int.tmod x n ∧ Int.tmod x n < n := ⟨Int.tmod_nonneg _ h0, Int.tmod_lt_of_pos _ hn⟩
set_option maxHeartbeats 4000000 in
theorem l01Next_c {b c : Nat} {A : Option Addr} {code : List Int} (n : Int) (w : World) (h : SrcAt w b A c code) (hn : n ≤ 1000000000000) :
    Calls Tryz.prog 71 #[.pointer (some ⟨b, 0, none⟩), .int .i64 n] w fun e w' => ∃ x : Int, e = .returned (.int .i64 x) ∧ (0 < n → 0 ≤ x ∧ x < n) ∧ (n ≤ 0 → x = 0) ∧ Drawn w w' b A c code := by
  by_cases hp : n < 1
  · go_enter Tryz.func71, Tryz.ntmps71
    go_wp2
    go_returns
    exact ⟨0, rfl, fun h => by omega, fun _ => rfl, Drawn.refl h⟩
  · obtain ⟨i, x, t, i0, x0, x1, e⟩ := h.ex
    have q2 : w.cell? ⟨b, 2, none⟩ = some (.int .u64 x) := by rw [cell_of_row w b 2 _ t (0, 0) e]; rfl
    have fz := fun j => frozen_of_row w b j _ t e
    have hu := wrapU_rng (IntKind.u64.wrap (x * 6364136223846793005) + 1442695040888963407)
    have hr := rnd_rng hu.1 hu.2
    obtain ⟨y, hy⟩ : ∃ y, y = IntKind.u64.wrap (IntKind.u64.wrap (x * 6364136223846793005) + 1442695040888963407) := ⟨_, rfl⟩
    rw [← hy] at hu hr
    have e1 := heap_setCell_same w b 2 _ t (.int .u64 y) e
    obtain ⟨W1, hW1⟩ : ∃ W1, W1 = w.setCell ⟨b, 2, none⟩ (.int .u64 y) := ⟨_, rfl⟩
    rw [← hW1] at e1
    have k1 : Keep (fun k => k ≠ b) w W1 := by rw [hW1]; exact Keep.set (Keep.refl _ w) (by simp) _
    have e1' : W1.heap[b]? = some (.cells #[.slice A code.length c, .int .i64 i, .int .u64 y] t (0, 0)) := e1
    have s1 : SrcAt W1 b A c code := ⟨⟨i, y, t, i0, hu.1, hu.2, e1'⟩, h.see.keepB h.far (fun k hk => by omega) k1, h.far, h.len⟩
    have c0 : W1.cell? ⟨b, 0, none⟩ = some (.slice A code.length c) := by rw [cell_of_row W1 b 0 _ t (0, 0) e1']; rfl
    have c1 : W1.cell? ⟨b, 1, none⟩ = some (.int .i64 i) := by rw [cell_of_row W1 b 1 _ t (0, 0) e1']; rfl
    have c2 : W1.cell? ⟨b, 2, none⟩ = some (.int .u64 y) := by rw [cell_of_row W1 b 2 _ t (0, 0) e1']; rfl
    have Q0 := bwcell c0
    have Q1 := bwcell c1
    have hln := h.len
    go_enter Tryz.func71, Tryz.ntmps71
    go_wp2
    rw [← hy, ← hW1]
    obtain ⟨z, hz⟩ : ∃ z, z = wrap64 (bits BinOp.and IntKind.u64 (y / 8589934592) 16777215) := ⟨_, rfl⟩
    rw [← hz] at hr ⊢
    clear hy hW1 hz e e1 q2 fz
    refine wp_region_bw (by kernel_rfl) (by kernel_rfl) ?_
    repeat go_big_quiet_step (fail)
    refine wpQuiet_nil ?_
    rintro w2 ⟨⟨w2x, hb2⟩, rfl⟩
    have s2 := s1.below hb2
    have k2 := k1.trans (kb hb2)
    have c02 := bcell hb2 c0
    have c12 := bcell hb2 c1
    by_cases hlt : i < code.length
    · obtain ⟨xb, hxb⟩ := el (xs := code) (k := i.toNat) (by omega)
      obtain ⟨bc, oc, rfl, g⟩ := s2.see (ne_of_lt (k := i.toNat) (by omega))
      obtain ⟨xr, qb⟩ := g i.toNat xb hxb
      have e2 : w2.heap[b]? = some (.cells #[.slice (some ⟨bc, oc, none⟩) code.length c, .int .i64 i, .int .u64 y] t (0, 0)) := (hb2.block b s1.lt).trans e1'
      have R0 := bwcell c02
      have R1 := bwcell c12
      have RB := bwcell qb
      have i1 : i < (code.length : Int) := hlt
      go_wp2
      refine wp_region_bw (by kernel_rfl) (by kernel_rfl) ?_
      repeat go_big_quiet_step (fail)
      refine wpQuiet_nil ?_
      rintro w3 ⟨⟨w3x, hb3⟩, rfl⟩
      have s3 := s2.below hb3
      have k3 := k2.trans (kb hb3)
      have e3 : w3.heap[b]? = some (.cells #[.slice (some ⟨bc, oc, none⟩) code.length c, .int .i64 i, .int .u64 y] t (0, 0)) := (hb3.block b s2.lt).trans e2
      have c13 := bcell hb3 c12
      have f3 := frozen_of_row w3 b 1 _ t e3
      have wi : wrap64 (i + 1) = i + 1 := by unfold wrap64; omega
      have wx : wrap64 (z + wrap64 xb) = z + xb := by unfold wrap64; omega
      have wx' : wrap64 (z + xb) = z + xb := by unfold wrap64; omega
      have n0 : n ≠ 0 := by omega
      have n1 : n ≠ -1 := by omega
      go_wp2
      go_returns
      have e4 := heap_setCell_same w3 b 1 _ t (.int .i64 (i + 1)) e3
      have k4 : Keep (fun k => k ≠ b) w (w3.setCell ⟨b, 1, none⟩ (.int .i64 (i + 1))) := k3.set (by simp) _
      refine ⟨(z + xb) % n, rfl, fun _ => ⟨Int.emod_nonneg _ n0, Int.emod_lt_of_pos _ (by omega)⟩, fun h => by omega, ⟨⟨i + 1, y, t, by omega, hu.1, hu.2, e4⟩, h.see.keepB h.far (fun k hk => by omega) k4, h.far, h.len⟩, k4⟩
    · have n0 : n ≠ 0 := by omega
      have n1 : n ≠ -1 := by omega
      go_wp2
      go_returns
      exact ⟨z % n, rfl, fun _ => ⟨Int.emod_nonneg _ n0, Int.emod_lt_of_pos _ (by omega)⟩, fun h => by omega, s2, k2⟩
/-- one of some numbers -/
theorem l01Pick_c {b c cL : Nat} {A : Option Addr} {code : List Int} {L : Option Addr} (xs : List Int) (w : World) (h : SrcAt w b A c code) (hs : SeeInts w L xs) (hL : ∀ a, L = some a → a.block ≠ b) (h0 : 0 < xs.length) (hn : xs.length ≤ 100) :
    Calls Tryz.prog 90 #[.pointer (some ⟨b, 0, none⟩), .slice L xs.length cL] w fun e w' => ∃ x : Int, e = .returned (.int .i64 x) ∧ x ∈ xs ∧ Drawn w w' b A c code := by
  have HN := Lib.hid (l01Next_c (xs.length : Int) w h (by omega))
  have HS := Lib.hid hs
  clear h hs
  go_enter Tryz.func90, Tryz.ntmps90
  go_wp2_with fail
  refine HN.out.mono ?_
  rintro e w2 ⟨x, rfl, hx, _, hd⟩
  obtain ⟨x0, x1⟩ := hx (by omega)
  obtain ⟨bl, ol, rfl, g⟩ := HS.out (ne_of_lt (k := 0) h0)
  obtain ⟨y, hy⟩ := el (xs := xs) (k := x.toNat) (by omega)
  have q := hd.keep.cell (p := ⟨bl, ol + x.toNat, none⟩) (hL ⟨bl, ol, none⟩ rfl) (g _ _ hy)
  have HY := Lib.hid hy
  have HD := Lib.hid hd
  clear hy hd hx
  go_wp2
  go_returns
  exact ⟨y, rfl, List.mem_of_getElem? HY.out, HD.out⟩
set_option maxHeartbeats 4000000 in
/-- the source of a code -/
theorem l01From_c {c : Nat} {A : Option Addr} {code : List Int} (w : World) (h : SeeBytes w A code) (hl : code.length ≤ 4611686018427387904) :
    Calls Tryz.prog 48 #[.slice A code.length c] w fun e w' => ∃ b, e = .returned (.pointer (some ⟨b, 0, none⟩)) ∧ w.heap.size ≤ b ∧ SrcAt w' b A c code ∧ Below w.heap.size w w' := by
  have HS := Lib.hid h
  clear h
  have h0 := wrapU_rng (13591 + (code.length : Int))
  have hw : IntKind.u64.wrap (13591 + (code.length : Int)) = 13591 + (code.length : Int) := wrapsU _ (by omega) (by omega)
  rw [hw] at h0
  go_enter Tryz.func48, Tryz.ntmps48
  go_wp2
  go_loopw [4] (fun iv wr => ∃ (i : Nat) (y : Int), i ≤ code.length ∧ i ≤ 4096 ∧ iv = .int .i64 i ∧ (0 ≤ y ∧ y < 18446744073709551616) ∧ wr.heap[w.heap.size]? = some (.cells #[.slice A code.length c, .int .i64 0, .int .u64 y] 95 (0, 0)) ∧ Below w.heap.size w wr) (fun iv _ => code.length - (intOf iv).toNat)
  case atStart => exact ⟨0, _, Nat.zero_le _, by omega, rfl, h0, heap_alloc_new w _, kbelow w _⟩
  case round =>
    clear h0 hw
    obtain ⟨i, y, hi, hi4, rfl, hy, e, hb⟩ := hrel
    have i0 : (0 : Int) ≤ i := by omega
    have fin : ∀ e' : Ending, e' = .returned (.pointer (some ⟨w.heap.size, 0, none⟩)) → ∃ b, e' = .returned (.pointer (some ⟨b, 0, none⟩)) ∧ w.heap.size ≤ b ∧ SrcAt wr b A c code ∧ Below w.heap.size w wr := fun e' he => by
      refine ⟨w.heap.size, he, Nat.le_refl _, ⟨⟨0, y, _, Int.le_refl _, hy.1, hy.2, e⟩, HS.out.below hb, fun a ha hne => ?_, hl⟩, hb⟩
      obtain ⟨b, o, eA, g⟩ := HS.out hne
      rw [eA] at ha
      obtain rfl := Option.some.inj ha
      obtain ⟨x, hx⟩ := el (xs := code) (k := 0) (by cases code with | nil => exact absurd rfl hne | cons _ _ => simp)
      exact World.block_lt_of_cell? w _ (g 0 x hx).2
    have FIN := Lib.hid fin
    clear fin
    by_cases hlt : i < code.length
    · have i1 : (i : Int) < code.length := by omega
      by_cases h4 : i < 4096
      · have i2 : (i : Int) < 4096 := by omega
        obtain ⟨xb, hxb⟩ := el hlt
        obtain ⟨bc, oc, rfl, g⟩ := (HS.out.below hb) (ne_of_lt hlt)
        obtain ⟨xr, qb⟩ := g i xb hxb
        have q2 : wr.cell? ⟨w.heap.size, 2, none⟩ = some (.int .u64 y) := by rw [cell_of_row wr w.heap.size 2 _ _ (0, 0) e]; rfl
        have fz := frozen_of_row wr w.heap.size 2 _ _ e
        obtain ⟨z, hz⟩ : ∃ z, z = IntKind.u64.wrap (IntKind.u64.wrap (IntKind.u64.wrap (y * 1099511628211) + xb) + 181) := ⟨_, rfl⟩
        have hz0 : 0 ≤ z ∧ z < 18446744073709551616 := by rw [hz]; exact wrapU_rng _
        have xw : IntKind.u64.wrap xb = xb := wrapsU _ (by omega) (by omega)
        have HZ := Lib.hid hz
        clear hz FIN hxb g
        go_wp2
        refine wp_region_headS 15 (fun w' => w'.cell? ⟨w.heap.size, 2, none⟩ = some (.int .u64 y) ∧ w'.cell? ⟨bc, oc + i, none⟩ = some (.int .u8 xb)) (by kernel_rfl) (by kernel_rfl) ⟨q2, qb⟩ (fun hHeld => ?_)
        simp only [List.drop]
        refine headH_takeS (i := 0) (v := ?_) 22 rfl (by kernel_rfl) (by kernel_rfl) (fun _ _ _ h => h) (Or.inl ⟨by rfl, ?_⟩) hHeld ?_
        rotate_left
        · intro w hSw
          (try dsimp only at hSw)
          go_simp
          try with_reducible rfl
        try simp only [Act.put, List.setIfInBounds_toArray, List.set_cons_zero, List.set_cons_succ]
        refine headH_takeS (i := 1) (v := ?_) 23 rfl (by kernel_rfl) (by kernel_rfl) (fun _ _ _ h => h) (Or.inl ⟨by rfl, ?_⟩) hHeld ?_
        rotate_left
        · intro w hSw
          (try dsimp only at hSw)
          go_simp
          try with_reducible rfl
        try simp only [Act.put, List.setIfInBounds_toArray, List.set_cons_zero, List.set_cons_succ]
        refine headH_takeS (i := 2) (v := ?_) 24 rfl (by kernel_rfl) (by kernel_rfl) (fun _ _ _ h => h) (Or.inl ⟨by rfl, ?_⟩) hHeld ?_
        rotate_left
        · intro w hSw
          (try dsimp only at hSw)
          go_simp
          try with_reducible rfl
        try simp only [Act.put, List.setIfInBounds_toArray, List.set_cons_zero, List.set_cons_succ]
        refine headH_takeS (i := 3) (v := ?_) 25 rfl (by kernel_rfl) (by kernel_rfl) (fun _ _ _ h => h) (Or.inl ⟨by rfl, ?_⟩) hHeld ?_
        rotate_left
        · intro w hSw
          (try dsimp only at hSw)
          go_simp
          try with_reducible rfl
        try simp only [Act.put, List.setIfInBounds_toArray, List.set_cons_zero, List.set_cons_succ]
        refine headH_takeS (i := 4) (v := ?_) 26 rfl (by kernel_rfl) (by kernel_rfl) (fun _ _ _ h => h) (Or.inl ⟨by rfl, ?_⟩) hHeld ?_
        rotate_left
        · intro w hSw
          (try dsimp only at hSw)
          go_simp
          try with_reducible rfl
        try simp only [Act.put, List.setIfInBounds_toArray, List.set_cons_zero, List.set_cons_succ]
        refine headH_takeS (i := 5) (v := ?_) 27 rfl (by kernel_rfl) (by kernel_rfl) (fun _ _ _ h => h) (Or.inl ⟨by rfl, ?_⟩) hHeld ?_
        rotate_left
        · intro w hSw
          (try dsimp only at hSw)
          go_simp
          try with_reducible rfl
        try simp only [Act.put, List.setIfInBounds_toArray, List.set_cons_zero, List.set_cons_succ]
        refine headH_takeS (i := 6) (v := ?_) 28 rfl (by kernel_rfl) (by kernel_rfl) (fun _ _ _ h => h) (Or.inl ⟨by rfl, ?_⟩) hHeld ?_
        rotate_left
        · intro w hSw
          (try dsimp only at hSw)
          go_simp
          try with_reducible rfl
        try simp only [Act.put, List.setIfInBounds_toArray, List.set_cons_zero, List.set_cons_succ]
        refine headH_takeS (i := 7) (v := ?_) 29 rfl (by kernel_rfl) (by kernel_rfl) (fun _ _ _ h => h) (Or.inl ⟨by rfl, ?_⟩) hHeld ?_
        rotate_left
        · intro w hSw
          (try dsimp only at hSw)
          go_simp
          try with_reducible rfl
        try simp only [Act.put, List.setIfInBounds_toArray, List.set_cons_zero, List.set_cons_succ]
        refine headH_takeS (i := 8) (v := ?_) 30 rfl (by kernel_rfl) (by kernel_rfl) (fun _ _ _ h => h) (Or.inl ⟨by rfl, ?_⟩) hHeld ?_
        rotate_left
        · intro w hSw
          (try dsimp only at hSw)
          go_simp
          try with_reducible rfl
        try simp only [Act.put, List.setIfInBounds_toArray, List.set_cons_zero, List.set_cons_succ]
        refine headH_takeS (i := 9) (v := ?_) 31 rfl (by kernel_rfl) (by kernel_rfl) (fun _ _ _ h => h) (Or.inl ⟨by rfl, ?_⟩) hHeld ?_
        rotate_left
        · intro w hSw
          (try dsimp only at hSw)
          go_simp
          try with_reducible rfl
        try simp only [Act.put, List.setIfInBounds_toArray, List.set_cons_zero, List.set_cons_succ]
        refine headH_takeS (i := 10) (v := ?_) 32 rfl (by kernel_rfl) (by kernel_rfl) (fun _ _ _ h => h) (Or.inl ⟨by rfl, ?_⟩) hHeld ?_
        rotate_left
        · intro w hSw
          (try dsimp only at hSw)
          go_simp
          try with_reducible rfl
        try simp only [Act.put, List.setIfInBounds_toArray, List.set_cons_zero, List.set_cons_succ]
        refine headH_takeS (i := 11) (v := ?_) 33 rfl (by kernel_rfl) (by kernel_rfl) (fun _ _ _ h => h) (Or.inl ⟨by rfl, ?_⟩) hHeld ?_
        rotate_left
        · intro w hSw
          (try dsimp only at hSw)
          go_simp
          try with_reducible rfl
        try simp only [Act.put, List.setIfInBounds_toArray, List.set_cons_zero, List.set_cons_succ]
        refine headH_takeS (i := 12) (v := ?_) 34 rfl (by kernel_rfl) (by kernel_rfl) (fun _ _ _ h => h) (Or.inl ⟨by rfl, ?_⟩) hHeld ?_
        rotate_left
        · intro w hSw
          (try dsimp only at hSw)
          go_simp
          try with_reducible rfl
        try simp only [Act.put, List.setIfInBounds_toArray, List.set_cons_zero, List.set_cons_succ]
        refine headH_takeS (i := 13) (v := ?_) 35 rfl (by kernel_rfl) (by kernel_rfl) (fun _ _ _ h => h) (Or.inl ⟨by rfl, ?_⟩) hHeld ?_
        rotate_left
        · intro w hSw
          (try dsimp only at hSw)
          go_simp
          try with_reducible rfl
        try simp only [Act.put, List.setIfInBounds_toArray, List.set_cons_zero, List.set_cons_succ]
        refine headH_takeS (i := 14) (v := ?_) 36 rfl (by kernel_rfl) (by kernel_rfl) (fun _ _ _ h => h) (Or.inl ⟨by rfl, ?_⟩) hHeld ?_
        rotate_left
        · intro w hSw
          (try dsimp only at hSw)
          go_simp
          try with_reducible rfl
        try simp only [Act.put, List.setIfInBounds_toArray, List.set_cons_zero, List.set_cons_succ]
        refine headH_tail (by kernel_rfl) ?_
        clear hHeld
        go_wp2
        go_roundw
        case rel => exact ⟨i + 1, z, by omega, by omega, by go_num, hz0, by rw [HZ.out]; exact heap_setCell_same wr.drew w.heap.size 2 _ _ _ e, Below.setCell (Below.drew hb) (Nat.le_refl _) _⟩
        case measure => simp [intOf]; omega
      · have i2 : ¬ (i : Int) < 4096 := by omega
        go_wp2
        go_returns
        exact FIN.out _ rfl
    · have i1 : ¬ (i : Int) < code.length := by omega
      go_wp2
      go_returns
      exact FIN.out _ rfl
/-! Draws of maps and of lists of maps. -/
/-- numbers of a call's own survive a draw -/
theorem OwnInts.drawn {w1 w2 : World} {base b c : Nat} {A : Option Addr} {code : List Int} {v : Value} {xs : List Int} (h : OwnInts w1 base v xs) (hb : b < base) (hd : Drawn w1 w2 b A c code) : OwnInts w2 base v xs := h.keep (fun k hk => by have := (h.lt k hk).1; omega) hd.keep
theorem OwnInts.someI {w : World} {base : Nat} {v : Value} {xs : List Int} (h : OwnInts w base v xs) (hn : xs ≠ []) : ∃ g c, v = .slice (some ⟨g, 0, none⟩) xs.length c := by
  rcases h.2 with ⟨rfl, e⟩ | ⟨g, cap, cur, rfl, _⟩
  · exact absurd (List.eq_nil_of_length_eq_zero e) hn
  · exact ⟨g, cap, rfl⟩
theorem OwnMaps.drawn {w1 w2 : World} {base b c : Nat} {A : Option Addr} {code : List Int} {v : Value} {xs : List Mp} (h : OwnMaps w1 base v xs) (hb : b < base) (hd : Drawn w1 w2 b A c code) : OwnMaps w2 base v xs := h.keep (fun k hk => by have := (h.lt k hk).1; omega) hd.keep
theorem MpBox.drawn {w1 w2 : World} {q b c : Nat} {A : Option Addr} {code : List Int} {m : Mp} (h : MpBox w1 q m) (hb : q ≠ b) (hd : Drawn w1 w2 b A c code) : MpBox w2 q m := by
  have hl := h.lt
  obtain ⟨t, h⟩ := h
  exact ⟨t, (hd.keep.block q hl hb).trans h⟩
theorem SeeInts.cellsI {w : World} {A : Option Addr} {c : Nat} {xs : List Int} (h : SeeInts w A xs) (hA : NilOk A c) : SeeCells w A c (xs.map (Value.int .i64)) := by
  cases A with
  | none =>
    refine .inl ⟨rfl, hA rfl, ?_⟩
    cases xs with
    | nil => rfl
    | cons x xs => obtain ⟨b, o, e, _⟩ := h (by simp); cases e
  | some ad =>
    refine .inr ⟨ad, rfl, fun j u hu => ?_⟩
    have hj : j < xs.length := by simpa using (List.getElem?_eq_some_iff.1 hu).1
    obtain ⟨b, o, x, e, hx, q⟩ := h.at_ hj
    obtain rfl := Option.some.inj e
    rw [List.getElem?_map, hx] at hu
    obtain rfl := Option.some.inj hu
    rw [add_lit]
    exact q
theorem SeeInts.takeI {w : World} {g : Nat} {xs : List Int} (h : SeeInts w (some ⟨g, 0, none⟩) xs) (i : Nat) : SeeInts w (some ⟨g, 0, none⟩) (xs.take i) := fun hn => ⟨g, 0, rfl, fun k x hk => by
  rw [List.getElem?_take] at hk
  split at hk
  · obtain ⟨b, o, e, q⟩ := h (fun e => by rw [e] at hk; simp at hk)
    simp only [Option.some.injEq, Addr.mk.injEq, and_true] at e
    obtain ⟨rfl, rfl⟩ := e
    exact q k x hk
  · cases hk⟩
theorem SeeInts.dropI {w : World} {g : Nat} {xs : List Int} (h : SeeInts w (some ⟨g, 0, none⟩) xs) (i : Nat) : SeeInts w (some ⟨g, i, none⟩) (xs.drop i) := fun hn => ⟨g, i, rfl, fun k x hk => by
  rw [List.getElem?_drop] at hk
  obtain ⟨b, o, e, q⟩ := h (fun e => by rw [e] at hk; simp at hk)
  simp only [Option.some.injEq, Addr.mk.injEq, and_true] at e
  obtain ⟨rfl, rfl⟩ := e
  have := q (i + k) x hk
  rwa [Nat.zero_add] at this⟩
/-- out = append(out, ys...) -/
theorem wpList_cat_int (w : World) {ops : Array Oper} {rest : List Oper} {o : Oper} {a : Act} {Q : Exit → Act → World → Prop} (hgd : o.guard = none) (s x : Operand)
    (ho : o.op = .call { callee := .builtin .append, args := #[s, x], argTypes := #[103, 103] })
    (base : Nat) (v : Value) (xs ys : List Int) (hs : a.eval s = v) (hown : OwnInts w base v xs) (A : Option Addr) (c : Nat) (hx : a.eval x = .slice A ys.length c) (hy : SeeInts w A ys) (hA : NilOk A c)
    (hn : xs.length + ys.length ≤ 2097152) (hbase : base ≤ w.heap.size)
    (hK : ∀ v' w', OwnInts w' base v' (xs ++ ys) → w.grownBy w' v.ownBlock → (v'.ownBlock = v.ownBlock ∨ v'.ownBlock = some w.heap.size) → wpList Tryz.prog ops Q rest (a.put o.dst v') w') : wpList Tryz.prog ops Q (o :: rest) a w := by
  obtain ⟨i0, hi, hz0, hz1, hz2⟩ := info_parts info_int
  have hc := hy.cellsI (c := c) hA
  refine wpList_append_see w hgd s x 103 ho base 2 i0 (.int .i64 0) 1 8 Tryz.underlying103 hi hz0 hz1 hz2 rfl (by decide) v xs.length (xs.map (Value.int .i64)) hs hown A ys.length c (ys.map (Value.int .i64)) hx (by simp) hc (fun u hu => by obtain ⟨y, _, rfl⟩ := List.mem_map.1 hu; rfl) (by unfold maxLen; omega) (by omega) hbase (fun v' w' h3 h4 h5 => hK v' w' ?_ h4 h5)
  unfold OwnInts
  rw [List.length_append, List.map_append]
  exact h3
/-- the numbers of an order -/
def InN (n : Nat) (xs : List Int) : Prop := ∀ x ∈ xs, 0 ≤ x ∧ x < (n : Int)
set_option maxHeartbeats 8000000 in
set_option maxRecDepth 100000 in
theorem l01DrawOrder_c {b c : Nat} {A : Option Addr} {code : List Int} (n : Nat) (w : World) (h : SrcAt w b A c code) (hn : n ≤ 5) :
    Calls Tryz.prog 135 #[.pointer (some ⟨b, 0, none⟩), .int .i64 (n : Int)] w fun e w' => ∃ (v : Value) (xs : List Int), e = .returned v ∧ xs.length = n ∧ InN n xs ∧ OwnInts w' w.heap.size v xs ∧ Drawn w w' b A c code := by
  have hlt := h.lt
  have own0 : OwnInts (w.alloc (.cells #[] 2)) w.heap.size (.slice (some ⟨w.heap.size, 0, none⟩) 0 0) [] := own_mono (World.ownsRow_made (e := 2) (size := 1) w #[] 0 (Nat.le_refl _) (by decide) rfl) (Nat.le_refl _)
  have d0 : Drawn w (w.alloc (.cells #[] 2)) b A c code := (Drawn.refl h).below (kbelow w _)
  go_enter Tryz.func135, Tryz.ntmps135
  go_wp2
  go_loopw [6, 5] (fun iv v wr => ∃ (i g cx : Nat) (xs : List Int), i ≤ n ∧ iv = .int .i64 i ∧ xs.length = i ∧ InN i xs ∧ v = .slice (some ⟨g, 0, none⟩) i cx ∧ OwnInts wr w.heap.size v xs ∧ Drawn w wr b A c code) (fun iv _ _ => n - (intOf iv).toNat)
  case atStart => exact ⟨0, _, _, [], Nat.zero_le _, rfl, rfl, (fun x hx => by cases hx), rfl, own0, d0⟩
  case round =>
    clear own0 d0
    obtain ⟨i, g, cx, xs, hi, rfl, hxl, hin, rfl, own, hd⟩ := hrel
    have i0 : (0 : Int) ≤ i := by omega
    by_cases hlt2 : i < n
    · have i1 : (i : Int) < n := by omega
      have hcap : i ≤ cx := by
        rcases own.2 with ⟨h2', _⟩ | ⟨g', cap, cur, h2', _, _, h3', _⟩
        · cases h2'
        · simp only [Value.slice.injEq] at h2'
          omega
      have wi : wrap64 ((i : Int) + 1) = (i : Int) + 1 := by unfold wrap64; omega
      have hnx := l01Next_c ((i : Int) + 1) wr hd.src (by omega)
      have HNX := Lib.hid hnx
      have HIN := Lib.hid hin
      have HXL := Lib.hid hxl
      clear hnx hin hxl
      go_wp2_with fail
      refine HNX.out.mono ?_
      rintro e w2 ⟨t, rfl, ht, _, hd2⟩
      obtain ⟨t0, t1⟩ := ht (by omega)
      obtain ⟨tn, rfl⟩ : ∃ tn : Nat, t = (tn : Int) := ⟨t.toNat, by omega⟩
      have ti : tn ≤ i := by omega
      have own2 := own.drawn hlt hd2
      have hd' := hd.trans hd2
      have hz2 := hd'.keep.size
      clear own hd2 hd ht
      have htl : (xs.take tn).length = tn := by rw [List.length_take, HXL.out]; omega
      have hdl : (xs.drop tn).length = i - tn := by rw [List.length_drop, HXL.out]
      have hown := fun W (hW : Below w2.heap.size w2 W) => l01Own_c (some ⟨g, 0, none⟩) cx (xs.take tn) W ((own2.see'.below hW).takeI tn) (fun e => by cases e) (by rw [htl]; omega)
      have hdr := fun W (hW : Below w2.heap.size w2 W) => (own2.see'.below hW).dropI tn
      rw [htl] at hown
      have hnew : InN (i + 1) (xs.take tn ++ [(i : Int)] ++ xs.drop tn) ∧ (xs.take tn ++ [(i : Int)] ++ xs.drop tn).length = i + 1 := ⟨fun x hx => by
        rcases List.mem_append.1 hx with hx | hx
        · rcases List.mem_append.1 hx with hx | hx
          · have := HIN.out x (List.mem_of_mem_take hx); omega
          · rw [List.mem_singleton.1 hx]; omega
        · have := HIN.out x (List.mem_of_mem_drop hx); omega, by rw [List.length_append, List.length_append, htl, hdl]; simp; omega⟩
      generalize xs.take tn = ys at *
      generalize xs.drop tn = zs at *
      have HTL := Lib.hid htl
      have HDL := Lib.hid hdl
      have HOW := Lib.hid hown
      have HDR := Lib.hid hdr
      have NEW := Lib.hid hnew
      have p0 : (0 : Int) ≤ tn := by omega
      have p1 : (tn : Int) ≤ i := by omega
      have p2 : (tn : Int) ≤ cx := by omega
      clear hown hdr hnew htl hdl
      by_cases htc : tn < cx
      · have p3 : (tn : Int) < cx := by omega
        have p4 : ¬ cx = tn := by omega
        go_wp2
        refine wp_region_headS 10 (fun w' => True) (by kernel_rfl) (by kernel_rfl) trivial (fun hHeld => ?_)
        simp only [List.drop]
        refine headH_takeS (i := 0) (v := ?_) 18 rfl (by kernel_rfl) (by kernel_rfl) (fun _ _ _ h => h) (Or.inl ⟨by rfl, ?_⟩) hHeld ?_
        rotate_left
        · intro w hSw
          (try dsimp only at hSw)
          go_simp
          try with_reducible rfl
        try simp only [Act.put, List.setIfInBounds_toArray, List.set_cons_zero, List.set_cons_succ]
        refine headH_takeS (i := 1) (v := ?_) 19 rfl (by kernel_rfl) (by kernel_rfl) (fun _ _ _ h => h) (Or.inl ⟨by rfl, ?_⟩) hHeld ?_
        rotate_left
        · intro w hSw
          (try dsimp only at hSw)
          go_simp
          try with_reducible rfl
        try simp only [Act.put, List.setIfInBounds_toArray, List.set_cons_zero, List.set_cons_succ]
        refine headH_takeS (i := 2) (v := ?_) 20 rfl (by kernel_rfl) (by kernel_rfl) (fun _ _ _ h => h) (Or.inl ⟨by rfl, ?_⟩) hHeld ?_
        rotate_left
        · intro w hSw
          (try dsimp only at hSw)
          go_simp
          try with_reducible rfl
        try simp only [Act.put, List.setIfInBounds_toArray, List.set_cons_zero, List.set_cons_succ]
        refine headH_takeS (i := 4) (v := ?_) 22 rfl (by kernel_rfl) (by kernel_rfl) (fun _ _ _ h => h) (Or.inl ⟨by rfl, ?_⟩) hHeld ?_
        rotate_left
        · intro w hSw
          (try dsimp only at hSw)
          go_simp
          try with_reducible rfl
        try simp only [Act.put, List.setIfInBounds_toArray, List.set_cons_zero, List.set_cons_succ]
        refine headH_takeS (i := 7) (v := ?_) 25 rfl (by kernel_rfl) (by kernel_rfl) (fun _ _ _ h => h) (Or.inl ⟨by rfl, ?_⟩) hHeld ?_
        rotate_left
        · intro w hSw
          (try dsimp only at hSw)
          go_simp
          try with_reducible rfl
        try simp only [Act.put, List.setIfInBounds_toArray, List.set_cons_zero, List.set_cons_succ]
        refine headH_takeS (i := 8) (v := ?_) 26 rfl (by kernel_rfl) (by kernel_rfl) (fun _ _ _ h => h) (Or.inl ⟨by rfl, ?_⟩) hHeld ?_
        rotate_left
        · intro w hSw
          (try dsimp only at hSw)
          go_simp
          try with_reducible rfl
        try simp only [Act.put, List.setIfInBounds_toArray, List.set_cons_zero, List.set_cons_succ]
        refine headH_takeS (i := 9) (v := ?_) 27 rfl (by kernel_rfl) (by kernel_rfl) (fun _ _ _ h => h) (Or.inl ⟨by rfl, ?_⟩) hHeld ?_
        rotate_left
        · intro w hSw
          (try dsimp only at hSw)
          go_simp
          try with_reducible rfl
        try simp only [Act.put, List.setIfInBounds_toArray, List.set_cons_zero, List.set_cons_succ]
        refine headH_all (rs := [3, 5]) (by kernel_rfl) (by kernel_rfl) (headH_cons rfl (fun K hK => ?_) (headH_cons rfl (fun K hK => ?_) headH_nil))
        · go_simp
          refine (HOW.out w2.drew (Below.drew (Below.refl _ _))).mono ?_
          rintro e w4 ⟨v4, rfl, own4, hb4⟩
          obtain ⟨A4, c4, rfl, _⟩ := own4.see
          replace hb4 := bdr hb4
          refine hK.out _ _ trivial (fun hHeldn => ?_)
          clear hK K hHeld
          have hHeld := hHeldn
          clear hHeldn
          try simp only [Act.put, List.setIfInBounds_toArray, List.set_cons_zero, List.set_cons_succ]
          refine headH_all (rs := [5]) (by kernel_rfl) (by kernel_rfl) (headH_cons rfl (fun K hK => ?_) headH_nil)
          go_simp
          have kk := kbelow w4 (.cells #[.int .i64 (i : Int)] 2)
          have hb5 := btrans hb4 kk
          have own5 := own4.below kk
          have q5 : (w4.alloc (.cells #[.int .i64 (i : Int)] 2)).cell? ⟨w4.heap.size, 0, none⟩ = some (.int .i64 (i : Int)) := by simp [go_sem]
          refine hK.out _ _ trivial (fun hHeldn => ?_)
          clear hK K hHeld
          have hHeld := hHeldn
          clear hHeldn
          try simp only [Act.put, List.setIfInBounds_toArray, List.set_cons_zero, List.set_cons_succ]
          refine headH_all (rs := [6]) (by kernel_rfl) (by kernel_rfl) (headH_cons rfl (fun K hK => ?_) headH_nil)
          refine step_push_int _ rfl (.tmp 21) (.tmp 23) rfl w2.heap.size (.slice A4 ys.length c4) ys rfl own5 ⟨w4.heap.size, 0, none⟩ (i : Int) rfl q5 (by rw [HTL.out]; omega) hb5.size ?_
          intro v6 w6 own6 hg6 hv6
          have hb6 : Below w2.heap.size w2 w6 := hb5.grown hg6 hb5.size (fun q hq => (own5.lt q hq).1)
          have h6 := own6.someI (by simp)
          obtain ⟨g6, c6, rfl⟩ := h6
          refine hK.out _ _ trivial (fun hHeldn => ?_)
          clear hK K hHeld
          have hHeld := hHeldn
          clear hHeldn
          try simp only [Act.put, List.setIfInBounds_toArray, List.set_cons_zero, List.set_cons_succ]
          refine headH_tail (by kernel_rfl) ?_
          clear hHeld
          go_wp2_with (at_builtin; go_must (refine wpList_cat_int _ rfl (.tmp 24) (.tmp 27) rfl w2.heap.size (.slice (some ⟨g6, 0, none⟩) (ys ++ [(i : Int)]).length c6) (ys ++ [(i : Int)]) zs rfl own6 (some ⟨g, tn, none⟩) _ (by rw [HDL.out]; rfl) (HDR.out w6 hb6) (fun e => by cases e) (by rw [List.length_append, HTL.out, HDL.out]; simp; omega) hb6.size ?_; intro v8 w8 own8 hg8 hv8; have hb8 : Below w2.heap.size w2 w8 := hb6.grown hg8 hb6.size (fun q hq => (own6.lt q hq).1); have h8 := own8.someI (by simp); obtain ⟨g8, c8, rfl⟩ := h8))
          have hO8 := own8.mono hz2
          go_roundw
          case rel => exact ⟨i + 1, g8, c8, _, by omega, by go_num, NEW.out.2, NEW.out.1, by rw [show ys.length + (zs.length + 1) = i + 1 by have := HTL.out; have := HDL.out; omega], by rw [NEW.out.2] at hO8; rw [show ys.length + (zs.length + 1) = i + 1 by have := HTL.out; have := HDL.out; omega]; exact hO8, hd'.below hb8⟩
          case measure => simp [intOf]; omega
        · go_simp
          have kk := bdr (kbelow w2.drew (.cells #[.int .i64 (i : Int)] 2))
          have q4 : (w2.drew.alloc (.cells #[.int .i64 (i : Int)] 2)).cell? ⟨w2.heap.size, 0, none⟩ = some (.int .i64 (i : Int)) := by simp [go_sem]
          refine hK.out _ _ trivial (fun hHeldn => ?_)
          clear hK K hHeld
          have hHeld := hHeldn
          clear hHeldn
          try simp only [Act.put, List.setIfInBounds_toArray, List.set_cons_zero, List.set_cons_succ]
          refine headH_all (rs := [3]) (by kernel_rfl) (by kernel_rfl) (headH_cons rfl (fun K hK => ?_) headH_nil)
          go_simp
          refine (HOW.out _ kk).mono ?_
          rintro e w4 ⟨v4, rfl, own4, hb4⟩
          obtain ⟨A4, c4, rfl, _⟩ := own4.see
          have hb5 := btrans kk hb4
          have own5 := own4.mono kk.size
          have q5 := bcell hb4 q4
          refine hK.out _ _ trivial (fun hHeldn => ?_)
          clear hK K hHeld
          have hHeld := hHeldn
          clear hHeldn
          try simp only [Act.put, List.setIfInBounds_toArray, List.set_cons_zero, List.set_cons_succ]
          refine headH_all (rs := [6]) (by kernel_rfl) (by kernel_rfl) (headH_cons rfl (fun K hK => ?_) headH_nil)
          refine step_push_int _ rfl (.tmp 21) (.tmp 23) rfl w2.heap.size (.slice A4 ys.length c4) ys rfl own5 ⟨w2.heap.size, 0, none⟩ (i : Int) rfl q5 (by rw [HTL.out]; omega) hb5.size ?_
          intro v6 w6 own6 hg6 hv6
          have hb6 : Below w2.heap.size w2 w6 := hb5.grown hg6 hb5.size (fun q hq => (own5.lt q hq).1)
          have h6 := own6.someI (by simp)
          obtain ⟨g6, c6, rfl⟩ := h6
          refine hK.out _ _ trivial (fun hHeldn => ?_)
          clear hK K hHeld
          have hHeld := hHeldn
          clear hHeldn
          try simp only [Act.put, List.setIfInBounds_toArray, List.set_cons_zero, List.set_cons_succ]
          refine headH_tail (by kernel_rfl) ?_
          clear hHeld
          go_wp2_with (at_builtin; go_must (refine wpList_cat_int _ rfl (.tmp 24) (.tmp 27) rfl w2.heap.size (.slice (some ⟨g6, 0, none⟩) (ys ++ [(i : Int)]).length c6) (ys ++ [(i : Int)]) zs rfl own6 (some ⟨g, tn, none⟩) _ (by rw [HDL.out]; rfl) (HDR.out w6 hb6) (fun e => by cases e) (by rw [List.length_append, HTL.out, HDL.out]; simp; omega) hb6.size ?_; intro v8 w8 own8 hg8 hv8; have hb8 : Below w2.heap.size w2 w8 := hb6.grown hg8 hb6.size (fun q hq => (own6.lt q hq).1); have h8 := own8.someI (by simp); obtain ⟨g8, c8, rfl⟩ := h8))
          have hO8 := own8.mono hz2
          go_roundw
          case rel => exact ⟨i + 1, g8, c8, _, by omega, by go_num, NEW.out.2, NEW.out.1, by rw [show ys.length + (zs.length + 1) = i + 1 by have := HTL.out; have := HDL.out; omega], by rw [NEW.out.2] at hO8; rw [show ys.length + (zs.length + 1) = i + 1 by have := HTL.out; have := HDL.out; omega]; exact hO8, hd'.below hb8⟩
          case measure => simp [intOf]; omega
      · obtain rfl : tn = cx := by omega
        have p3 : ¬ (tn : Int) < tn := by omega
        go_wp2
        refine wp_region_headS 10 (fun w' => True) (by kernel_rfl) (by kernel_rfl) trivial (fun hHeld => ?_)
        simp only [List.drop]
        refine headH_takeS (i := 0) (v := ?_) 18 rfl (by kernel_rfl) (by kernel_rfl) (fun _ _ _ h => h) (Or.inl ⟨by rfl, ?_⟩) hHeld ?_
        rotate_left
        · intro w hSw
          (try dsimp only at hSw)
          go_simp
          try with_reducible rfl
        try simp only [Act.put, List.setIfInBounds_toArray, List.set_cons_zero, List.set_cons_succ]
        refine headH_takeS (i := 1) (v := ?_) 19 rfl (by kernel_rfl) (by kernel_rfl) (fun _ _ _ h => h) (Or.inl ⟨by rfl, ?_⟩) hHeld ?_
        rotate_left
        · intro w hSw
          (try dsimp only at hSw)
          go_simp
          try with_reducible rfl
        try simp only [Act.put, List.setIfInBounds_toArray, List.set_cons_zero, List.set_cons_succ]
        refine headH_takeS (i := 2) (v := ?_) 20 rfl (by kernel_rfl) (by kernel_rfl) (fun _ _ _ h => h) (Or.inl ⟨by rfl, ?_⟩) hHeld ?_
        rotate_left
        · intro w hSw
          (try dsimp only at hSw)
          go_simp
          try with_reducible rfl
        try simp only [Act.put, List.setIfInBounds_toArray, List.set_cons_zero, List.set_cons_succ]
        refine headH_takeS (i := 4) (v := ?_) 22 rfl (by kernel_rfl) (by kernel_rfl) (fun _ _ _ h => h) (Or.inl ⟨by rfl, ?_⟩) hHeld ?_
        rotate_left
        · intro w hSw
          (try dsimp only at hSw)
          go_simp
          try with_reducible rfl
        try simp only [Act.put, List.setIfInBounds_toArray, List.set_cons_zero, List.set_cons_succ]
        refine headH_takeS (i := 7) (v := ?_) 25 rfl (by kernel_rfl) (by kernel_rfl) (fun _ _ _ h => h) (Or.inl ⟨by rfl, ?_⟩) hHeld ?_
        rotate_left
        · intro w hSw
          (try dsimp only at hSw)
          go_simp
          try with_reducible rfl
        try simp only [Act.put, List.setIfInBounds_toArray, List.set_cons_zero, List.set_cons_succ]
        refine headH_takeS (i := 8) (v := ?_) 26 rfl (by kernel_rfl) (by kernel_rfl) (fun _ _ _ h => h) (Or.inl ⟨by rfl, ?_⟩) hHeld ?_
        rotate_left
        · intro w hSw
          (try dsimp only at hSw)
          go_simp
          try with_reducible rfl
        try simp only [Act.put, List.setIfInBounds_toArray, List.set_cons_zero, List.set_cons_succ]
        refine headH_takeS (i := 9) (v := ?_) 27 rfl (by kernel_rfl) (by kernel_rfl) (fun _ _ _ h => h) (Or.inl ⟨by rfl, ?_⟩) hHeld ?_
        rotate_left
        · intro w hSw
          (try dsimp only at hSw)
          go_simp
          try with_reducible rfl
        try simp only [Act.put, List.setIfInBounds_toArray, List.set_cons_zero, List.set_cons_succ]
        refine headH_all (rs := [3, 5]) (by kernel_rfl) (by kernel_rfl) (headH_cons rfl (fun K hK => ?_) (headH_cons rfl (fun K hK => ?_) headH_nil))
        · go_simp
          refine (HOW.out w2.drew (Below.drew (Below.refl _ _))).mono ?_
          rintro e w4 ⟨v4, rfl, own4, hb4⟩
          obtain ⟨A4, c4, rfl, _⟩ := own4.see
          replace hb4 := bdr hb4
          refine hK.out _ _ trivial (fun hHeldn => ?_)
          clear hK K hHeld
          have hHeld := hHeldn
          clear hHeldn
          try simp only [Act.put, List.setIfInBounds_toArray, List.set_cons_zero, List.set_cons_succ]
          refine headH_all (rs := [5]) (by kernel_rfl) (by kernel_rfl) (headH_cons rfl (fun K hK => ?_) headH_nil)
          go_simp
          have kk := kbelow w4 (.cells #[.int .i64 (i : Int)] 2)
          have hb5 := btrans hb4 kk
          have own5 := own4.below kk
          have q5 : (w4.alloc (.cells #[.int .i64 (i : Int)] 2)).cell? ⟨w4.heap.size, 0, none⟩ = some (.int .i64 (i : Int)) := by simp [go_sem]
          refine hK.out _ _ trivial (fun hHeldn => ?_)
          clear hK K hHeld
          have hHeld := hHeldn
          clear hHeldn
          try simp only [Act.put, List.setIfInBounds_toArray, List.set_cons_zero, List.set_cons_succ]
          refine headH_all (rs := [6]) (by kernel_rfl) (by kernel_rfl) (headH_cons rfl (fun K hK => ?_) headH_nil)
          refine step_push_int _ rfl (.tmp 21) (.tmp 23) rfl w2.heap.size (.slice A4 ys.length c4) ys rfl own5 ⟨w4.heap.size, 0, none⟩ (i : Int) rfl q5 (by rw [HTL.out]; omega) hb5.size ?_
          intro v6 w6 own6 hg6 hv6
          have hb6 : Below w2.heap.size w2 w6 := hb5.grown hg6 hb5.size (fun q hq => (own5.lt q hq).1)
          have h6 := own6.someI (by simp)
          obtain ⟨g6, c6, rfl⟩ := h6
          refine hK.out _ _ trivial (fun hHeldn => ?_)
          clear hK K hHeld
          have hHeld := hHeldn
          clear hHeldn
          try simp only [Act.put, List.setIfInBounds_toArray, List.set_cons_zero, List.set_cons_succ]
          refine headH_tail (by kernel_rfl) ?_
          clear hHeld
          go_wp2_with (at_builtin; go_must (refine wpList_cat_int _ rfl (.tmp 24) (.tmp 27) rfl w2.heap.size (.slice (some ⟨g6, 0, none⟩) (ys ++ [(i : Int)]).length c6) (ys ++ [(i : Int)]) zs rfl own6 (some ⟨g, 0, none⟩) 0 (by rw [show zs.length = 0 by have := HDL.out; omega]; rfl) (fun hne => absurd (List.eq_nil_of_length_eq_zero (by have := HDL.out; omega)) hne) (fun e => by cases e) (by rw [List.length_append, HTL.out, HDL.out]; simp; omega) hb6.size ?_; intro v8 w8 own8 hg8 hv8; have hb8 : Below w2.heap.size w2 w8 := hb6.grown hg8 hb6.size (fun q hq => (own6.lt q hq).1); have h8 := own8.someI (by simp); obtain ⟨g8, c8, rfl⟩ := h8))
          have hO8 := own8.mono hz2
          go_roundw
          case rel => exact ⟨i + 1, g8, c8, _, by omega, by go_num, NEW.out.2, NEW.out.1, by rw [show ys.length + (zs.length + 1) = i + 1 by have := HTL.out; have := HDL.out; omega], by rw [NEW.out.2] at hO8; rw [show ys.length + (zs.length + 1) = i + 1 by have := HTL.out; have := HDL.out; omega]; exact hO8, hd'.below hb8⟩
          case measure => simp [intOf]; omega
        · go_simp
          have kk := bdr (kbelow w2.drew (.cells #[.int .i64 (i : Int)] 2))
          have q4 : (w2.drew.alloc (.cells #[.int .i64 (i : Int)] 2)).cell? ⟨w2.heap.size, 0, none⟩ = some (.int .i64 (i : Int)) := by simp [go_sem]
          refine hK.out _ _ trivial (fun hHeldn => ?_)
          clear hK K hHeld
          have hHeld := hHeldn
          clear hHeldn
          try simp only [Act.put, List.setIfInBounds_toArray, List.set_cons_zero, List.set_cons_succ]
          refine headH_all (rs := [3]) (by kernel_rfl) (by kernel_rfl) (headH_cons rfl (fun K hK => ?_) headH_nil)
          go_simp
          refine (HOW.out _ kk).mono ?_
          rintro e w4 ⟨v4, rfl, own4, hb4⟩
          obtain ⟨A4, c4, rfl, _⟩ := own4.see
          have hb5 := btrans kk hb4
          have own5 := own4.mono kk.size
          have q5 := bcell hb4 q4
          refine hK.out _ _ trivial (fun hHeldn => ?_)
          clear hK K hHeld
          have hHeld := hHeldn
          clear hHeldn
          try simp only [Act.put, List.setIfInBounds_toArray, List.set_cons_zero, List.set_cons_succ]
          refine headH_all (rs := [6]) (by kernel_rfl) (by kernel_rfl) (headH_cons rfl (fun K hK => ?_) headH_nil)
          refine step_push_int _ rfl (.tmp 21) (.tmp 23) rfl w2.heap.size (.slice A4 ys.length c4) ys rfl own5 ⟨w2.heap.size, 0, none⟩ (i : Int) rfl q5 (by rw [HTL.out]; omega) hb5.size ?_
          intro v6 w6 own6 hg6 hv6
          have hb6 : Below w2.heap.size w2 w6 := hb5.grown hg6 hb5.size (fun q hq => (own5.lt q hq).1)
          have h6 := own6.someI (by simp)
          obtain ⟨g6, c6, rfl⟩ := h6
          refine hK.out _ _ trivial (fun hHeldn => ?_)
          clear hK K hHeld
          have hHeld := hHeldn
          clear hHeldn
          try simp only [Act.put, List.setIfInBounds_toArray, List.set_cons_zero, List.set_cons_succ]
          refine headH_tail (by kernel_rfl) ?_
          clear hHeld
          go_wp2_with (at_builtin; go_must (refine wpList_cat_int _ rfl (.tmp 24) (.tmp 27) rfl w2.heap.size (.slice (some ⟨g6, 0, none⟩) (ys ++ [(i : Int)]).length c6) (ys ++ [(i : Int)]) zs rfl own6 (some ⟨g, 0, none⟩) 0 (by rw [show zs.length = 0 by have := HDL.out; omega]; rfl) (fun hne => absurd (List.eq_nil_of_length_eq_zero (by have := HDL.out; omega)) hne) (fun e => by cases e) (by rw [List.length_append, HTL.out, HDL.out]; simp; omega) hb6.size ?_; intro v8 w8 own8 hg8 hv8; have hb8 : Below w2.heap.size w2 w8 := hb6.grown hg8 hb6.size (fun q hq => (own6.lt q hq).1); have h8 := own8.someI (by simp); obtain ⟨g8, c8, rfl⟩ := h8))
          have hO8 := own8.mono hz2
          go_roundw
          case rel => exact ⟨i + 1, g8, c8, _, by omega, by go_num, NEW.out.2, NEW.out.1, by rw [show ys.length + (zs.length + 1) = i + 1 by have := HTL.out; have := HDL.out; omega], by rw [NEW.out.2] at hO8; rw [show ys.length + (zs.length + 1) = i + 1 by have := HTL.out; have := HDL.out; omega]; exact hO8, hd'.below hb8⟩
          case measure => simp [intOf]; omega
    · have ei : i = n := by omega
      subst ei
      have nlt : ¬ (i : Int) < i := by omega
      have HO := Lib.hid own
      have HX := Lib.hid hxl
      have HI := Lib.hid hin
      clear own hxl hin
      go_wp2
      go_returns
      exact ⟨_, rfl, xs, HX.out, HI.out, HO.out, hd⟩
/-- a map made of its images, up to k -/
def madeTo (n : Int) (xs : List Int) (k : Nat) : Mp := mkM n fun i => if i < k then xs.getD i 0 else 0
theorem madeTo_succ (n : Int) {xs : List Int} {k : Nat} {x : Int} (hx : xs[k]? = some x) (h : k < 5) : (madeTo n xs k).set k x = madeTo n xs (k + 1) := Mp.ext' (Mp.set_p _ _ _) fun i hi => by
  rw [Mp.set_to _ h]
  unfold madeTo
  rw [mkM_to _ _ hi, mkM_to _ _ hi]
  by_cases e : i = k
  · subst e
    rw [if_pos rfl, if_pos (by omega), List.getD_eq_getElem?_getD, hx]
    rfl
  · rw [if_neg e]
    by_cases hlt : i < k
    · rw [if_pos hlt, if_pos (by omega)]
    · rw [if_neg hlt, if_neg (by omega)]
theorem madeTo_MpN {n : Nat} {xs : List Int} (h1 : 1 ≤ n) (h5 : n ≤ 5) (hl : xs.length = n) (hx : InN n xs) : MpN (madeTo n xs n) n := by
  refine ⟨⟨by show 1 ≤ (n : Int); omega, by show (n : Int) ≤ 5; omega, fun i hi => ?_⟩, rfl⟩
  unfold madeTo
  rw [mkM_to _ _ hi]
  show ((i : Int) < (n : Int) → _ ∧ _ ≤ (n : Int) - 1) ∧ ((n : Int) ≤ (i : Int) → _)
  constructor
  · intro h
    rw [if_pos (by omega), List.getD_eq_getElem?_getD, List.getElem?_eq_getElem (by omega)]
    have := hx xs[i] (List.getElem_mem (by omega))
    show 0 ≤ xs[i] ∧ xs[i] ≤ _
    omega
  · intro h
    rw [if_neg (by omega)]
/-- a map's cells as one value -/
def mv (m : Mp) : Value := .agg #[.int .i64 m.p, .int .i64 m.a, .int .i64 m.b, .int .i64 m.c, .int .i64 m.d, .int .i64 m.e]
set_option maxHeartbeats 4000000 in
theorem l01Made_c {A : Option Addr} {c : Nat} {xs : List Int} (w : World) (h : SeeInts w A xs) (hl : xs.length ≤ 5) :
    Calls Tryz.prog 134 #[.slice A xs.length c] w fun e w' => e = .returned (.agg #[.int .i64 (madeTo xs.length xs xs.length).p, .int .i64 (madeTo xs.length xs xs.length).a, .int .i64 (madeTo xs.length xs xs.length).b, .int .i64 (madeTo xs.length xs xs.length).c, .int .i64 (madeTo xs.length xs xs.length).d, .int .i64 (madeTo xs.length xs xs.length).e]) ∧ Below w.heap.size w w' := by
  have HS := Lib.hid h
  clear h
  obtain ⟨r, hr⟩ : ∃ r, r = madeTo xs.length xs xs.length := ⟨_, rfl⟩
  rw [← hr]
  have HR := Lib.hid hr
  clear hr
  have b0 : MpBox _ (w.heap.size + 1) (madeTo xs.length xs 0) := MpBox.new (w := w.alloc (.cells #[.int .i64 0, .int .i64 0, .int .i64 0, .int .i64 0, .int .i64 0, .int .i64 0] 27)) (⟨(xs.length : Int), 0, 0, 0, 0, 0⟩ : Mp) 27 (by simp)
  go_enter Tryz.func134, Tryz.ntmps134
  go_wp2
  go_loopw [4] (fun iv wr => ∃ k : Nat, k ≤ xs.length ∧ iv = .int .i64 k ∧ MpBox wr w.heap.size Mp.z ∧ MpBox wr (w.heap.size + 1) (madeTo xs.length xs k) ∧ Below w.heap.size w wr) (fun iv _ => xs.length - (intOf iv).toNat)
  case atStart => exact ⟨0, Nat.zero_le _, rfl, (MpBox.new Mp.z 27 rfl).keep _, b0, by go_grown⟩
  case round =>
    clear b0
    obtain ⟨k, hk, rfl, hz, hm, hb⟩ := hrel
    have l0 : (0 : Int) ≤ k := by omega
    by_cases hlt : k < xs.length
    · obtain ⟨bb, oo, x, rfl, hx, q⟩ := (HS.out.below hb).at_ hlt
      have k5 : k < 5 := by omega
      have l5 : (k : Int) < 5 := by omega
      have l1 : (k : Int) < xs.length := by omega
      have qk := hm.at.to' k5
      have fr := hm.free
      have HSU := Lib.hid (madeTo_succ xs.length hx k5)
      clear hx
      go_wp2
      go_roundw
      case rel => exact ⟨k + 1, by omega, by go_num, hz.far (by simp) _, by rw [← HSU.out]; exact hm.set k5 _, by go_grown⟩
      case measure => simp [intOf]; omega
    · obtain rfl : k = xs.length := by omega
      obtain ⟨q0, q1, q2, q3, q4, q5⟩ := hm.at.cells0
      obtain ⟨z0, z1, z2, z3, z4, z5⟩ := hz.at.cells0
      have fr := hz.free
      have nlt : ¬ (xs.length : Int) < xs.length := by omega
      rw [← HR.out] at q0 q1 q2 q3 q4 q5
      go_wp2
      refine bodyPost_ret (v := .agg #[.int .i64 r.p, .int .i64 r.a, .int .i64 r.b, .int .i64 r.c, .int .i64 r.d, .int .i64 r.e]) (by simp [results, Tryz.results134, go_sem, z0, z1, z2, z3, z4, z5]) rfl ⟨rfl, by go_grown⟩
/-- a store into what is new -/
theorem Drawn.set {w W : World} {b c : Nat} {A : Option Addr} {code : List Int} (h : Drawn w W b A c code) (hb : b < w.heap.size) {a : Addr} (ha : w.heap.size ≤ a.block) (u : Value) : Drawn w (W.setCell a u) b A c code := by
  have hk : Keep (fun k => k ≠ a.block) W (W.setCell a u) := Keep.set (Keep.refl _ W) (fun h => h rfl) u
  refine ⟨h.src.keep (fun k hk => by omega) hk, ⟨hk.os.trans h.keep.os, hk.tape.trans h.keep.tape, hk.output.trans h.keep.output, Nat.le_trans h.keep.size hk.size, fun k hkw hkb => ?_⟩⟩
  exact (hk.block k (Nat.lt_of_lt_of_le hkw h.keep.size) (by omega)).trans (h.keep.block k hkw hkb)
theorem Drawn.set6 {w W : World} {b c : Nat} {A : Option Addr} {code : List Int} (h : Drawn w W b A c code) (hb : b < w.heap.size) {q : Nat} (hq : w.heap.size ≤ q) (u0 u1 u2 u3 u4 u5 : Value) : Drawn w ((((((W.setCell ⟨q, 0, none⟩ u0).setCell ⟨q, 1, none⟩ u1).setCell ⟨q, 2, none⟩ u2).setCell ⟨q, 3, none⟩ u3).setCell ⟨q, 4, none⟩ u4).setCell ⟨q, 5, none⟩ u5) b A c code :=
  (((((h.set hb hq u0).set hb hq u1).set hb hq u2).set hb hq u3).set hb hq u4).set hb hq u5
/-- what a draw of a map hands back -/
def MvPost (R : Mp → Prop) (w : World) (b : Nat) (A : Option Addr) (c : Nat) (code : List Int) (e : Ending) (w' : World) : Prop :=
  ∃ m : Mp, e = .returned (.agg #[.int .i64 m.p, .int .i64 m.a, .int .i64 m.b, .int .i64 m.c, .int .i64 m.d, .int .i64 m.e]) ∧ R m ∧ Drawn w w' b A c code
/-- a map that is filled: n points, images in range -/
def FillN (n : Nat) (m : Mp) : Prop := m.p = (n : Int) ∧ ∀ i, i < 5 → (i < n → 0 ≤ m.to i ∧ m.to i < (n : Int)) ∧ (n ≤ i → m.to i = 0)
theorem FillN.mp {n : Nat} {m : Mp} (h : FillN n m) (h1 : 1 ≤ n) (h5 : n ≤ 5) : MpN m n := ⟨⟨by rw [h.1]; omega, by rw [h.1]; omega, fun i hi => by
  have := h.2 i hi
  rw [h.1]
  exact ⟨fun hlt => by have := this.1 (by omega); omega, fun hge => this.2 (by omega)⟩⟩, h.1⟩
theorem FillN.of {n : Nat} {m : Mp} (h : MpN m n) : FillN n m := ⟨h.2, fun i hi => by
  have h3 := h.1.2.2 i hi
  rw [h.2] at h3
  exact ⟨fun hlt => by have := h3.1 (by omega); omega, fun hge => h3.2 (by omega)⟩⟩
theorem FillN.set {n : Nat} {m : Mp} (h : FillN n m) {i : Nat} (hi : i < n) (h5 : n ≤ 5) {x : Int} (x0 : 0 ≤ x) (x1 : x < n) : FillN n (m.set i x) := ⟨by rw [Mp.set_p]; exact h.1, fun j hj => by
  rw [Mp.set_to m (by omega)]
  have := h.2 j hj
  by_cases e : j = i
  · rw [if_pos e]; exact ⟨fun _ => ⟨x0, x1⟩, fun h => by omega⟩
  · rw [if_neg e]; exact this⟩
/-- images below k in range, all others 0 -/
def FillTo (n k : Nat) (m : Mp) : Prop := m.p = (n : Int) ∧ ∀ i, i < 5 → (i < k → 0 ≤ m.to i ∧ m.to i < (n : Int)) ∧ (k ≤ i → m.to i = 0)
theorem FillTo.zero (n : Nat) : FillTo n 0 ⟨(n : Int), 0, 0, 0, 0, 0⟩ := ⟨rfl, fun i hi => ⟨fun h => by omega, fun _ => by
  match i, hi with
  | 0, _ => rfl
  | 1, _ => rfl
  | 2, _ => rfl
  | 3, _ => rfl
  | 4, _ => rfl⟩⟩
theorem FillTo.set {n k : Nat} {m : Mp} (h : FillTo n k m) (hk : k < 5) {x : Int} (x0 : 0 ≤ x) (x1 : x < n) : FillTo n (k + 1) (m.set k x) := ⟨by rw [Mp.set_p]; exact h.1, fun j hj => by
  rw [Mp.set_to m hk]
  have := h.2 j hj
  by_cases e : j = k
  · rw [if_pos e]; exact ⟨fun _ => ⟨x0, x1⟩, fun h => by omega⟩
  · rw [if_neg e]; exact ⟨fun h => this.1 (by omega), fun h => this.2 (by omega)⟩⟩
theorem FillTo.fill {n : Nat} {m : Mp} (h : FillTo n n m) : FillN n m := h
/-! 'l01DrawOf': a map of n points, drawn. -/
set_option maxHeartbeats 16000000 in
set_option maxRecDepth 100000 in
theorem l01DrawOf_c {b c : Nat} {A : Option Addr} {code : List Int} (n : Nat) (w : World) (h : SrcAt w b A c code) (h1 : 1 ≤ n) (h5 : n ≤ 5) :
    Calls Tryz.prog 119 #[.pointer (some ⟨b, 0, none⟩), .int .i64 (n : Int)] w (MvPost (fun m => MpN m n) w b A c code) := by
  unfold MvPost
  have hlt := h.lt
  obtain ⟨W1, hW1⟩ : ∃ W1, W1 = (w.alloc (.cells #[.int .i64 0, .int .i64 0, .int .i64 0, .int .i64 0, .int .i64 0, .int .i64 0] 27)).alloc (.cells #[.int .i64 (n : Int), .int .i64 0, .int .i64 0, .int .i64 0, .int .i64 0, .int .i64 0] 27) := ⟨_, rfl⟩
  have k1 : Below w.heap.size w W1 := by rw [hW1]; go_grown
  have bz : MpBox W1 w.heap.size Mp.z := by rw [hW1]; exact (MpBox.new Mp.z 27 rfl).keep _
  have bm : MpBox W1 (w.heap.size + 1) (⟨(n : Int), 0, 0, 0, 0, 0⟩ : Mp) := by rw [hW1]; exact MpBox.new (⟨(n : Int), 0, 0, 0, 0, 0⟩ : Mp) 27 (by rw [World.size_alloc])
  have d1 : Drawn w W1 b A c code := (Drawn.refl h).below k1
  have hnx := l01Next_c 6 W1 d1.src (by omega)
  have HNX := Lib.hid hnx
  have n0 : (0 : Int) ≤ n := by omega
  have n1 : (n : Int) ≤ 5 := by omega
  clear hnx
  go_enter Tryz.func119, Tryz.ntmps119
  go_wp2_with fail
  rw [← hW1]
  clear hW1
  refine HNX.out.mono ?_
  rintro e w2 ⟨x, rfl, hx, _, hd2⟩
  obtain ⟨x0, x6⟩ := hx (by omega)
  have hd := d1.trans hd2
  have bz2 := bz.drawn (by omega) hd2
  have bm2 := bm.drawn (by omega) hd2
  have z2 := hd.keep.size
  have zw : w.heap.size + 1 < w2.heap.size := bm2.lt
  clear hx hd2 bz bm d1 HNX k1
  by_cases e0 : x = 0
  · subst e0
    have ho := l01DrawOrder_c n w2 hd.src h5
    have HO := Lib.hid ho
    clear ho
    go_wp2_with fail
    refine HO.out.mono ?_
    rintro e w3 ⟨v3, xs, rfl, hxl, hin, own3, hd3⟩
    obtain ⟨A3, c3, rfl, s3⟩ := own3.see
    have hmd := l01Made_c (c := c3) w3 s3 (by omega)
    rw [hxl] at hmd ⊢
    have HMD := Lib.hid hmd
    have hmp := madeTo_MpN h1 h5 hxl hin
    generalize madeTo (n : Int) xs n = r at *
    have HMP := Lib.hid hmp
    have hd' := hd.trans hd3
    have bz3 := bz2.drawn (by omega) hd3
    clear hmd hmp s3 own3 hxl hin bz2
    go_wp2_with fail
    refine HMD.out.mono ?_
    rintro e w4 ⟨rfl, hb4⟩
    have bz4 := bz3.below hb4
    obtain ⟨z0, z1, z2, z3, z4, z5⟩ := bz4.at.cells0
    have fr := bz4.free
    have hd4 := hd'.below hb4
    have zz := bz4.lt
    go_wp2
    refine bodyPost_ret (v := .agg #[.int .i64 r.p, .int .i64 r.a, .int .i64 r.b, .int .i64 r.c, .int .i64 r.d, .int .i64 r.e]) (by simp [results, Tryz.results119, go_sem, z0, z1, z2, z3, z4, z5]) rfl ⟨r, rfl, HMP.out, ?_⟩
    exact hd4.set6 hlt (Nat.le_refl _) _ _ _ _ _ _
  · by_cases e1 : x = 1
    · subst e1
      have d0 : ((1 : Int) == 0) = false := rfl
      have HID := Lib.hid (fun W => l01Identity_c (n : Int) W (by omega) (by omega))
      have hnx := fun W (hs : SrcAt W b A c code) => l01Next_c (n : Int) W hs (by omega)
      have HNX := Lib.hid hnx
      have hn2 := fun W (hs : SrcAt W b A c code) => l01Next_c 2 W hs (by omega)
      have HN2 := Lib.hid hn2
      have hid := FillN.of (idM_MpN (n := (n : Int)) (by omega) (by omega))
      generalize idM (n : Int) = m1 at *
      have HFI := Lib.hid hid
      clear hnx hn2 hid
      obtain ⟨bm0, bm1, bm2', bm3, bm4, bm5⟩ := bm2.at.cells0
      have bmf := bm2.free
      go_wp2_with fail
      refine (HID.out w2).mono ?_
      rintro e w3 ⟨rfl, hb3⟩
      have bm3 := bm2.below hb3
      have bz3 := bz2.below hb3
      have hd3 := hd.below hb3
      obtain ⟨c0, c1, c2, c3, c4, c5⟩ := bm3.at.cells0
      have cf := bm3.free
      have bm4 := bm3.store m1
      have bz4 : MpBox ((((((w3.setCell ⟨w.heap.size + 1, 0, none⟩ (.int .i64 m1.p)).setCell ⟨w.heap.size + 1, 1, none⟩ (.int .i64 m1.a)).setCell ⟨w.heap.size + 1, 2, none⟩ (.int .i64 m1.b)).setCell ⟨w.heap.size + 1, 3, none⟩ (.int .i64 m1.c)).setCell ⟨w.heap.size + 1, 4, none⟩ (.int .i64 m1.d)).setCell ⟨w.heap.size + 1, 5, none⟩ (.int .i64 m1.e)) w.heap.size Mp.z := by
        iterate 6 refine MpBox.far ?_ (by simp) _
        exact bz3
      have hd4 := hd3.set6 hlt (Nat.le_succ _) (.int .i64 m1.p) (.int .i64 m1.a) (.int .i64 m1.b) (.int .i64 m1.c) (.int .i64 m1.d) (.int .i64 m1.e)
      obtain ⟨W4, hW4⟩ : ∃ W4, W4 = ((((((w3.setCell ⟨w.heap.size + 1, 0, none⟩ (.int .i64 m1.p)).setCell ⟨w.heap.size + 1, 1, none⟩ (.int .i64 m1.a)).setCell ⟨w.heap.size + 1, 2, none⟩ (.int .i64 m1.b)).setCell ⟨w.heap.size + 1, 3, none⟩ (.int .i64 m1.c)).setCell ⟨w.heap.size + 1, 4, none⟩ (.int .i64 m1.d)).setCell ⟨w.heap.size + 1, 5, none⟩ (.int .i64 m1.e)) := ⟨_, rfl⟩
      have HW4 := Lib.hid hW4
      rw [← hW4] at bm4 bz4 hd4
      clear hW4 bm0 bm1 bm2' bm3 bmf bm2 bz2 bz3 hd3 hd
      go_wp2_with fail
      rw [← HW4.out]
      refine (HNX.out W4 hd4.src).mono ?_
      rintro e w5 ⟨f, rfl, hf, _, hd5⟩
      obtain ⟨f0, f1⟩ := hf (by omega)
      have bm5 := bm4.drawn (by omega) hd5
      have bz5 := bz4.drawn (by omega) hd5
      have hd5' := hd4.trans hd5
      have fill := HFI.out
      clear bm4 bz4 hd4 hd5 c0 c1 c2 c3 c4 c5 cf hf HID HNX HFI
      go_wp2
      go_loopw [7] (fun iv wr => ∃ (i : Nat) (m : Mp), i ≤ n ∧ iv = .int .i64 i ∧ FillN n m ∧ MpBox wr (w.heap.size + 1) m ∧ MpBox wr w.heap.size Mp.z ∧ Drawn w wr b A c code) (fun iv _ => n - (intOf iv).toNat)
      case atStart => exact ⟨0, _, Nat.zero_le _, rfl, fill, bm5, bz5, hd5'⟩
      case round =>
        clear bm5 bz5 hd5' fill
        obtain ⟨i, m, hi, rfl, fill, bm, bz, hd⟩ := hrel
        have i0 : (0 : Int) ≤ i := by omega
        by_cases hin : i < n
        · have i1 : (i : Int) < n := by omega
          have i5 : i < 5 := by omega
          have i5' : (i : Int) < 5 := by omega
          go_wp2_with fail
          refine (HN2.out wr hd.src).mono ?_
          rintro e w6 ⟨y, rfl, _, _, hd6⟩
          have bm6 := bm.drawn (by omega) hd6
          have bz6 := bz.drawn (by omega) hd6
          have hd6' := hd.trans hd6
          have qk := bm6.at.to' i5
          have fr := bm6.free
          by_cases ey : y = 0
          · subst ey
            go_wp2
            go_roundw
            case rel => exact ⟨i + 1, _, by omega, by go_num, fill.set hin h5 f0 f1, bm6.set i5 f, bz6.far (by simp) _, hd6'.set hlt (Nat.le_succ _) _⟩
            case measure => simp [intOf]; omega
          · have dy : (y == 0) = false := beq_eq_false_iff_ne.2 ey
            go_wp2
            go_roundw
            case rel => exact ⟨i + 1, m, by omega, by go_num, fill, bm6, bz6, hd6'⟩
            case measure => simp [intOf]; omega
        · have ei : i = n := by omega
          have nlt : ¬ (i : Int) < n := by omega
          have f5 : f < 5 := by omega
          have qk := bm.at.to' (i := f.toNat) (by omega)
          have fr := bm.free
          have bmS := bm.set (i := f.toNat) (by omega) f
          have bzS := bz.far (a := ⟨w.heap.size + 1, 1 + f.toNat, none⟩) (by simp) (.int .i64 f)
          have hdS := hd.set hlt (a := ⟨w.heap.size + 1, 1 + f.toNat, none⟩) (Nat.le_succ _) (.int .i64 f)
          have fillS := fill.set (i := f.toNat) (by omega) h5 f0 f1
          obtain ⟨r, hr⟩ : ∃ r : Mp, r = m.set f.toNat f := ⟨_, rfl⟩
          rw [← hr] at bmS fillS
          have HMP := Lib.hid (fillS.mp h1 h5)
          obtain ⟨m0, m1', m2, m3, m4, m5⟩ := bmS.at.cells0
          obtain ⟨z0, z1, z2, z3, z4, z5⟩ := bzS.at.cells0
          have frz := bzS.free
          have zlt := bzS.lt
          clear hr ei hin fill fillS
          go_wp2
          refine bodyPost_ret (v := .agg #[.int .i64 r.p, .int .i64 r.a, .int .i64 r.b, .int .i64 r.c, .int .i64 r.d, .int .i64 r.e]) (by simp [results, Tryz.results119, go_sem, z0, z1, z2, z3, z4, z5]) rfl ⟨r, rfl, HMP.out, ?_⟩
          exact hdS.set6 hlt (Nat.le_refl _) _ _ _ _ _ _
    · have d0 : (x == 0) = false := beq_eq_false_iff_ne.2 e0
      have d1 : (x == 1) = false := beq_eq_false_iff_ne.2 e1
      have hnx := fun W (hs : SrcAt W b A c code) => l01Next_c (n : Int) W hs (by omega)
      have HNX := Lib.hid hnx
      clear hnx
      by_cases e2 : x = 2
      · subst e2
        go_wp2_with fail
        refine (HNX.out w2 hd.src).mono ?_
        rintro e w3 ⟨u, rfl, hu, _, hd3⟩
        obtain ⟨u0, u1⟩ := hu (by omega)
        have hd3' := hd.trans hd3
        go_wp2_with fail
        refine (HNX.out w3 hd3'.src).mono ?_
        rintro e w4 ⟨v, rfl, hv, _, hd4⟩
        obtain ⟨v0, v1⟩ := hv (by omega)
        have hd4' := hd3'.trans hd4
        have bm4 := (bm2.drawn (by omega) hd3).drawn (by omega) hd4
        have bz4 := (bz2.drawn (by omega) hd3).drawn (by omega) hd4
        have fill0 := FillTo.zero n
        clear hu hv hd hd3 hd3' hd4 bm2 bz2 HNX
        go_wp2
        go_loopw [10] (fun iv wr => ∃ (i : Nat) (m : Mp), i ≤ n ∧ iv = .int .i64 i ∧ FillTo n i m ∧ MpBox wr (w.heap.size + 1) m ∧ MpBox wr w.heap.size Mp.z ∧ Drawn w wr b A c code) (fun iv _ => n - (intOf iv).toNat)
        case atStart => exact ⟨0, _, Nat.zero_le _, rfl, fill0, bm4, bz4, hd4'⟩
        case round =>
          clear bm4 bz4 hd4' fill0
          obtain ⟨i, m, hi, rfl, fill, bm, bz, hd⟩ := hrel
          have i0 : (0 : Int) ≤ i := by omega
          by_cases hin : i < n
          · have i1 : (i : Int) < n := by omega
            have i5 : i < 5 := by omega
            have i5' : (i : Int) < 5 := by omega
            have kk := kbelow wr (.cells #[.int .i64 u, .int .i64 v] 2)
            have sl : SeeInts (wr.alloc (.cells #[.int .i64 u, .int .i64 v] 2)) (some ⟨wr.heap.size, 0, none⟩) [u, v] := fun _ => ⟨wr.heap.size, 0, rfl, fun k x hk => by
              match k, hk with
              | 0, hk => simp at hk; subst hk; simp [go_sem]
              | 1, hk => simp at hk; subst hk; simp [go_sem]⟩
            have hz := hd.keep.size
            have hpk := l01Pick_c (cL := 2) [u, v] _ (hd.below kk).src sl (fun a ha => by have := Option.some.inj ha; subst this; show wr.heap.size ≠ b; omega) (by simp) (by simp)
            have hpk' : Calls Tryz.prog 90 #[.pointer (some ⟨b, 0, none⟩), .slice (some ⟨wr.heap.size, 0, none⟩) 2 2] _ fun e w' => ∃ x : Int, e = .returned (.int .i64 x) ∧ x ∈ [u, v] ∧ Drawn _ w' b A c code := hpk
            have HPK := Lib.hid hpk'
            have hdk := hd.below kk
            have bmk := bm.below kk
            have bzk := bz.below kk
            clear sl hpk hpk' bm bz hd kk
            go_wp2_with fail
            refine HPK.out.mono ?_
            rintro e w6 ⟨y, rfl, hy, hd6⟩
            have y01 : 0 ≤ y ∧ y < (n : Int) := by
              rcases List.mem_cons.1 hy with rfl | hy
              · exact ⟨u0, u1⟩
              · rcases List.mem_cons.1 hy with rfl | hy
                · exact ⟨v0, v1⟩
                · cases hy
            obtain ⟨y0, y1⟩ := y01
            have bm6 := bmk.drawn (by omega) hd6
            have bz6 := bzk.drawn (by omega) hd6
            have hd6' := hdk.trans hd6
            have qk := bm6.at.to' i5
            have fr := bm6.free
            clear hy
            go_wp2
            go_roundw
            case rel => exact ⟨i + 1, _, by omega, by go_num, fill.set i5 y0 y1, bm6.set i5 y, bz6.far (by simp) _, hd6'.set hlt (Nat.le_succ _) _⟩
            case measure => simp [intOf]; omega
          · have ei : i = n := by omega
            have nlt : ¬ (i : Int) < n := by omega
            subst ei
            obtain ⟨r, hr⟩ : ∃ r : Mp, r = m := ⟨_, rfl⟩
            rw [← hr] at bm fill
            have HMP := Lib.hid (FillN.mp fill h1 h5)
            obtain ⟨m0, m1, m2, m3, m4, m5⟩ := bm.at.cells0
            obtain ⟨z0, z1, z2, z3, z4, z5⟩ := bz.at.cells0
            have frz := bz.free
            have zlt := bz.lt
            clear hr hin fill
            go_wp2
            refine bodyPost_ret (v := .agg #[.int .i64 r.p, .int .i64 r.a, .int .i64 r.b, .int .i64 r.c, .int .i64 r.d, .int .i64 r.e]) (by simp [results, Tryz.results119, go_sem, z0, z1, z2, z3, z4, z5]) rfl ⟨r, rfl, HMP.out, ?_⟩
            exact hd.set6 hlt (Nat.le_refl _) _ _ _ _ _ _
      · have d2 : (x == 2) = false := beq_eq_false_iff_ne.2 e2
        have fill0 := FillTo.zero n
        go_wp2
        go_loopw [11] (fun iv wr => ∃ (i : Nat) (m : Mp), i ≤ n ∧ iv = .int .i64 i ∧ FillTo n i m ∧ MpBox wr (w.heap.size + 1) m ∧ MpBox wr w.heap.size Mp.z ∧ Drawn w wr b A c code) (fun iv _ => n - (intOf iv).toNat)
        case atStart => exact ⟨0, _, Nat.zero_le _, rfl, fill0, bm2, bz2, hd⟩
        case round =>
          clear bm2 bz2 hd fill0
          obtain ⟨i, m, hi, rfl, fill, bm, bz, hd⟩ := hrel
          have i0 : (0 : Int) ≤ i := by omega
          by_cases hin : i < n
          · have i1 : (i : Int) < n := by omega
            have i5 : i < 5 := by omega
            have i5' : (i : Int) < 5 := by omega
            go_wp2_with fail
            refine (HNX.out wr hd.src).mono ?_
            rintro e w6 ⟨y, rfl, hy, _, hd6⟩
            obtain ⟨y0, y1⟩ := hy (by omega)
            have bm6 := bm.drawn (by omega) hd6
            have bz6 := bz.drawn (by omega) hd6
            have hd6' := hd.trans hd6
            have qk := bm6.at.to' i5
            have fr := bm6.free
            clear hy
            go_wp2
            go_roundw
            case rel => exact ⟨i + 1, _, by omega, by go_num, fill.set i5 y0 y1, bm6.set i5 y, bz6.far (by simp) _, hd6'.set hlt (Nat.le_succ _) _⟩
            case measure => simp [intOf]; omega
          · have ei : i = n := by omega
            have nlt : ¬ (i : Int) < n := by omega
            subst ei
            obtain ⟨r, hr⟩ : ∃ r : Mp, r = m := ⟨_, rfl⟩
            rw [← hr] at bm fill
            have HMP := Lib.hid (FillN.mp fill h1 h5)
            obtain ⟨m0, m1, m2, m3, m4, m5⟩ := bm.at.cells0
            obtain ⟨z0, z1, z2, z3, z4, z5⟩ := bz.at.cells0
            have frz := bz.free
            have zlt := bz.lt
            clear hr hin fill
            go_wp2
            refine bodyPost_ret (v := .agg #[.int .i64 r.p, .int .i64 r.a, .int .i64 r.b, .int .i64 r.c, .int .i64 r.d, .int .i64 r.e]) (by simp [results, Tryz.results119, go_sem, z0, z1, z2, z3, z4, z5]) rfl ⟨r, rfl, HMP.out, ?_⟩
            exact hd.set6 hlt (Nat.le_refl _) _ _ _ _ _ _
end Go.Proofs.YtilfamenadaboaaGreat
