/- 'Accepts', on both sides. No condition. -/
import Derived.Test.YtbodaefdaagelaaLast
namespace Go.Proofs.Ytbodaefdaagelaa
set_option linter.unusedSimpArgs false
set_option linter.unusedVariables false
set_option linter.unusedSectionVars false
open Go.RowKit
noncomputable def RAccepts (ms : List Mp) (f : Int) (ls word : List Int) : Bool × Int := if accB ms f ls = true then (if isWordB ms.length word 40 = true then (decide (runW ms word f ∈ ls), 0) else (false, 2)) else (false, 1)
theorem isWord_in {l : Nat} {word : List Int} {most : Int} (h : isWordB l word most = true) : InL l word ∧ (word.length : Int) ≤ most := by
  have := of_decide_eq_true h
  exact ⟨this.2, this.1⟩
theorem index_at (m : Mp) {p : Int} (h0 : 0 ≤ p) (h1 : p < 5) (w : World) : (Instr.index 65 (.agg #[.int .i64 m.a, .int .i64 m.b, .int .i64 m.c, .int .i64 m.d, .int .i64 m.e]) (.int .i64 p)).run Try.prog w = .ok (.int .i64 (m.at p)) w := by
  have := index_arr m (k := p.toNat) (by omega) w
  rw [Int.toNat_of_nonneg h0] at this
  exact this
theorem field_arr (m : Mp) (w : World) : (Instr.field 67 (.agg #[.int .i64 m.p, .int .i64 m.a, .int .i64 m.b, .int .i64 m.c, .int .i64 m.d, .int .i64 m.e]) 1).run Try.prog w = .ok (.agg #[.int .i64 m.a, .int .i64 m.b, .int .i64 m.c, .int .i64 m.d, .int .i64 m.e]) w := by kernel_rfl
set_option maxHeartbeats 2000000 in
theorem implAccepts_c (A A' D : Option Addr) (c c' d : Nat) (ms : List Mp) (f : Int) (ls word : List Int) (w : World) (h : SeeMaps w A ms) (hn : ms.length ≤ 2097152) (hA : NilOk A c) (h' : SeeInts w A' ls) (hn' : ls.length ≤ 2097152) (k' : SeeInts w D word) (kn' : word.length ≤ 2097152) :
    Calls Try.prog 22 #[.agg #[.slice A ms.length c, .int .i64 f, .slice A' ls.length c'], .slice D word.length d] w fun e w' => e = .returned (.tuple #[.bool (RAccepts ms f ls word).1, .int .i64 (RAccepts ms f ls word).2]) ∧ Below w.heap.size w w' := by
  have k0 : Below w.heap.size w (w.alloc (Obj.cells #[Value.slice A ms.length c, .int .i64 f, Value.slice A' ls.length c'] 30)) := by go_grown
  obtain ⟨b0, b1, b2⟩ := AccBox w A A' ms.length c ls.length c' f 30
  have hs := (h.below k0).bw
  have hs' := (h'.below k0).bw
  have ks' := (k'.below k0).bw
  cases hacc : accB ms f ls
  · have e1 : RAccepts ms f ls word = (false, 1) := by simp [RAccepts, hacc]
    rw [e1]
    clear e1
    go_enter Try.func22, Try.ntmps22
    go_wp2_with (go_at_call 18; go_must (refine (valB (IsAcceptor_c _ _ _ _ ms f ls _ (h.below k0) hn hA (h'.below k0) hn') hacc).mono ?_); rintro e w2 ⟨rfl, hb2⟩)
    go_returns
    exact ⟨rfl, btrans k0 hb2⟩
  · have HR := RightA.of hacc
    cases hwd : isWordB ms.length word 40
    · have e1 : RAccepts ms f ls word = (false, 2) := by simp [RAccepts, hacc, hwd]
      rw [e1]
      clear e1
      go_enter Try.func22, Try.ntmps22
      go_wp2_with (first | (go_at_call 18; go_must (refine (valB (IsAcceptor_c _ _ _ _ ms f ls _ (h.below k0) hn hA (h'.below k0) hn') hacc).mono ?_); rintro e w2 ⟨rfl, hb2⟩; have q0 := b0 ⟨w2, hb2⟩; have q1 := b1 ⟨w2, hb2⟩; have q2 := b2 ⟨w2, hb2⟩) | (go_at_call 66; go_must (refine (valB (isWord_c _ _ _ _ ms word 40 _ hn (ks' ⟨w2, hb2⟩) kn' (by decide) (by decide)) hwd).mono ?_); rintro e w3 ⟨rfl, hb3⟩))
      go_returns
      exact ⟨rfl, btrans (btrans k0 hb2) hb3⟩
    · have e1 : RAccepts ms f ls word = (decide ((mapW ms word).at f ∈ ls), 0) := by
        simp only [RAccepts, hacc, hwd, if_true]
        rw [mapW_at HR.list (isWord_in hwd).1 HR.f0 HR.f1]
      rw [e1]
      clear e1
      have hf5 : f < 5 := by have := HR.list.bounds; have := HR.f1; omega
      have hf0 := HR.f0
      have gi := index_at (mapW ms word) hf0 hf5
      have gf := field_arr (mapW ms word)
      have HL := Lib.hid HR.list
      have HI := Lib.hid (isWord_in hwd).1
      clear HR
      go_enter Try.func22, Try.ntmps22
      go_wp2_with (first | (go_at_call 18; go_must (refine (valB (IsAcceptor_c _ _ _ _ ms f ls _ (h.below k0) hn hA (h'.below k0) hn') hacc).mono ?_); rintro e w2 ⟨rfl, hb2⟩; have q0 := b0 ⟨w2, hb2⟩; have q1 := b1 ⟨w2, hb2⟩; have q2 := b2 ⟨w2, hb2⟩) | (go_at_call 66; go_must (refine (valB (isWord_c _ _ _ _ ms word 40 _ hn (ks' ⟨w2, hb2⟩) kn' (by decide) (by decide)) hwd).mono ?_); rintro e w3 ⟨rfl, hb3⟩))
      have hb4 := btrans hb2 hb3
      have z0 := bwcell (b0 ⟨w3, hb4⟩)
      have z1 := bwcell (b1 ⟨w3, hb4⟩)
      have z2 := bwcell (b2 ⟨w3, hb4⟩)
      have ys := (hs ⟨w3, hb4⟩).bw
      have ys' := (hs' ⟨w3, hb4⟩).bw
      have yk := (ks' ⟨w3, hb4⟩).bw
      clear b0 b1 b2 hs hs' ks' q0 q1 q2
      refine wp_region_bw (by kernel_rfl) (by kernel_rfl) ?_
      repeat go_big_quiet_step (first | (go_at_call 68; exact Calls.bw _ (mapOf_c _ _ _ _ ms _ word _ HL.out (ys _) (yk _) kn' HI.out)) | (go_at_call 67; exact Calls.bw _ (isLast_c _ A' c' ls _ _ (z2 _) (ys' _) hn')))
      refine wpQuiet_nil ?_
      rintro _ ⟨⟨w4, hb5⟩, rfl⟩
      go_wp2
      go_returns
      exact ⟨rfl, btrans (btrans k0 hb4) hb5⟩
theorem runW_take {ms : List Mp} {word : List Int} {k : Nat} {x : Int} (hk : word[k]? = some x) (p : Int) : runW ms (word.take (k + 1)) p = (nth ms x).at (runW ms (word.take k) p) := by
  unfold runW
  rw [List.take_add_one, hk]
  simp [List.foldl_append]
theorem InL.take {l : Nat} {word : List Int} (h : InL l word) (k : Nat) : InL l (word.take k) := fun x hx => h x (List.mem_of_mem_take hx)
set_option maxHeartbeats 2000000 in
theorem specAccepts_c (A A' D : Option Addr) (c c' d : Nat) (ms : List Mp) (f : Int) (ls word : List Int) (w : World) (h : SeeMaps w A ms) (hn : ms.length ≤ 2097152) (h' : SeeInts w A' ls) (hn' : ls.length ≤ 2097152) (k' : SeeInts w D word) (kn' : word.length ≤ 2097152) :
    Calls Try.prog 20 #[.agg #[.slice A ms.length c, .int .i64 f, .slice A' ls.length c'], .slice D word.length d] w fun e w' => e = .returned (.tuple #[.bool (RAccepts ms f ls word).1, .int .i64 (RAccepts ms f ls word).2]) ∧ Below w.heap.size w w' := by
  have k0 : Below w.heap.size w (w.alloc (Obj.cells #[Value.slice A ms.length c, .int .i64 f, Value.slice A' ls.length c'] 30)) := by go_grown
  obtain ⟨b0, b1, b2⟩ := AccBox w A A' ms.length c ls.length c' f 30
  have hs := (h.below k0).bw
  have hs' := (h'.below k0).bw
  have ks' := (k'.below k0).bw
  cases hacc : accB ms f ls
  · have e1 : RAccepts ms f ls word = (false, 1) := by simp [RAccepts, hacc]
    rw [e1]
    clear e1
    go_enter Try.func20, Try.ntmps20
    go_wp2_with (go_at_call 58; go_must (refine (valB (l07Is_c _ _ _ _ ms f ls _ (h.below k0) hn (h'.below k0) hn') hacc).mono ?_); rintro e w2 ⟨rfl, hb2⟩)
    go_returns
    exact ⟨rfl, btrans k0 hb2⟩
  · have HR := RightA.of hacc
    cases hwd : isWordB ms.length word 40
    · have e1 : RAccepts ms f ls word = (false, 2) := by simp [RAccepts, hacc, hwd]
      rw [e1]
      clear e1
      go_enter Try.func20, Try.ntmps20
      go_wp2_with (first | (go_at_call 58; go_must (refine (valB (l07Is_c _ _ _ _ ms f ls _ (h.below k0) hn (h'.below k0) hn') hacc).mono ?_); rintro e w2 ⟨rfl, hb2⟩; have q0 := b0 ⟨w2, hb2⟩; have q1 := b1 ⟨w2, hb2⟩; have q2 := b2 ⟨w2, hb2⟩) | (go_at_call 64; go_must (refine (valB (l05Word_c _ _ _ _ ms word _ hn (ks' ⟨w2, hb2⟩) kn') hwd).mono ?_); rintro e w3 ⟨rfl, hb3⟩))
      go_returns
      exact ⟨rfl, btrans (btrans k0 hb2) hb3⟩
    · have e1 : RAccepts ms f ls word = (decide (runW ms word f ∈ ls), 0) := by simp only [RAccepts, hacc, hwd, if_true]
      rw [e1]
      clear e1
      have hf1 := HR.f1
      have hf0 := HR.f0
      have hn5 := HR.list.bounds.2
      have HL := Lib.hid HR.list
      have HI := Lib.hid (isWord_in hwd).1
      have HP := Lib.hid HR.pts
      generalize (ms.headD Mp.z).p = n at *
      clear HR
      go_enter Try.func20, Try.ntmps20
      go_wp2_with (first | (go_at_call 58; go_must (refine (valB (l07Is_c _ _ _ _ ms f ls _ (h.below k0) hn (h'.below k0) hn') hacc).mono ?_); rintro e w2 ⟨rfl, hb2⟩; have q0 := b0 ⟨w2, hb2⟩; have q1 := b1 ⟨w2, hb2⟩; have q2 := b2 ⟨w2, hb2⟩) | (go_at_call 64; go_must (refine (valB (l05Word_c _ _ _ _ ms word _ hn (ks' ⟨w2, hb2⟩) kn') hwd).mono ?_); rintro e w3 ⟨rfl, hb3⟩; have q0' : w3.cell? ⟨w.heap.size, 0, none⟩ = some (.slice A ms.length c) := b0 ⟨w3, btrans hb2 hb3⟩; have q1' : w3.cell? ⟨w.heap.size, 1, none⟩ = some (.int .i64 f) := b1 ⟨w3, btrans hb2 hb3⟩; have q2' : w3.cell? ⟨w.heap.size, 2, none⟩ = some (.slice A' ls.length c') := b2 ⟨w3, btrans hb2 hb3⟩))
      have hb4 := btrans k0 (btrans hb2 hb3)
      have hsA : SeeMaps w3 A ms := hs ⟨w3, btrans hb2 hb3⟩
      have hsL : SeeInts w3 A' ls := hs' ⟨w3, btrans hb2 hb3⟩
      have hsW : SeeInts w3 D word := ks' ⟨w3, btrans hb2 hb3⟩
      clear q0 q1 q2 b0 b1 b2 hs hs' ks' hb2 hb3 h h' k' k0 hacc hwd
      go_loopw [7, 6] (fun i p wr => ∃ k : Nat, k ≤ word.length ∧ i = .int .i64 k ∧ p = .int .i64 (runW ms (word.take k) f) ∧ Below w3.heap.size w3 wr) (fun i _ _ => word.length - (intOf i).toNat)
      case atStart => exact ⟨0, Nat.zero_le _, rfl, rfl, Below.refl _ _⟩
      case round =>
        obtain ⟨k, hk, rfl, rfl, hb⟩ := hrel
        obtain ⟨p0, p1⟩ := runW_lt HL.out (word.take k) f (HI.out.take k) hf0 hf1
        by_cases hlt : k < word.length
        · obtain ⟨bw, ow, x, rfl, hx, q⟩ := (hsW.below hb).at_ hlt
          have hxr := HI.out x (List.mem_of_getElem? hx)
          obtain ⟨b, o, rfl, g⟩ := (hsA.below hb).nthAt hxr.1 (by omega)
          have gx := bwcell (g.to (i := (runW ms (word.take k) f).toNat) (by omega))
          have e : (nth ms x).to (runW ms (word.take k) f).toNat = (nth ms x).at (runW ms (word.take k) f) := rfl
          rw [e, ← runW_take hx] at gx
          have gq := bwcell q
          have z0 := bwcell (bcell hb q0')
          have x0 := hxr.1
          have x1 : x < ms.length := by omega
          have x5 : runW ms (word.take k) f < 5 := by omega
          have hl : (0 : Int) ≤ k := by omega
          have hl' : (k : Int) < word.length := by omega
          generalize runW ms (word.take k) f = p at *
          have HX := Lib.hid hx
          clear hx hxr e g hsW hsA hsL q0' q1' q2' q
          go_wp2
          refine wp_region_bw (by kernel_rfl) (by kernel_rfl) ?_
          repeat go_big_quiet_step (fail)
          refine wpQuiet_nil ?_
          rintro _ ⟨⟨w2, hb2⟩, rfl⟩
          go_wp2
          go_roundw
          case rel => exact ⟨k + 1, by omega, by go_num, rfl, btrans hb hb2⟩
          case measure => simp [intOf]; omega
        · obtain rfl : k = word.length := by omega
          rw [List.take_length] at *
          have z0 := bcell hb q0'
          have z1 := bcell hb q1'
          have z2 := bcell hb q2'
          clear q0' q1' q2'
          go_wp2_with (go_at_call 65; go_must (refine (l07Last_c _ A' _ _ c' f ls _ _ (hsL.below hb) hn' HP.out p0 (by omega)).mono ?_); rintro e w5 ⟨rfl, hb5⟩)
          go_returns
          exact ⟨rfl, btrans hb4 (btrans hb hb5)⟩
theorem implAccepts_l {A A' D : Option Addr} {c c' d : Nat} {ms : List Mp} {f : Int} {ls word : List Int} {w : World} (h : SeeMaps w A ms) (hn : ms.length ≤ 2097152) (hA : NilOk A c) (h' : SeeInts w A' ls) (hn' : ls.length ≤ 2097152) (_ : NilOk A' c') (k' : SeeInts w D word) (kn' : word.length ≤ 2097152) (_ : NilOk D d) :
    Calls Try.prog 22 #[.agg #[.slice A ms.length c, .int .i64 f, .slice A' ls.length c'], .slice D word.length d] w fun e w' => e = .returned (.tuple #[.bool (RAccepts ms f ls word).1, .int .i64 (RAccepts ms f ls word).2]) ∧ Below w.heap.size w w' := implAccepts_c A A' D c c' d ms f ls word w h hn hA h' hn' k' kn'
theorem specAccepts_l {A A' D : Option Addr} {c c' d : Nat} {ms : List Mp} {f : Int} {ls word : List Int} {w : World} (h : SeeMaps w A ms) (hn : ms.length ≤ 2097152) (_ : NilOk A c) (h' : SeeInts w A' ls) (hn' : ls.length ≤ 2097152) (_ : NilOk A' c') (k' : SeeInts w D word) (kn' : word.length ≤ 2097152) (_ : NilOk D d) :
    Calls Try.prog 20 #[.agg #[.slice A ms.length c, .int .i64 f, .slice A' ls.length c'], .slice D word.length d] w fun e w' => e = .returned (.tuple #[.bool (RAccepts ms f ls word).1, .int .i64 (RAccepts ms f ls word).2]) ∧ Below w.heap.size w w' := specAccepts_c A A' D c c' d ms f ls word w h hn h' hn' k' kn'
end Go.Proofs.Ytbodaefdaagelaa
