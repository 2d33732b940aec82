/- 'l07Is' and 'IsAcceptor' report whether a value is an acceptor. No condition. -/
import Derived.Test.YtbodaefdaagelaaGiven
namespace Go.Proofs.Ytbodaefdaagelaa
set_option linter.unusedSimpArgs false
set_option linter.unusedVariables false
set_option linter.unusedSectionVars false
open Go.RowKit
/-- an acceptor: a right list, a point, a set of points -/
noncomputable def accB (ms : List Mp) (f : Int) (ls : List Int) : Bool := sameB ms && (inB f 0 ((ms.headD Mp.z).p - 1) && isSetB ls (ms.headD Mp.z).p)
theorem same_facts {ms : List Mp} (h : sameB ms = true) : ∃ m0, ms[0]? = some m0 ∧ IsMp m0 ∧ 0 < ms.length ∧ ms.length ≤ 6 ∧ (ms.headD Mp.z) = m0 ∧ ∀ m ∈ ms, IsMp m ∧ m.p = m0.p := by
  have h' : lcode ms [] = 0 := by simpa [sameB] using h
  unfold lcode at h'
  rw [List.append_nil] at h'
  split at h'
  · split at h'
    · split at h'
      · rename_i h1 h2 h3
        cases ms with
        | nil => simp at h2
        | cons m0 ms => exact ⟨m0, rfl, h1 m0 (by simp), by simp, h2.2, rfl, fun m hm => ⟨h1 m hm, by simpa using h3 m hm⟩⟩
      · cases h'
    · cases h'
  · cases h'
theorem AccBox (w : World) (A A' : Option Addr) (n c n' c' : Nat) (f : Int) (t : TypeId) : (∀ x : BW (w.alloc (.cells #[.slice A n c, .int .i64 f, .slice A' n' c'] t)), x.1.cell? ⟨w.heap.size, 0, none⟩ = some (.slice A n c)) ∧ (∀ x : BW (w.alloc (.cells #[.slice A n c, .int .i64 f, .slice A' n' c'] t)), x.1.cell? ⟨w.heap.size, 1, none⟩ = some (.int .i64 f)) ∧ (∀ x : BW (w.alloc (.cells #[.slice A n c, .int .i64 f, .slice A' n' c'] t)), x.1.cell? ⟨w.heap.size, 2, none⟩ = some (.slice A' n' c')) :=
  ⟨bwcell (by simp [go_sem]), bwcell (by simp [go_sem]), bwcell (by simp [go_sem])⟩
set_option maxHeartbeats 2000000 in
theorem l07Is_c (A A' : Option Addr) (c c' : Nat) (ms : List Mp) (f : Int) (ls : List Int) (w : World) (h : SeeMaps w A ms) (hn : ms.length ≤ 2097152) (h' : SeeInts w A' ls) (hn' : ls.length ≤ 2097152) :
    Calls Try.prog 58 #[.agg #[.slice A ms.length c, .int .i64 f, .slice A' ls.length c']] w fun e w' => e = .returned (.bool (accB ms f ls)) ∧ Below w.heap.size w w' := by
  have k0 : Below w.heap.size w (w.alloc (Obj.cells #[Value.slice A ms.length c, .int .i64 f, Value.slice A' ls.length c'] 30)) := by go_grown
  obtain ⟨b0, b1, b2⟩ := AccBox w A A' ms.length c ls.length c' f 30
  have hs := (h.below k0).bw
  have hs' := (h'.below k0).bw
  cases hsm : sameB ms
  · go_enter Try.func58, Try.ntmps58
    go_wp2
    refine wp_region_bw (by kernel_rfl) (by kernel_rfl) ?_
    repeat go_big_quiet_step (((go_at_call 101; exact Calls.bw _ (valB (l01Same_c _ _ _ _ (hs _) hn) hsm))))
    refine wpQuiet_nil ?_
    rintro _ ⟨⟨w2, hb2⟩, rfl⟩
    go_wp2
    go_returns
    exact ⟨ret_bool (by simp [accB, hsm]), btrans k0 hb2⟩
  · obtain ⟨m0, h0, hm0, hl0, hl6, hd, _⟩ := same_facts hsm
    have e1 : accB ms f ls = (inB f 0 (m0.p - 1) && isSetB ls m0.p) := by rw [accB, hsm, hd]; rfl
    have E1 := Lib.hid e1
    obtain ⟨b, o, m, rfl, hm, g⟩ := h.at_ hl0
    rw [h0] at hm
    obtain rfl := Option.some.inj hm
    have q0 : ∀ x : BW (w.alloc (Obj.cells #[Value.slice (some ⟨b, o, none⟩) ms.length c, .int .i64 f, Value.slice A' ls.length c'] 30)), x.1.cell? ⟨b, o, none⟩ = some (.int .i64 m0.p) := by simpa using bwcell (g.below k0).h0
    have d1 := hm0.1
    have d2 := hm0.2.1
    clear e1 hm hd h0 g h hm0
    cases hin : inB f 0 (m0.p - 1)
    · go_enter Try.func58, Try.ntmps58
      go_wp2
      refine wp_region_bw (by kernel_rfl) (by kernel_rfl) ?_
      repeat go_big_quiet_step ((first | (go_at_call 101; exact Calls.bw _ (valB (l01Same_c _ _ _ _ (hs _) hn) hsm)) | (go_at_call 69; exact Calls.bw _ (valB (l01In_c _ _ _ _) hin))))
      refine wpQuiet_nil ?_
      rintro _ ⟨⟨w2, hb2⟩, rfl⟩
      go_wp2
      go_returns
      exact ⟨ret_bool (by rw [E1.out, hin]; rfl), btrans k0 hb2⟩
    · go_enter Try.func58, Try.ntmps58
      go_wp2
      refine wp_region_bw (by kernel_rfl) (by kernel_rfl) ?_
      repeat go_big_quiet_step ((first | (go_at_call 101; exact Calls.bw _ (valB (l01Same_c _ _ _ _ (hs _) hn) hsm)) | (go_at_call 69; exact Calls.bw _ (valB (l01In_c _ _ _ _) hin)) | (go_at_call 102; exact Calls.bw _ (l05Set_c _ _ _ _ _ (hs' _) hn' (by omega) (by omega)))))
      refine wpQuiet_nil ?_
      rintro _ ⟨⟨w2, hb2⟩, rfl⟩
      go_wp2
      go_returns
      exact ⟨ret_bool (by rw [E1.out, hin]; rfl), btrans k0 hb2⟩
theorem specIsAcceptor_c (A A' : Option Addr) (c c' : Nat) (ms : List Mp) (f : Int) (ls : List Int) (w : World) (h : SeeMaps w A ms) (hn : ms.length ≤ 2097152) (h' : SeeInts w A' ls) (hn' : ls.length ≤ 2097152) :
    Calls Try.prog 16 #[.agg #[.slice A ms.length c, .int .i64 f, .slice A' ls.length c']] w fun e w' => e = .returned (.bool (accB ms f ls)) ∧ Below w.heap.size w w' := by
  have k0 : Below w.heap.size w (w.alloc (Obj.cells #[Value.slice A ms.length c, .int .i64 f, Value.slice A' ls.length c'] 30)) := by go_grown
  go_enter Try.func16, Try.ntmps16
  go_wp2_with (go_at_call 58; go_must (refine (l07Is_c _ _ _ _ ms f ls _ (h.below k0) hn (h'.below k0) hn').mono ?_); rintro e w2 ⟨rfl, hb2⟩)
  go_returns
  exact ⟨rfl, btrans k0 hb2⟩
theorem lcode_same {ms : List Mp} : decide (lcode ms [] = 0) = sameB ms := rfl
set_option maxHeartbeats 2000000 in
theorem IsAcceptor_c (A A' : Option Addr) (c c' : Nat) (ms : List Mp) (f : Int) (ls : List Int) (w : World) (h : SeeMaps w A ms) (hn : ms.length ≤ 2097152) (hA : NilOk A c) (h' : SeeInts w A' ls) (hn' : ls.length ≤ 2097152) :
    Calls Try.prog 18 #[.agg #[.slice A ms.length c, .int .i64 f, .slice A' ls.length c']] w fun e w' => e = .returned (.bool (accB ms f ls)) ∧ Below w.heap.size w w' := by
  have k0 : Below w.heap.size w (w.alloc (Obj.cells #[Value.slice A ms.length c, .int .i64 f, Value.slice A' ls.length c'] 30)) := by go_grown
  obtain ⟨b0, b1, b2⟩ := AccBox w A A' ms.length c ls.length c' f 30
  have hs := (h.below k0).bw
  have hs' := (h'.below k0).bw
  cases hsm : sameB ms
  · have hne : (lcode ms [] == 0) = false := by simpa [sameB] using hsm
    go_enter Try.func18, Try.ntmps18
    go_wp2
    refine wp_region_bw (by kernel_rfl) (by kernel_rfl) ?_
    repeat go_big_quiet_step (((go_at_call 60; exact Calls.bw _ (listCode_c _ none _ 0 ms [] _ hn (by simp) (hs _) (fun h => absurd rfl h) hA (fun _ => rfl)))))
    refine wpQuiet_nil ?_
    rintro _ ⟨⟨w2, hb2⟩, rfl⟩
    go_wp2
    go_returns
    exact ⟨ret_bool (by simp [accB, hsm]), btrans k0 hb2⟩
  · have hlc : lcode ms [] = 0 := by simpa [sameB] using hsm
    obtain ⟨m0, h0, hm0, hl0, hl6, hd, _⟩ := same_facts hsm
    have e1 : accB ms f ls = (inB f 0 (m0.p - 1) && isSetB ls m0.p) := by rw [accB, hsm, hd]; rfl
    have E1 := Lib.hid e1
    obtain ⟨b, o, m, rfl, hm, g⟩ := h.at_ hl0
    rw [h0] at hm
    obtain rfl := Option.some.inj hm
    have q0 : ∀ x : BW (w.alloc (Obj.cells #[Value.slice (some ⟨b, o, none⟩) ms.length c, .int .i64 f, Value.slice A' ls.length c'] 30)), x.1.cell? ⟨b, o, none⟩ = some (.int .i64 m0.p) := by simpa using bwcell (g.below k0).h0
    have d1 := hm0.1
    have d2 := hm0.2.1
    have HLC := Lib.hid hlc
    have H0 := Lib.hid h0
    clear e1 hm hd h0 g h hlc
    cases hin : inB f 0 (m0.p - 1)
    · go_enter Try.func18, Try.ntmps18
      go_wp2
      refine wp_region_bw (by kernel_rfl) (by kernel_rfl) ?_
      repeat go_big_quiet_step ((first | (go_at_call 60; exact Calls.bw _ (valI (listCode_c _ none _ 0 ms [] _ hn (by simp) (hs _) (fun h => absurd rfl h) hA (fun _ => rfl)) HLC.out)) | (go_at_call 61; exact Calls.bw _ (valB (isPoint_c _ _ ms m0 f _ (hs _) H0.out hm0) hin))))
      refine wpQuiet_nil ?_
      rintro _ ⟨⟨w2, hb2⟩, rfl⟩
      go_wp2
      go_returns
      exact ⟨ret_bool (by rw [E1.out, hin]; rfl), btrans k0 hb2⟩
    · go_enter Try.func18, Try.ntmps18
      go_wp2
      refine wp_region_bw (by kernel_rfl) (by kernel_rfl) ?_
      repeat go_big_quiet_step ((first | (go_at_call 60; exact Calls.bw _ (valI (listCode_c _ none _ 0 ms [] _ hn (by simp) (hs _) (fun h => absurd rfl h) hA (fun _ => rfl)) HLC.out)) | (go_at_call 61; exact Calls.bw _ (valB (isPoint_c _ _ ms m0 f _ (hs _) H0.out hm0) hin)) | (go_at_call 62; exact Calls.bw _ (isSet_c _ _ _ _ _ (hs' _) hn' (by omega) (by omega)))))
      refine wpQuiet_nil ?_
      rintro _ ⟨⟨w2, hb2⟩, rfl⟩
      go_wp2
      go_returns
      exact ⟨ret_bool (by rw [E1.out, hin]; rfl), btrans k0 hb2⟩
end Go.Proofs.Ytbodaefdaagelaa
