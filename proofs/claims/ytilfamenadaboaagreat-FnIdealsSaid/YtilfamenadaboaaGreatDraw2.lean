/- Draws of lists: 'l01Lists', 'l02Draw'; 'SizeOf' of the reference. No condition. -/
import Derived.Test.YtilfamenadaboaaGreatDrawW
import Derived.Test.YtilfamenadaboaaGreatSpecE
namespace Go.Proofs.YtilfamenadaboaaGreat
set_option linter.unusedSimpArgs false
set_option linter.unusedVariables false
set_option linter.unusedSectionVars false
open Go.RowKit
set_option maxHeartbeats 4000000 in
theorem l01Lists_c {b c : Nat} {A : Option Addr} {code : List Int} (w : World) (h : SrcAt w b A c code) :
    Calls Tryz.prog 118 #[.pointer (some ⟨b, 0, none⟩)] w (MlPost (fun ms => ∃ n : Nat, 1 ≤ n ∧ n ≤ 5 ∧ RightL ms n) w b A c code) := by
  unfold MlPost
  have hlt := h.lt
  have HPK := Lib.hid (pick_any [1, 2, 2, 3, 3, 3, 4, 4, 5] 9 rfl (by omega) (by omega) h w.heap.size rfl _ rfl)
  go_enter Tryz.func118, Tryz.ntmps118
  go_wp2_with fail
  obtain ⟨W2, hW2⟩ : ∃ W2, W2 = w.alloc (.cells ([1, 2, 2, 3, 3, 3, 4, 4, 5].map (Value.int .i64)).toArray 2) := ⟨_, rfl⟩
  have hW3 : W2 = w.alloc (.cells #[.int .i64 1, .int .i64 2, .int .i64 2, .int .i64 3, .int .i64 3, .int .i64 3, .int .i64 4, .int .i64 4, .int .i64 5] 2) := hW2
  rw [← hW2] at HPK
  rw [← hW3]
  clear hW2 hW3
  refine HPK.out.mono ?_
  rintro e w2 ⟨x, rfl, hx, hd⟩
  obtain ⟨n, rfl, n1, n5⟩ : ∃ n : Nat, x = (n : Int) ∧ 1 ≤ n ∧ n ≤ 5 := by
    simp at hx
    refine ⟨x.toNat, ?_, ?_, ?_⟩ <;> omega
  have HDL := Lib.hid (l01DrawList_c n w2 hd.src n1 n5)
  unfold MlPost at HDL
  clear hx HPK
  go_wp2_with fail
  refine HDL.out.mono ?_
  rintro e w5 ⟨v, ms, rfl, own, hr, hd5⟩
  have hd5' := hd.trans hd5
  have HO := Lib.hid (own.mono hd.keep.size)
  have HR := Lib.hid hr
  clear own hr
  go_wp2
  go_returns
  exact ⟨_, _, rfl, HO.out, ⟨n, n1, n5, HR.out⟩, hd5'⟩
/-- a drawn list, as it is seen -/
def MqPost (most : Nat) (w : World) (b : Nat) (A : Option Addr) (c : Nat) (code : List Int) (e : Ending) (w' : World) : Prop :=
  ∃ (A' : Option Addr) (c' : Nat) (ms : List Mp), e = .returned (.slice A' ms.length c') ∧ SeeMaps w' A' ms ∧ NilOk A' c' ∧ InS (fun k => k ≠ b ∧ w.heap.size ≤ k) A' ∧ ms.length ≤ most ∧ Drawn w w' b A c code
set_option maxHeartbeats 4000000 in
theorem l02Draw_c {b c : Nat} {A : Option Addr} {code : List Int} (w : World) (h : SrcAt w b A c code) :
    Calls Tryz.prog 88 #[.pointer (some ⟨b, 0, none⟩)] w (MqPost 7 w b A c code) := by
  unfold MqPost
  have hlt := h.lt
  have HLI := Lib.hid (l01Lists_c w h)
  unfold MlPost at HLI
  go_enter Tryz.func88, Tryz.ntmps88
  go_wp2_with fail
  refine HLI.out.mono ?_
  rintro e w2 ⟨v, ms, rfl, own, ⟨n, n1, n5, hr⟩, hd⟩
  obtain ⟨A2, c2, rfl, _⟩ := own.see
  have HBL := Lib.hid (l01BadList_c (cL := c2) w2 hd.src own.see' own.nilok (own.far hlt) hr.pos hr.six)
  unfold BlPost at HBL
  have hois := Lib.hid own.inS
  clear HLI own hr
  go_wp2_with fail
  refine HBL.out.mono ?_
  rintro e w3 ⟨A3, c3, ms3, rfl, sm, nm, hin0, hor, h7, hd3⟩
  have hin : InS (fun k => k ≠ b ∧ w.heap.size ≤ k) A3 := fun a ha => ⟨hin0 a ha, by
    rcases hor with h | h
    · exact (hois.out a (by rw [← h]; exact ha)).1
    · have := (h a ha).1
      have := hd.keep.size
      omega⟩
  have hd3' := hd.trans hd3
  have HF := Lib.hid (⟨sm, nm, hin, h7, hd3'⟩ : SeeMaps w3 A3 ms3 ∧ NilOk A3 c3 ∧ InS (fun k => k ≠ b ∧ w.heap.size ≤ k) A3 ∧ ms3.length ≤ 7 ∧ Drawn w w3 b A c code)
  clear HBL sm nm hin hin0 hor hois hd3 hd3'
  go_wp2
  go_returns
  exact ⟨A3, c3, ms3, rfl, HF.out⟩
theorem OwnMaps.farB {w : World} {base b n c w0 : Nat} {A : Option Addr} {ms : List Mp} (h : OwnMaps w base (.slice A n c) ms) (hb : b < base) (h0 : w0 ≤ base) : InS (fun k => k ≠ b ∧ w0 ≤ k) A := fun a ha => by
  subst ha
  have := (h.lt a.block rfl).1
  exact ⟨by show a.block ≠ b; omega, by omega⟩
theorem InS.ne {b w0 : Nat} {A : Option Addr} (h : InS (fun k => k ≠ b ∧ w0 ≤ k) A) : InS (fun k => k ≠ b) A := h.mono fun _ hk => hk.1
end Go.Proofs.YtilfamenadaboaaGreat
