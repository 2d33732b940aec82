/- 'elementsThat' and 'of': which elements are such, what is told of an element. No condition. -/
import Derived.Test.YtilfamenadaboaaGreatRegular
namespace Go.Proofs.YtilfamenadaboaaGreat
set_option linter.unusedSimpArgs false
set_option linter.unusedVariables false
set_option linter.unusedSectionVars false
open Go.RowKit
theorem see_one {w : World} {b : Nat} {f : Mp} (h : MpBox w b f) : SeeMaps w (some ⟨b, 0, none⟩) [f] := fun _ => ⟨b, 0, rfl, fun k m hk => by
  match k with
  | 0 => simp at hk; subst hk; exact h.at
  | k + 1 => simp at hk⟩
/-- what a method of the monoid's tells of an element, as a truth value -/
def MethB (g : Nat) (l : List Mp) (n : Int) (P : Mp → Bool) : Prop :=
  ∀ (W : World) (M i : Nat) (f : Mp), MonAt W M l n → l[i]? = some f → Calls Tryz.prog g #[.pointer (some ⟨M, 0, none⟩), .int .i64 (i : Int)] W fun e w' => e = .returned (.bool (P f)) ∧ Below W.heap.size W w'
/-- .. as a list of maps -/
def MethM (g : Nat) (l : List Mp) (n : Int) (T : Mp → List Mp) : Prop :=
  ∀ (W : World) (M i : Nat) (f : Mp), MonAt W M l n → l[i]? = some f → Calls Tryz.prog g #[.pointer (some ⟨M, 0, none⟩), .int .i64 (i : Int)] W fun e w' => ∃ v, e = .returned v ∧ OwnMaps w' W.heap.size v (T f) ∧ Below W.heap.size W w'
/-- lists of maps that are handed back, with a code -/
def MsPost (r : List Mp × Int) (w : World) (e : Ending) (w' : World) : Prop := ∃ v, e = .returned (.tuple #[v, .int .i64 r.2]) ∧ OwnMaps w' w.heap.size v r.1 ∧ Below w.heap.size w w'
theorem OwnMaps.nil (w : World) (base : Nat) : OwnMaps w base (.slice none 0 0) [] := ⟨[], World.ownsRow_nil _ _ _ _, ⟨rfl, fun k m hk => by simp at hk⟩⟩
theorem MsPost.nil {w w' : World} {k : Int} (hb : Below w.heap.size w w') : MsPost ([], k) w (.returned (.tuple #[.slice none 0 0, .int .i64 k])) w' := ⟨_, rfl, OwnMaps.nil _ _, hb⟩
noncomputable def RThat (ms : List Mp) (P : List Mp → Mp → Bool) : List Mp × Int := if moC ms [] = 0 then ((elsOf ms).filter (P (elsOf ms)), 0) else ([], moC ms [])
noncomputable def ROf (ms : List Mp) (f : Mp) (T : List Mp → Mp → List Mp) : List Mp × Int := if moC ms [f] = 0 then (T (elsOf ms) f, 0) else ([], moC ms [f])
set_option maxHeartbeats 2000000 in
set_option maxRecDepth 100000 in
theorem elementsThat_c {A : Option Addr} {c : Nat} {ms : List Mp} {w : World} (g : Nat) (P : List Mp → Mp → Bool) (eg : Enters Tryz.prog g) (h : SeeMaps w A ms) (hn : ms.length ≤ 2097152) (hA : NilOk A c) (hp : MonR ms [] → MethB g (elsOf ms) (ptsL ms) (P (elsOf ms))) :
    Calls Tryz.prog 49 #[.slice A ms.length c, .func (.func g) #[] #[]] w (MsPost (RThat ms P) w) := by
  unfold Enters at eg
  have k0 := kbelow w (.cells #[.func (.func g) #[] #[]] 59)
  have q0 : (w.alloc (.cells #[.func (.func g) #[] #[]] 59)).cell? ⟨w.heap.size, 0, none⟩ = some (.func (.func g) #[] #[]) := by simp [go_sem]
  have hmo := monoidOf_c A none c 0 ms [] _ hn (by simp) (h.below k0) (fun h => absurd rfl h) hA (fun _ => rfl)
  have HMO := Lib.hid hmo
  obtain ⟨r, hr⟩ : ∃ r, r = RThat ms P := ⟨_, rfl⟩
  rw [← hr]
  have HR := Lib.hid hr
  have HP := Lib.hid hp
  clear hmo h hr hp
  go_enter Tryz.func49, Tryz.ntmps49
  go_wp2_with fail
  refine HMO.out.mono ?_
  rintro e w1 h1
  rcases h1 with ⟨hc, rfl, hb1⟩ | ⟨hc, M, vp, rfl, mon, hown, hb1⟩
  · have e1 : r = ([], moC ms []) := by rw [HR.out]; unfold RThat; rw [if_neg hc]
    have E1 := Lib.hid e1
    have d : (moC ms [] != 0) = true := bne_iff_ne.2 hc
    clear hc e1
    go_wp2
    go_returns
    rw [E1.out]
    exact MsPost.nil (btrans k0 (btrans hb1 (kbelow _ _)))
  · have e1 : r = ((elsOf ms).filter (P (elsOf ms)), 0) := by rw [HR.out]; unfold RThat; rw [if_pos hc]
    have E1 := Lib.hid e1
    have hmr := MonR.of hc
    have clo := hmr.clo
    obtain ⟨An, cn, rfl, _⟩ := hown.see
    have hb2 : Below w1.heap.size w1 (w1.alloc (.cells #[.pointer (some ⟨M, 0, none⟩)] 48)) := kbelow _ _
    have q1 := bcell (btrans hb1 hb2) q0
    have q2 : (w1.alloc (.cells #[.pointer (some ⟨M, 0, none⟩)] 48)).cell? ⟨w1.heap.size, 0, none⟩ = some (.pointer (some ⟨M, 0, none⟩)) := by simp [go_sem]
    have mon2 := mon.below hb2
    have hpm := HP.out hmr
    have hpr : PredM 91 #[] #[.pointer (some ⟨w.heap.size, 0, none⟩), .pointer (some ⟨w1.heap.size, 0, none⟩)] (elsOf ms) (P (elsOf ms)) (w1.alloc (.cells #[.pointer (some ⟨M, 0, none⟩)] 48)) := fun W i f hW hi => by
      have p1 := bcell hW q1
      have p2 := bcell hW q2
      have hcall := hpm W M i f (mon2.below hW) hi
      show Calls Tryz.prog 91 #[.int .i64 (i : Int), .pointer (some ⟨w.heap.size, 0, none⟩), .pointer (some ⟨w1.heap.size, 0, none⟩)] W fun e w' => e = .returned (.bool (P (elsOf ms) f)) ∧ Below W.heap.size W w'
      generalize P (elsOf ms) f = b at *
      clear hW hi hpm mon2 hb2 q1 q2 hown mon clo hmr e1 hc q0 k0 hb1
      go_enter Tryz.func91, Tryz.ntmps91
      go_wp2_with (go_at_fn g; refine hcall.mono ?_; rintro e w' ⟨rfl, hb'⟩)
      go_returns
      exact ⟨rfl, hb'⟩
    have honly := only_c M (elsOf ms) (ptsL ms) 91 #[.pointer (some ⟨w.heap.size, 0, none⟩), .pointer (some ⟨w1.heap.size, 0, none⟩)] (P (elsOf ms)) (enters_of Tryz.func91 (by kernel_rfl) rfl) _ mon2 clo.len hpr
    have HO := Lib.hid honly
    clear honly hpr hpm mon2 clo hmr mon hc e1 hown
    go_wp2_with fail
    refine HO.out.mono ?_
    rintro e w3 ⟨v3, rfl, hown3, hb3⟩
    obtain ⟨A3, c3, rfl, _⟩ := hown3.see
    go_wp2
    go_returns
    rw [E1.out]
    have hb4 := btrans k0 (btrans hb1 hb2)
    exact ⟨_, rfl, hown3.mono hb4.size, btrans hb4 hb3⟩
set_option maxHeartbeats 2000000 in
set_option maxRecDepth 100000 in
theorem of_c {A : Option Addr} {c : Nat} {ms : List Mp} {f : Mp} {w : World} (g : Nat) (T : List Mp → Mp → List Mp) (eg : Enters Tryz.prog g) (h : SeeMaps w A ms) (hn : ms.length ≤ 2097152) (hA : NilOk A c) (hp : MonR ms [f] → MethM g (elsOf ms) (ptsL ms) (T (elsOf ms))) :
    Calls Tryz.prog 40 #[.slice A ms.length c, .agg #[.int .i64 f.p, .int .i64 f.a, .int .i64 f.b, .int .i64 f.c, .int .i64 f.d, .int .i64 f.e], .func (.func g) #[] #[]] w (MsPost (ROf ms f T) w) := by
  unfold Enters at eg
  have k0 : Below w.heap.size w ((w.alloc (.cells #[.int .i64 f.p, .int .i64 f.a, .int .i64 f.b, .int .i64 f.c, .int .i64 f.d, .int .i64 f.e] 27)).alloc (.cells #[.int .i64 f.p, .int .i64 f.a, .int .i64 f.b, .int .i64 f.c, .int .i64 f.d, .int .i64 f.e] 27)) := by go_grown
  have b1 : MpBox ((w.alloc (.cells #[.int .i64 f.p, .int .i64 f.a, .int .i64 f.b, .int .i64 f.c, .int .i64 f.d, .int .i64 f.e] 27)).alloc (.cells #[.int .i64 f.p, .int .i64 f.a, .int .i64 f.b, .int .i64 f.c, .int .i64 f.d, .int .i64 f.e] 27)) (w.heap.size + 1) f := MpBox.new f 27 (by simp)
  have hmo := monoidOf_c A (some ⟨w.heap.size + 1, 0, none⟩) c 1 ms [f] _ hn (by simp) (h.below k0) (see_one b1) hA (fun e => by cases e)
  have HMO := Lib.hid hmo
  obtain ⟨r, hr⟩ : ∃ r, r = ROf ms f T := ⟨_, rfl⟩
  rw [← hr]
  have HR := Lib.hid hr
  have HP := Lib.hid hp
  clear hmo h hr hp b1
  go_enter Tryz.func40, Tryz.ntmps40
  go_wp2_with fail
  refine HMO.out.mono ?_
  rintro e w1 h1
  rcases h1 with ⟨hc, rfl, hb1⟩ | ⟨hc, M, vp, rfl, mon, hown, hb1⟩
  · have e1 : r = ([], moC ms [f]) := by rw [HR.out]; unfold ROf; rw [if_neg hc]
    have E1 := Lib.hid e1
    have d : (moC ms [f] != 0) = true := bne_iff_ne.2 hc
    clear hc e1
    go_wp2
    go_returns
    rw [E1.out]
    exact MsPost.nil (btrans k0 hb1)
  · have e1 : r = (T (elsOf ms) f, 0) := by rw [HR.out]; unfold ROf; rw [if_pos hc]
    have E1 := Lib.hid e1
    have hmr := MonR.of hc
    obtain ⟨i, hi, hli⟩ := plc_mem hmr.asc (hmr.mem f (by simp))
    obtain ⟨An, cn, rfl, hsn⟩ := hown.see
    obtain ⟨bn, on, x, rfl, hx, qx⟩ := hsn.at_ (k := 0) (by simp)
    have ex : x = (i : Int) := by simp at hx; rw [← hx, hi]
    subst ex
    rw [Nat.add_zero] at qx
    have hcall := HP.out hmr w1 M i f mon hli
    clear hmr hc e1 hown hi hli hsn hx mon
    go_wp2_with (go_at_fn g; refine hcall.mono ?_; rintro e w' ⟨v3, rfl, hown3, hb3⟩; obtain ⟨A3, c3, rfl, _⟩ := hown3.see)
    go_returns
    rw [E1.out]
    have hb4 := btrans k0 hb1
    exact ⟨_, rfl, hown3.mono hb4.size, btrans hb4 hb3⟩
end Go.Proofs.YtilfamenadaboaaGreat
