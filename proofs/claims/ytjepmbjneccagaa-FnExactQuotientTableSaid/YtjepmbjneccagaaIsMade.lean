/- Whether classes are those that they make: 'isMade', 'l06Classes'. No condition. -/
import Derived.Test.YtjepmbjneccagaaMadeS
namespace Go.Proofs.Ytjepmbjneccagaa
set_option linter.unusedSimpArgs false
set_option linter.unusedVariables false
set_option linter.unusedSectionVars false
open Go.RowKit
open Classical in
noncomputable def stabB (N : Nat) (T : Nat → Nat → Nat) (both : Bool) (cl : List Int) : Bool := decide (StabN N T both (relL cl))
open Classical in
/-- canonical classes are those that they make, exactly if they are stable -/
theorem genL_self {N : Nat} {T : Nat → Nat → Nat} {both : Bool} {cl : List Int} (hc : IsCan cl N) (hT : ∀ i k, i < N → k < N → T i k < N) : genL N T both (relL cl) = cl ↔ StabN N T both (relL cl) := by
  constructor
  · intro e
    -- the numbers tell the relation that is generated
    have hr := numL_rel (S := fun k i => decide (Gen N T both (relL cl) k i)) (n := N)
      (fun i hi => decide_eq_true (gen_eqv.refl i hi)) (fun i k hi hk h => decide_eq_true (gen_eqv.symm i k hi hk (of_decide_eq_true h))) (fun i j k hi hj hk h1 h2 => decide_eq_true (gen_eqv.trans i j k hi hj hk (of_decide_eq_true h1) (of_decide_eq_true h2)))
    have key : ∀ i k, i < N → k < N → (relL cl i k ↔ Gen N T both (relL cl) i k) := fun i k hi hk => by
      have h1 := hr i k hi hk
      have e2 : numL (fun k i => decide (Gen N T both (relL cl) k i)) N = cl := e
      rw [e2, decide_eq_true_eq] at h1
      exact h1
    exact fun a b ha hb h c hc' => by
      have hg := gen_stab (T := T) (both := both) (P := relL cl) a b ha hb ((key a b ha hb).1 h) c hc'
      exact ⟨(key _ _ (hT a c ha hc') (hT b c hb hc')).2 hg.1, fun hB => (key _ _ (hT c a hc' ha) (hT c b hc' hb)).2 (hg.2 hB)⟩
  · intro hs
    have h1 := num_can hc
    rw [genL_of (T := T) (both := both) (P := relL cl) (cl := cl) (fun i k hi hk h => gen_of hi hk h) (fun x y _ _ h => h) hs] at h1
    exact h1
theorem TabOk.lt {rows : List (List Int)} {N : Nat} {T : Nat → Nat → Nat} (h : TabOk rows N T) : ∀ i k, i < N → k < N → T i k < N := fun i k hi hk => by
  obtain ⟨_, _, _, _, h⟩ := h.row i k hi hk
  exact h
open Classical in
theorem stabB_eq {N : Nat} {T : Nat → Nat → Nat} {both : Bool} {cl : List Int} (hc : IsCan cl N) (hT : ∀ i k, i < N → k < N → T i k < N) : decide (genL N T both (relL cl) = cl) = stabB N T both cl := by
  unfold stabB
  rw [decide_eq_decide]
  exact genL_self hc hT
open Classical in
theorem stabB_true {N : Nat} {T : Nat → Nat → Nat} {both : Bool} {cl : List Int} (h : StabN N T both (relL cl)) : stabB N T both cl = true := by unfold stabB; exact decide_eq_true h
open Classical in
theorem stabB_false {N : Nat} {T : Nat → Nat → Nat} {both : Bool} {cl : List Int} (h : ¬ StabN N T both (relL cl)) : stabB N T both cl = false := by unfold stabB; exact decide_eq_false h
noncomputable def RIsMade (both : Bool) (ms : List Mp) (cl : List Int) : Bool × Int :=
  if pcC 30 ms = 0 then (if canB cl (elsOf ms).length = true then (stabB (elsOf ms).length (mpl (elsOf ms)) both cl, 0) else (false, 2)) else (false, pcC 30 ms)
/-- what 'l06Classes' hands back -/
def ClPost (ms : List Mp) (lists : List (List Int)) (w : World) (e : Ending) (w' : World) : Prop :=
  Below w.heap.size w w' ∧ ((pcC 30 ms ≠ 0 ∧ e = .returned (.tuple #[.slice none 0 0, .int .i64 (pcC 30 ms)])) ∨
    (pcC 30 ms = 0 ∧ lists.all (fun cl => canB cl (elsOf ms).length) = false ∧ e = .returned (.tuple #[.slice none 0 0, .int .i64 2])) ∨
    (pcC 30 ms = 0 ∧ lists.all (fun cl => canB cl (elsOf ms).length) = true ∧ ∃ v, e = .returned (.tuple #[v, .int .i64 0]) ∧ OwnSS w' w.heap.size v (tabOf (elsOf ms))))
set_option maxHeartbeats 2000000 in
set_option maxRecDepth 100000 in
theorem l06Classes_c {A A' : Option Addr} {c c' : Nat} {ms : List Mp} {lists : List (List Int)} {w : World} (h : SeeMaps w A ms) (hn : ms.length ≤ 2097152) (h' : SeeTab w A' lists) (hn' : lists.length ≤ 2097152) (hl' : ∀ cl ∈ lists, cl.length ≤ 2097152) :
    Calls Try.prog 37 #[.slice A ms.length c, .slice A' lists.length c'] w (ClPost ms lists w) := by
  have hpa := l06Given_c (most := 30) (c := c) h hn (by omega)
  have HPA := Lib.hid hpa
  have H' := Lib.hid h'
  have HL := Lib.hid hl'
  clear hpa h h' hl'
  unfold ClPost
  obtain ⟨okv, hok⟩ : ∃ okv, okv = lists.all (fun cl => canB cl (elsOf ms).length) := ⟨_, rfl⟩
  rw [← hok]
  have HOK := Lib.hid hok
  clear hok
  go_enter Try.func37, Try.ntmps37
  go_wp2_with fail
  refine HPA.out.mono ?_
  rintro e w1 h1
  rcases h1 with ⟨hc, rfl, hb1⟩ | ⟨hc, v, rfl, own, hb1⟩
  · have HC := Lib.hid hc
    have d : (pcC 30 ms != 0) = true := bne_iff_ne.2 hc
    clear hc
    go_wp2
    go_returns
    exact ⟨hb1, .inl ⟨HC.out, rfl⟩⟩
  · have HC := Lib.hid hc
    have hN := (TabR.of hc).le
    obtain ⟨Av, cv, rfl, _⟩ := own.see
    rw [tabOf_length] at own ⊢
    have OWN := Lib.hid own
    clear hc own
    obtain ⟨N, hNN⟩ : ∃ N, N = (elsOf ms).length := ⟨_, rfl⟩
    rw [← hNN] at hN HOK OWN ⊢
    clear hNN
    go_wp2
    go_loopw [8] (fun kv wr => ∃ k : Nat, k ≤ lists.length ∧ kv = .int .i64 k ∧ Hid (AllTo (fun cl => canB cl N = true) lists k) ∧ Below w.heap.size w wr ∧ Below w1.heap.size w1 wr) (fun kv _ => lists.length - (intOf kv).toNat)
    case atStart => exact ⟨0, Nat.zero_le _, rfl, Lib.hid (AllTo.zero _ _), hb1, Below.refl _ _⟩
    case round =>
      obtain ⟨k, hk, rfl, hAll, hb, hb'⟩ := hrel
      have l0 : (0 : Int) ≤ k := by omega
      by_cases hlt : k < lists.length
      · have l1 : (k : Int) < lists.length := by omega
        obtain ⟨cl, hcl⟩ := el hlt
        obtain ⟨bp, op, rfl, gp⟩ := H'.out (ne_of_lt hlt)
        obtain ⟨Ar, cr, qr, sr, _⟩ := gp k _ hcl
        have r0 := bcell hb qr
        have hll := HL.out cl (List.mem_of_getElem? hcl)
        have hcall := l06Is_c Ar cr cl N wr (sr.below hb) hll (by omega)
        have HK := Lib.hid hcl
        clear gp qr sr hcl
        cases e : canB cl N
        · have HC2 := Lib.hid (valB hcall e)
          have E2 := Lib.hid (show okv = false by rw [HOK.out]; exact List.all_eq_false.2 ⟨cl, List.mem_of_getElem? HK.out, by rw [e]; decide⟩)
          clear hcall e
          go_wp2_with fail
          refine HC2.out.mono ?_
          rintro e w2 ⟨rfl, hb2⟩
          go_wp2
          go_returns
          exact ⟨btrans hb hb2, .inr (.inl ⟨HC.out, E2.out, rfl⟩)⟩
        · have HC2 := Lib.hid (valB hcall e)
          have HE := Lib.hid e
          clear hcall e
          go_wp2_with fail
          refine HC2.out.mono ?_
          rintro e w2 ⟨rfl, hb2⟩
          go_wp2
          go_roundw
          case rel => exact ⟨k + 1, by omega, by go_num, Lib.hid (hAll.out.snoc HK.out HE.out), btrans hb hb2, btrans hb' hb2⟩
          case measure => simp [intOf]; omega
      · have ek : k = lists.length := by omega
        have E2 := Lib.hid (show okv = true by
          rw [HOK.out, List.all_eq_true]
          have := hAll.out
          rw [ek] at this
          exact this.all)
        have nlt : ¬ (k : Int) < lists.length := by omega
        clear ek hlt hk hAll
        go_wp2
        go_returns
        exact ⟨hb, .inr (.inr ⟨HC.out, E2.out, _, rfl, OWN.out.below hb'⟩)⟩
theorem see_tab1 {w : World} {b : Nat} {A : Option Addr} {c : Nat} {cl : List Int} (q : w.cell? ⟨b, 0, none⟩ = some (.slice A cl.length c)) (h : SeeInts w A cl) (hA : NilOk A c) : SeeTab w (some ⟨b, 0, none⟩) [cl] := fun _ => ⟨b, 0, rfl, fun k xs hk => by
  match k with
  | 0 => simp at hk; subst hk; exact ⟨A, c, q, h, hA⟩
  | k + 1 => simp at hk⟩
set_option maxHeartbeats 2000000 in
set_option maxRecDepth 100000 in
theorem isMade_c {A A' : Option Addr} {c c' : Nat} {ms : List Mp} {cl : List Int} {both : Bool} {w : World} (h : SeeMaps w A ms) (hn : ms.length ≤ 2097152) (hA : NilOk A c) (h' : SeeInts w A' cl) (hn' : cl.length ≤ 2097152) :
    Calls Try.prog 41 #[.slice A ms.length c, .slice A' cl.length c', .bool both] w fun e w' => e = .returned (.tuple #[.bool (RIsMade both ms cl).1, .int .i64 (RIsMade both ms cl).2]) ∧ Below w.heap.size w w' := by
  have hpa := paired_c h hn hA
  have HPA := Lib.hid hpa
  obtain ⟨r, hr⟩ : ∃ r, r = RIsMade both ms cl := ⟨_, rfl⟩
  rw [← hr]
  have HR := Lib.hid hr
  have H' := Lib.hid h'
  clear hpa h hr h'
  go_enter Try.func41, Try.ntmps41
  go_wp2_with fail
  refine HPA.out.mono ?_
  rintro e w1 h1
  rcases h1 with ⟨hc, rfl, hb1⟩ | ⟨hc, v, rfl, own, hb1⟩
  · have E1 := Lib.hid (show r = (false, pcC 30 ms) by rw [HR.out]; unfold RIsMade; rw [if_neg hc])
    have d : (pcC 30 ms != 0) = true := bne_iff_ne.2 hc
    clear hc
    go_wp2
    go_returns
    rw [E1.out]
    exact ⟨rfl, hb1⟩
  · have htr := TabR.of hc
    have E1 := Lib.hid (show r = if canB cl (elsOf ms).length = true then (stabB (elsOf ms).length (mpl (elsOf ms)) both cl, 0) else (false, 2) by rw [HR.out]; unfold RIsMade; rw [if_pos hc])
    obtain ⟨Av, cv, rfl, _⟩ := own.see
    have htab := own.tab
    rw [tabOf_length]
    have hN := htr.le
    have hpos := htr.pos
    have HOK := Lib.hid htr.tab
    have HTAB := Lib.hid htab
    clear hc htr own HR htab
    generalize tabOf (elsOf ms) = rows at *
    generalize mpl (elsOf ms) = T at *
    generalize (elsOf ms).length = N at *
    have hic := isClasses_c A' c' cl N w1 (H'.out.below hb1) hn' (by omega)
    cases e : canB cl N
    · have E2 := Lib.hid (show r = (false, 2) by rw [E1.out, e]; rfl)
      have HIC := Lib.hid (valB hic e)
      clear e hic
      go_wp2_with fail
      refine HIC.out.mono ?_
      rintro e w3 ⟨rfl, hb3⟩
      go_wp2
      go_returns
      rw [E2.out]
      exact ⟨rfl, btrans hb1 hb3⟩
    · have E2 := Lib.hid (show r = (stabB N T both cl, 0) by rw [E1.out, e]; rfl)
      have HIC := Lib.hid (valB hic e)
      have hl : cl.length = N := ((canB_iff cl N).1 e).1
      have HST := Lib.hid (show ∀ W, SeeTab W Av rows → SeeInts W A' cl → Calls Try.prog 63 #[.slice Av N cv, .slice A' cl.length c', .bool both] W (StPost N T both cl W) from fun W h1 h2 => by
        have := isStable_c Av A' cv c' cl both W HOK.out hpos (by omega) h1 h2 hl
        rw [show Value.slice A' cl.length c' = Value.slice A' N c' by rw [hl]]
        exact this)
      clear e hic hl
      go_wp2_with fail
      refine HIC.out.mono ?_
      rintro e w3 ⟨rfl, hb3⟩
      go_wp2_with fail
      refine (HST.out _ (HTAB.out.below hb3) (H'.out.below (btrans hb1 hb3))).mono ?_
      rintro e w4 ⟨hb4, hpost⟩
      have hb5 := btrans hb1 (btrans hb3 hb4)
      rcases hpost with ⟨rfl, hstab⟩ | ⟨x, y, rfl, hx, hy, hne, hforced⟩
      · have E3 := Lib.hid (show r = (true, 0) by rw [E2.out, stabB_true hstab])
        clear hstab
        go_wp2
        go_returns
        rw [E3.out]
        exact ⟨rfl, hb5⟩
      · have E3 := Lib.hid (show r = (false, 0) by
          rw [E2.out, stabB_false]
          intro hs
          obtain ⟨a, b, c, ha, hb, hc, hab, hh⟩ := hforced
          have := hs a b ha hb hab c hc
          rcases hh with ⟨rfl, rfl⟩ | ⟨hB, rfl, rfl⟩
          · exact hne this.1
          · exact hne (this.2 hB))
        clear hforced
        go_wp2
        go_returns
        rw [E3.out]
        exact ⟨rfl, hb5⟩
end Go.Proofs.Ytjepmbjneccagaa
