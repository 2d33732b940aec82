/- Helpers of the great laws: 'acceptors5'. No condition. -/
import Derived.Test.YtbodaefdaagelaaLike
import Derived.Test.YtbodaefdaagelaaLeastW
import Derived.Test.YtbodaefdaagelaaDrawAc
import Derived.Test.YtbodaefdaagelaaFnAccP
import Derived.Test.YtbodaefdaagelaaLeastL
import Derived.Test.YtbodaefdaagelaaAccepts
import Derived.Test.YtbodaefdaagelaaCountI
import Derived.Test.YtbodaefdaagelaaDiffL
import Derived.Test.YtbodaefdaagelaaCompl
import Derived.Test.YtbodaefdaagelaaLeadPoint
import Derived.Test.YtbodaefdaagelaaPoints
import Derived.Deep.Cut
namespace Go.Proofs.Ytbodaefdaagelaa
set_option linter.unusedSimpArgs false
set_option linter.unusedVariables false
set_option linter.unusedSectionVars false
open Go.RowKit
set_option maxHeartbeats 4000000 in
theorem acceptors5_c {A1 A2 B1 B2 : Option Addr} {c1 c2 d1 d2 : Nat} {ms ns : List Mp} {la lb : List Int} {f g : Int} (w : World) (h1 : SeeMaps w A1 ms) (h2 : SeeInts w A2 la) (h3 : SeeMaps w B1 ns) (h4 : SeeInts w B2 lb) (n1 : ms.length ≤ 2097152) (n2 : la.length ≤ 2097152) :
    Calls Try.prog 48 #[.agg #[.slice A1 ms.length c1, .int .i64 f, .slice A2 la.length c2], .agg #[.slice B1 ns.length d1, .int .i64 g, .slice B2 lb.length d2]] w fun e w' => e = .returned (.bool (decide (ms = ns ∧ f = g ∧ la = lb))) ∧ Below w.heap.size w w' := by
  obtain ⟨r, hr⟩ : ∃ r, r = decide (ms = ns ∧ f = g ∧ la = lb) := ⟨_, rfl⟩
  rw [← hr]
  have HR := Lib.hid hr
  obtain ⟨W1, hW1⟩ : ∃ W1, W1 = (w.alloc (.cells #[.slice A1 ms.length c1, .int .i64 f, .slice A2 la.length c2] 30)).alloc (.cells #[.slice B1 ns.length d1, .int .i64 g, .slice B2 lb.length d2] 30) := ⟨_, rfl⟩
  have k1 : Below w.heap.size w W1 := by rw [hW1]; go_grown
  have ba : OBox W1 w.heap.size (.slice A1 ms.length c1) f (.slice A2 la.length c2) := by rw [hW1]; exact (OBox.new _ _ _ _ rfl).below (kbelow _ _)
  have bb : OBox W1 (w.heap.size + 1) (.slice B1 ns.length d1) g (.slice B2 lb.length d2) := by rw [hW1]; exact OBox.new _ _ _ _ (by rw [World.size_alloc])
  have hm5 := maps5_c A1 B1 c1 d1 ms ns W1 n1 (h1.below k1) (h3.below k1)
  have HLI := Lib.hid (fun (W : World) (hW : Below w.heap.size w W) => likeInts_c A2 B2 c2 d2 la lb W n2 (h2.below hW) (h4.below hW))
  obtain ⟨a0, a1, a2⟩ := ba.cells
  obtain ⟨b0, b1, b2⟩ := bb.cells
  clear hr
  by_cases em : ms = ns
  · simp only [decide_eq_true em] at hm5
    have HM5 := Lib.hid hm5
    have HEM := Lib.hid em
    clear hm5 em h1 h2 h3 h4
    by_cases ef : f = g
    · have df : (f == g) = true := by simpa using ef
      have HEF := Lib.hid ef
      clear ef
      go_enter Try.func48, Try.ntmps48
      go_wp2_with fail
      rw [← hW1]
      clear hW1
      refine HM5.out.mono ?_
      rintro e w2 ⟨rfl, hb2⟩
      obtain ⟨a0, a1, a2⟩ := (ba.below hb2).cells
      obtain ⟨b0, b1, b2⟩ := (bb.below hb2).cells
      have HL2 := Lib.hid (HLI.out w2 (btrans k1 hb2))
      go_wp2_with fail
      refine HL2.out.mono ?_
      rintro e w3 ⟨rfl, hb3⟩
      have HRR := Lib.hid (show r = decide (la = lb) by rw [HR.out]; simp [HEM.out, HEF.out])
      generalize decide (la = lb) = u at *
      go_wp2
      go_returns
      rw [HRR.out]
      exact ⟨rfl, btrans (btrans k1 hb2) hb3⟩
    · have df : (f == g) = false := by simpa using ef
      have HRR := Lib.hid (show r = false by rw [HR.out]; simp [ef])
      clear ef
      go_enter Try.func48, Try.ntmps48
      go_wp2_with fail
      rw [← hW1]
      clear hW1
      refine HM5.out.mono ?_
      rintro e w2 ⟨rfl, hb2⟩
      obtain ⟨a0, a1, a2⟩ := (ba.below hb2).cells
      obtain ⟨b0, b1, b2⟩ := (bb.below hb2).cells
      go_wp2
      go_returns
      rw [HRR.out]
      exact ⟨rfl, btrans k1 hb2⟩
  · simp only [decide_eq_false em] at hm5
    have HM5 := Lib.hid hm5
    have HRR := Lib.hid (show r = false by rw [HR.out]; simp [em])
    clear hm5 em h1 h2 h3 h4
    go_enter Try.func48, Try.ntmps48
    go_wp2_with fail
    rw [← hW1]
    clear hW1
    refine HM5.out.mono ?_
    rintro e w2 ⟨rfl, hb2⟩
    obtain ⟨a0, a1, a2⟩ := (ba.below hb2).cells
    obtain ⟨b0, b1, b2⟩ := (bb.below hb2).cells
    go_wp2
    go_returns
    rw [HRR.out]
    exact ⟨rfl, btrans k1 hb2⟩
/-! Helpers of the walk of 'FnAcceptors': results as they are seen, and the values that the law compares. -/
/-- an acceptor's parts, as they are seen -/
structure AW (w : World) (A : Option Addr) (c : Nat) (ms : List Mp) (A' : Option Addr) (c' : Nat) (la : List Int) : Prop where
  sm : SeeMaps w A ms
  nm : NilOk A c
  sl : SeeInts w A' la
  nl : NilOk A' c'
  m1 : ms.length ≤ 1000
  l1 : la.length ≤ 1000
theorem AW.below {w w' : World} {A A' : Option Addr} {c c' : Nat} {ms : List Mp} {la : List Int} (h : AW w A c ms A' c' la) (hb : Below w.heap.size w w') : AW w' A c ms A' c' la := ⟨h.sm.below hb, h.nm, h.sl.below hb, h.nl, h.m1, h.l1⟩
/-- an acceptor and a code that a call hands back -/
def AoPost (ms : List Mp) (f : Int) (la : List Int) (q : Int) (w : World) (e : Ending) (w' : World) : Prop :=
  ∃ (A : Option Addr) (c : Nat) (A' : Option Addr) (c' : Nat), e = .returned (.tuple #[.agg #[.slice A ms.length c, .int .i64 f, .slice A' la.length c'], .int .i64 q]) ∧ AW w' A c ms A' c' la ∧ Below w.heap.size w w'
/-- whole numbers and a code -/
def IoPost (xs : List Int) (q : Int) (w : World) (e : Ending) (w' : World) : Prop :=
  ∃ (A : Option Addr) (c : Nat), e = .returned (.tuple #[.slice A xs.length c, .int .i64 q]) ∧ SeeInts w' A xs ∧ xs.length ≤ 1000 ∧ Below w.heap.size w w'
theorem ao_of {f : FuncId} {args : Array Value} {w : World} {R : (List Mp × Int × List Int) × Int} {lm : List Mp} {lf : Int} {ll : List Int} {q : Int} (h : Calls Try.prog f args w fun e w' => ∃ v v', e = .returned (.tuple #[.agg #[v, .int .i64 R.1.2.1, v'], .int .i64 R.2]) ∧ OwnMaps w' w.heap.size v R.1.1 ∧ OwnInts w' w.heap.size v' R.1.2.2 ∧ Below w.heap.size w w')
    (e : R = ((lm, lf, ll), q)) (hl : R.1.1.length ≤ 1000 ∧ R.1.2.2.length ≤ 1000) : Calls Try.prog f args w (AoPost lm lf ll q w) := by
  subst e
  refine h.mono ?_
  rintro e w' ⟨v, v', rfl, om, ol, hb⟩
  obtain ⟨A, c, rfl, _⟩ := om.see
  obtain ⟨A', c', rfl, _⟩ := ol.see
  exact ⟨A, c, A', c', rfl, ⟨om.see', om.nilok, ol.see', ol.nilok, hl.1, hl.2⟩, hb⟩
theorem io_of {f : FuncId} {args : Array Value} {w : World} {R : List Int × Int} {xs : List Int} {q : Int} (h : Calls Try.prog f args w fun e w' => ∃ v, e = .returned (.tuple #[v, .int .i64 R.2]) ∧ OwnInts w' w.heap.size v R.1 ∧ Below w.heap.size w w')
    (e : R = (xs, q)) (hl : R.1.length ≤ 1000) : Calls Try.prog f args w (IoPost xs q w) := by
  subst e
  refine h.mono ?_
  rintro e w' ⟨v, rfl, ol, hb⟩
  obtain ⟨A', c', rfl, _⟩ := ol.see
  exact ⟨A', c', rfl, ol.see', hl, hb⟩
section
variable {w : World} {A A' : Option Addr} {c c' : Nat} {ms : List Mp} {f : Int} {la : List Int}
theorem la_i (h : AW w A c ms A' c' la) {lm : List Mp} {lf : Int} {ll : List Int} {q : Int} (e : RLeastAcceptor ms f la = ((lm, lf, ll), q)) : Calls Try.prog 45 #[.agg #[.slice A ms.length c, .int .i64 f, .slice A' la.length c']] w (AoPost lm lf ll q w) :=
  ao_of (implLeastAcceptor_l h.sm (by have := h.m1; omega) h.nm h.sl (by have := h.l1; omega) h.nl) e (RLeastAcceptor_len ms f la)
theorem la_s (h : AW w A c ms A' c' la) {lm : List Mp} {lf : Int} {ll : List Int} {q : Int} (e : RLeastAcceptor ms f la = ((lm, lf, ll), q)) : Calls Try.prog 44 #[.agg #[.slice A ms.length c, .int .i64 f, .slice A' la.length c']] w (AoPost lm lf ll q w) :=
  ao_of (specLeastAcceptor_l h.sm (by have := h.m1; omega) h.nm h.sl (by have := h.l1; omega) h.nl) e (RLeastAcceptor_len ms f la)
theorem co_i (h : AW w A c ms A' c' la) {lm : List Mp} {lf : Int} {ll : List Int} {q : Int} (e : RComplementOf ms f la = ((lm, lf, ll), q)) : Calls Try.prog 42 #[.agg #[.slice A ms.length c, .int .i64 f, .slice A' la.length c']] w (AoPost lm lf ll q w) :=
  ao_of (implComplementOf_l h.sm (by have := h.m1; omega) h.nm h.sl (by have := h.l1; omega) h.nl) e (RComplementOf_len ms f la)
theorem co_s (h : AW w A c ms A' c' la) {lm : List Mp} {lf : Int} {ll : List Int} {q : Int} (e : RComplementOf ms f la = ((lm, lf, ll), q)) : Calls Try.prog 41 #[.agg #[.slice A ms.length c, .int .i64 f, .slice A' la.length c']] w (AoPost lm lf ll q w) :=
  ao_of (specComplementOf_l h.sm (by have := h.m1; omega) h.nm h.sl (by have := h.l1; omega) h.nl) e (RComplementOf_len ms f la)
theorem ca_i (h : AW w A c ms A' c' la) {k : Int} {xs : List Int} {q : Int} (e : RCountAccepted ms f la k = (xs, q)) : Calls Try.prog 25 #[.agg #[.slice A ms.length c, .int .i64 f, .slice A' la.length c'], .int .i64 k] w (IoPost xs q w) :=
  io_of (implCountAccepted_l h.sm (by have := h.m1; omega) h.nm h.sl (by have := h.l1; omega) h.nl) e (RCountAccepted_len ms f la k)
theorem ca_s (h : AW w A c ms A' c' la) {k : Int} {xs : List Int} {q : Int} (e : RCountAccepted ms f la k = (xs, q)) : Calls Try.prog 24 #[.agg #[.slice A ms.length c, .int .i64 f, .slice A' la.length c'], .int .i64 k] w (IoPost xs q w) :=
  io_of (specCountAccepted_l h.sm (by have := h.m1; omega) h.nm h.sl (by have := h.l1; omega) h.nl) e (RCountAccepted_len ms f la k)
theorem pr_i (h : AW w A c ms A' c' la) {xs : List Int} {q : Int} (e : RPointsReached ms f la = (xs, q)) : Calls Try.prog 32 #[.agg #[.slice A ms.length c, .int .i64 f, .slice A' la.length c']] w (IoPost xs q w) :=
  io_of (implPointsReached_l h.sm (by have := h.m1; omega) h.nm h.sl (by have := h.l1; omega) h.nl) e (RPointsReached_len ms f la)
theorem pr_s (h : AW w A c ms A' c' la) {xs : List Int} {q : Int} (e : RPointsReached ms f la = (xs, q)) : Calls Try.prog 31 #[.agg #[.slice A ms.length c, .int .i64 f, .slice A' la.length c']] w (IoPost xs q w) :=
  io_of (specPointsReached_l h.sm (by have := h.m1; omega) h.nm h.sl (by have := h.l1; omega) h.nl) e (RPointsReached_len ms f la)
theorem ae_i (h : AW w A c ms A' c' la) {B B' : Option Addr} {d d' : Nat} {ns : List Mp} {g : Int} {lb : List Int} (h' : AW w B d ns B' d' lb) {b : Bool} {q : Int} (e : RAreEqual ms f la ns g lb = (b, q)) : Calls Try.prog 30 #[.agg #[.slice A ms.length c, .int .i64 f, .slice A' la.length c'], .agg #[.slice B ns.length d, .int .i64 g, .slice B' lb.length d']] w fun e w' => e = .returned (.tuple #[.bool b, .int .i64 q]) ∧ Below w.heap.size w w' := by
  have := implAreEqual_l (fa := f) (fb := g) h.sm (by have := h.m1; omega) h.nm h.sl (by have := h.l1; omega) h.nl h'.sm (by have := h'.m1; omega) h'.nm h'.sl (by have := h'.l1; omega) h'.nl
  rw [e] at this
  exact this
theorem ac_i (h : AW w A c ms A' c' la) {D : Option Addr} {d : Nat} {word : List Int} (hw : SeeInts w D word) (hd : NilOk D d) (hl : word.length ≤ 1000) {b : Bool} {q : Int} (e : RAccepts ms f la word = (b, q)) : Calls Try.prog 22 #[.agg #[.slice A ms.length c, .int .i64 f, .slice A' la.length c'], .slice D word.length d] w fun e w' => e = .returned (.tuple #[.bool b, .int .i64 q]) ∧ Below w.heap.size w w' := by
  have := implAccepts_l (f := f) h.sm (by have := h.m1; omega) h.nm h.sl (by have := h.l1; omega) h.nl hw (by omega) hd
  rw [e] at this
  exact this
theorem ac_s (h : AW w A c ms A' c' la) {D : Option Addr} {d : Nat} {word : List Int} (hw : SeeInts w D word) (hd : NilOk D d) (hl : word.length ≤ 1000) {b : Bool} {q : Int} (e : RAccepts ms f la word = (b, q)) : Calls Try.prog 20 #[.agg #[.slice A ms.length c, .int .i64 f, .slice A' la.length c'], .slice D word.length d] w fun e w' => e = .returned (.tuple #[.bool b, .int .i64 q]) ∧ Below w.heap.size w w' := by
  have := specAccepts_l (f := f) h.sm (by have := h.m1; omega) h.nm h.sl (by have := h.l1; omega) h.nl hw (by omega) hd
  rw [e] at this
  exact this
theorem lp_i (h : SeeMaps w A ms) (hl : ms.length ≤ 1000) (hA : NilOk A c) {D : Option Addr} {d : Nat} {word : List Int} (hw : SeeInts w D word) (hd : NilOk D d) (hlw : word.length ≤ 900) {p : Int} {xs : List Int} {q : Int} (e : RLeadPoint ms word p = (xs, q)) (hx : xs.length ≤ 1000) : Calls Try.prog 51 #[.slice A ms.length c, .slice D word.length d, .int .i64 p] w (IoPost xs q w) :=
  io_of (implLeadPoint_l h (by omega) hA hw (by omega) hd) e (by rw [e]; exact hx)
theorem ia_i (h : AW w A c ms A' c' la) {b : Bool} (e : accB ms f la = b) : Calls Try.prog 18 #[.agg #[.slice A ms.length c, .int .i64 f, .slice A' la.length c']] w fun e w' => e = .returned (.bool b) ∧ Below w.heap.size w w' :=
  valB (IsAcceptor_c A A' c c' ms f la w h.sm (by have := h.m1; omega) h.nm h.sl (by have := h.l1; omega)) e
theorem ia_s (h : AW w A c ms A' c' la) {b : Bool} (e : accB ms f la = b) : Calls Try.prog 16 #[.agg #[.slice A ms.length c, .int .i64 f, .slice A' la.length c']] w fun e w' => e = .returned (.bool b) ∧ Below w.heap.size w w' :=
  valB (specIsAcceptor_c A A' c c' ms f la w h.sm (by have := h.m1; omega) h.sl (by have := h.l1; omega)) e
theorem a5_t (h : AW w A c ms A' c' la) {B B' : Option Addr} {d d' : Nat} (h' : AW w B d ms B' d' la) : Calls Try.prog 48 #[.agg #[.slice A ms.length c, .int .i64 f, .slice A' la.length c'], .agg #[.slice B ms.length d, .int .i64 f, .slice B' la.length d']] w fun e w' => e = .returned (.bool true) ∧ Below w.heap.size w w' :=
  valB (acceptors5_c w h.sm h.sl h'.sm h'.sl (by have := h.m1; omega) (by have := h.l1; omega)) (by simp)
theorem li_t {xs : List Int} (h : SeeInts w A xs) (h' : SeeInts w A' xs) (hl : xs.length ≤ 1000) : Calls Try.prog 49 #[.slice A xs.length c, .slice A' xs.length c'] w fun e w' => e = .returned (.bool true) ∧ Below w.heap.size w w' :=
  valB (likeInts_c A A' c c' xs xs w (by omega) h h') (by simp)
end
/-- what the law compares where the acceptor is one -/
structure AccVals (ms : List Mp) (f : Int) (la : List Int) (lm : List Mp) (ll : List Int) (ks x y : List Int) : Prop where
  least : RLeastAcceptor ms f la = ((lm, 0, ll), 0)
  twice : RLeastAcceptor lm 0 ll = ((lm, 0, ll), 0)
  equal : RAreEqual ms f la lm 0 ll = (true, 0)
  compl : RComplementOf ms f la = ((ms, f, ks), 0)
  cx : RCountAccepted ms f la 6 = (x, 0)
  cy : RCountAccepted ms f ks 6 = (y, 0)
  cz : RCountAccepted lm 0 ll 6 = (x, 0)
  lx : x.length = 7
  ly : y.length = 7
  all : ∀ k, k < 7 → ∃ a b, x[k]? = some a ∧ y[k]? = some b ∧ a + b = ((ms.length ^ k : Nat) : Int)
  six : ms.length ≤ 6
theorem acc_vals {ms : List Mp} {f : Int} {la : List Int} (h : accB ms f la = true) : ∃ lm ll ks x y, AccVals ms f la lm ll ks x y := by
  have ra := RightA.of h
  have rl := least_right ra
  have rc := compl_right ra
  have e1 : RLeastAcceptor ms f la = ((lmaps ms f la, 0, llast ms f la), 0) := by unfold RLeastAcceptor; rw [if_pos h, leastA_eq]
  have e2 : RLeastAcceptor (lmaps ms f la) 0 (llast ms f la) = ((lmaps ms f la, 0, llast ms f la), 0) := by unfold RLeastAcceptor; rw [if_pos (acc_of rl), least_twice ra]
  have e3 := least_equal ra
  rw [leastA_eq] at e3
  have hl := rl.list.head
  have hx : RCountAccepted ms f la 6 = (countL ms f la (ms.headD Mp.z).p 7, 0) := by
    unfold RCountAccepted
    rw [if_pos h, if_pos (by decide)]
    rfl
  have hy : RCountAccepted ms f (keptL la (ptsN (ms.headD Mp.z).p.toNat)) 6 = (countL ms f (keptL la (ptsN (ms.headD Mp.z).p.toNat)) (ms.headD Mp.z).p 7, 0) := by
    unfold RCountAccepted
    rw [if_pos (acc_of rc), if_pos (by decide)]
    rfl
  have hz : RCountAccepted (lmaps ms f la) 0 (llast ms f la) 6 = (countL ms f la (ms.headD Mp.z).p 7, 0) := by
    unfold RCountAccepted
    rw [if_pos (acc_of rl), if_pos (by decide), hl.1, ← counts_same ra]
    rfl
  refine ⟨lmaps ms f la, llast ms f la, keptL la (ptsN (ms.headD Mp.z).p.toNat), _, _, e1, e2, e3, by unfold RComplementOf; rw [if_pos h], hx, hy, hz, countL_length _ _ _ _ _, countL_length _ _ _ _ _, fun k hk => counts_compl ra hk, ra.list.six⟩
/-- a word that is taken leads to a point of the last ones -/
theorem acc_lead {ms : List Mp} {f : Int} {la word : List Int} {b : Bool} (h : RAccepts ms f la word = (b, 0)) : ∃ xs : List Int, RLeadPoint ms word f = (xs, 0) ∧ xs.length = word.length + 1 ∧ word.length ≤ 40 ∧ ∃ p, xs[word.length]? = some p ∧ decide (p ∈ la) = b := by
  unfold RAccepts at h
  split at h
  · rename_i ha
    split at h
    · rename_i hw
      have ra := RightA.of ha
      obtain ⟨hin, hlen⟩ := isWord_in hw
      have e : decide (runW ms word f ∈ la) = b := congrArg Prod.fst h
      have hp : pcode ms word [f] = 0 := by
        have hs : sameB ms = true := by unfold accB at ha; simp only [Bool.and_eq_true] at ha; exact ha.1
        have hlc : lcode ms [] = 0 := by simpa [sameB] using hs
        have hwc : wcode ms word = 0 := by unfold wcode; rw [if_pos hlc, if_pos hw]
        unfold pcode
        have := ra.f0
        have := ra.f1
        rw [if_pos hwc, if_pos (fun p hp => by simp at hp; subst hp; omega)]
      refine ⟨leadTo ms word f word.length, by unfold RLeadPoint; rw [if_pos hp], leadTo_length _ _ _ _, by omega, runW ms word f, ?_, e⟩
      unfold leadTo
      rw [List.getElem?_map, List.getElem?_range (by omega)]
      show some (runW ms (word.take word.length) f) = _
      rw [List.take_length]
    · exact absurd (congrArg Prod.snd h) (by simp)
  · exact absurd (congrArg Prod.snd h) (by simp)
/-! 'FnAcceptors' returns true. (Printed by tools/gen_fnacc.py.) -/
theorem cp_of {f : FuncId} {args : Array Value} {w : World} (h : Calls Try.prog f args w (CPost w)) : Calls Try.prog f args w fun e w' => ∃ (A1 : Option Addr) (e1 : Nat) (ms : List Mp) (f : Int) (A2 : Option Addr) (e2 : Nat) (la : List Int), e = .returned (.agg #[.slice A1 ms.length e1, .int .i64 f, .slice A2 la.length e2]) ∧ AW w' A1 e1 ms A2 e2 la ∧ Below w.heap.size w w' := by
  refine h.mono ?_
  rintro e w' ⟨A1, c1, ms, f, A2, c2, la, rfl, sm, nm, sl, nl, m7, l6, hb⟩
  exact ⟨A1, c1, ms, f, A2, c2, la, rfl, ⟨sm, nm, sl, nl, by omega, by omega⟩, hb⟩
theorem cw_of {f : FuncId} {args : Array Value} {w : World} (h : Calls Try.prog f args w (CwPost w)) : Calls Try.prog f args w fun e w' => ∃ (A1 : Option Addr) (e1 : Nat) (ms : List Mp) (f : Int) (A2 : Option Addr) (e2 : Nat) (la : List Int) (D : Option Addr) (d : Nat) (word : List Int), e = .returned (.tuple #[.agg #[.slice A1 ms.length e1, .int .i64 f, .slice A2 la.length e2], .slice D word.length d]) ∧ AW w' A1 e1 ms A2 e2 la ∧ SeeInts w' D word ∧ NilOk D d ∧ word.length ≤ 44 ∧ Below w.heap.size w w' := by
  refine h.mono ?_
  rintro e w' ⟨A1, c1, ms, f, A2, c2, la, D, d, word, rfl, sm, nm, sl, nl, sw, nw, m7, l6, w44, hb⟩
  exact ⟨A1, c1, ms, f, A2, c2, la, D, d, word, rfl, ⟨sm, nm, sl, nl, by omega, by omega⟩, sw, nw, w44, hb⟩
theorem cn_of {f : FuncId} {args : Array Value} {w : World} {R : Int → Prop} (h : Calls Try.prog f args w (CnPost R w)) : Calls Try.prog f args w fun e w' => ∃ (A1 : Option Addr) (e1 : Nat) (ms : List Mp) (f : Int) (A2 : Option Addr) (e2 : Nat) (la : List Int) (k : Int), e = .returned (.tuple #[.agg #[.slice A1 ms.length e1, .int .i64 f, .slice A2 la.length e2], .int .i64 k]) ∧ AW w' A1 e1 ms A2 e2 la ∧ Below w.heap.size w w' := by
  refine h.mono ?_
  rintro e w' ⟨A1, c1, ms, f, A2, c2, la, k, rfl, sm, nm, sl, nl, m7, l6, _, hb⟩
  exact ⟨A1, c1, ms, f, A2, c2, la, k, rfl, ⟨sm, nm, sl, nl, by omega, by omega⟩, hb⟩
theorem pow_small {l k : Nat} (h : l ≤ 6) (hk : k ≤ 7) : l ^ k ≤ 279936 := by
  have h1 : l ^ k ≤ 6 ^ k := Nat.pow_le_pow_left h k
  have h2 : 6 ^ k ≤ 6 ^ 7 := Nat.pow_le_pow_right (by omega) hk
  omega
set_option maxHeartbeats 32000000 in
set_option maxRecDepth 100000 in
theorem FnAcceptors_c {c : Nat} {A : Option Addr} {code : List Int} (w : World) (h : SeeBytes w A code) (hl0 : code.length ≤ 9223372036854775807) :
    Calls Try.prog 14 #[.slice A code.length c] w fun e w' => e = .returned (.bool true) ∧ Below w.heap.size w w' := by
  have hbg := big_c A code.length c w hl0
  by_cases hb : 4096 < code.length
  · rw [decide_eq_true hb] at hbg
    have HBG := Lib.hid hbg
    clear hbg hb
    go_enter Try.func14, Try.ntmps14
    go_wp2_with fail
    refine HBG.out.mono ?_
    rintro e w1 ⟨rfl, hb1⟩
    go_wp2
    go_returns
    exact ⟨rfl, hb1⟩
  · have hl : code.length ≤ 4611686018427387904 := by omega
    rw [decide_eq_false hb] at hbg
    have HBG := Lib.hid hbg
    have HSRC := Lib.hid (show ∀ W, Below w.heap.size w W → SeeBytes W A code from fun W hW => h.below hW)
    have HLEN := Lib.hid hl
    clear hbg hb h hl hl0
    go_enter Try.func14, Try.ntmps14
    go_wp2_with fail
    refine HBG.out.mono ?_
    rintro e w1 ⟨rfl, hb0⟩
    clear HBG
    have HDR := Lib.hid (cp_of (DrawLeastAcceptor_c (c := c) w1 (HSRC.out _ hb0) HLEN.out))
    go_wp2_with fail
    refine HDR.out.mono ?_
    rintro e w21 ⟨A1, Ae1, ms, f, A2, Ae2, la, rfl, aw, hb21⟩
    clear HDR
    obtain ⟨W22, hW22⟩ : ∃ W22, W22 = w21.alloc (.cells #[.slice A1 ms.length Ae1, .int .i64 f, .slice A2 la.length Ae2] 30) := ⟨_, rfl⟩
    have k22 : Below w21.heap.size w21 W22 := by rw [hW22]; exact kbelow _ _
    have ba : OBox W22 w21.heap.size (.slice A1 ms.length Ae1) f (.slice A2 la.length Ae2) := by rw [hW22]; exact OBox.new _ _ _ _ rfl
    have hq21 := btrans hb21 k22
    replace aw := aw.below k22
    replace hb0 := btrans hb0 hq21
    obtain ⟨ba0, ba1, ba2⟩ := ba.cells
    obtain ⟨⟨⟨lm, lf, ll⟩, q⟩, hr⟩ : ∃ r, RLeastAcceptor ms f la = r := ⟨_, rfl⟩
    have HRE := Lib.hid hr
    clear hr
    have HIL := Lib.hid (la_i aw HRE.out)
    unfold AoPost at HIL
    go_upto_region 4 with fail
    rw [← hW22]
    clear hW22
    go_wp2_with fail
    refine HIL.out.mono ?_
    rintro e w23 ⟨B1, Be1, B2, Be2, rfl, bw, hb23⟩
    clear HIL
    obtain ⟨W24, hW24⟩ : ∃ W24, W24 = w23.alloc (.cells #[.slice B1 lm.length Be1, .int .i64 lf, .slice B2 ll.length Be2] 30) := ⟨_, rfl⟩
    have k24 : Below w23.heap.size w23 W24 := by rw [hW24]; exact kbelow _ _
    have bb : OBox W24 w23.heap.size (.slice B1 lm.length Be1) lf (.slice B2 ll.length Be2) := by rw [hW24]; exact OBox.new _ _ _ _ rfl
    replace bw := bw.below k24
    have hq23 := btrans hb23 k24
    replace aw := aw.below hq23
    replace ba := ba.below hq23
    replace hb0 := btrans hb0 hq23
    clear ba0 ba1 ba2
    obtain ⟨ba0, ba1, ba2⟩ := ba.cells
    obtain ⟨bb0, bb1, bb2⟩ := bb.cells
    have HSL := Lib.hid (la_s aw HRE.out)
    unfold AoPost at HSL
    go_upto_region 5 with fail
    rw [← hW24]
    clear hW24
    go_wp2_with fail
    refine HSL.out.mono ?_
    rintro e w25 ⟨C1, Ce1, C2, Ce2, rfl, cw, hb25⟩
    clear HSL
    obtain ⟨W26, hW26⟩ : ∃ W26, W26 = w25.alloc (.cells #[.slice C1 lm.length Ce1, .int .i64 lf, .slice C2 ll.length Ce2] 30) := ⟨_, rfl⟩
    have k26 : Below w25.heap.size w25 W26 := by rw [hW26]; exact kbelow _ _
    have bc : OBox W26 w25.heap.size (.slice C1 lm.length Ce1) lf (.slice C2 ll.length Ce2) := by rw [hW26]; exact OBox.new _ _ _ _ rfl
    replace cw := cw.below k26
    have hq25 := btrans hb25 k26
    replace aw := aw.below hq25
    replace bw := bw.below hq25
    replace ba := ba.below hq25
    replace bb := bb.below hq25
    replace hb0 := btrans hb0 hq25
    clear ba0 ba1 ba2
    obtain ⟨ba0, ba1, ba2⟩ := ba.cells
    clear bb0 bb1 bb2
    obtain ⟨bb0, bb1, bb2⟩ := bb.cells
    obtain ⟨bc0, bc1, bc2⟩ := bc.cells
    obtain ⟨tt, htt⟩ : ∃ tt, accB ms f la = tt := ⟨_, rfl⟩
    have HTT := Lib.hid htt
    clear htt
    have H5 := Lib.hid (show ∀ x : BW W26, _ from fun x => a5_t (f := lf) (bw.below x.2) (cw.below x.2))
    have HI := Lib.hid (show ∀ x : BW W26, _ from fun x => ia_i (f := f) (aw.below x.2) HTT.out)
    have HS := Lib.hid (show ∀ x : BW W26, _ from fun x => ia_s (f := f) (aw.below x.2) HTT.out)
    have Qba0 := bwcell ba0
    have Qba1 := bwcell ba1
    have Qba2 := bwcell ba2
    have Qbb0 := bwcell bb0
    have Qbb1 := bwcell bb1
    have Qbb2 := bwcell bb2
    have Qbc0 := bwcell bc0
    have Qbc1 := bwcell bc1
    have Qbc2 := bwcell bc2
    have dq : (q != q) = false := by simp
    have dt : (tt != tt) = false := by cases tt <;> rfl
    go_wp2
    rw [← hW26]
    clear hW26
    refine wp_region_bw (by kernel_rfl) (by kernel_rfl) ?_
    repeat go_big_quiet_step ((first | (go_at_call 48; exact Calls.bw _ (H5.out _)) | (go_at_call 18; exact Calls.bw _ (HI.out _)) | (go_at_call 16; exact Calls.bw _ (HS.out _))))
    refine wpQuiet_nil ?_
    rintro w9 ⟨⟨w9x, hb9⟩, rfl⟩
    clear Qba0 Qba1 Qba2 Qbb0 Qbb1 Qbb2 Qbc0 Qbc1 Qbc2 H5 HI HS dt dq
    clear bc0 bc1 bc2 bc
    clear cw
    replace aw := aw.below hb9
    replace bw := bw.below hb9
    replace ba := ba.below hb9
    replace bb := bb.below hb9
    replace hb0 := btrans hb0 hb9
    clear ba0 ba1 ba2
    obtain ⟨ba0, ba1, ba2⟩ := ba.cells
    clear bb0 bb1 bb2
    obtain ⟨bb0, bb1, bb2⟩ := bb.cells
    go_upto_if 77 with fail
    go_cut [] from 3 (fun wx => Below w.heap.size w wx)
    case first => as_aux_lemma =>
      cases tt
      · have e1 : RLeastAcceptor ms f la = (([], 0, []), 1) := by unfold RLeastAcceptor; rw [if_neg (by rw [HTT.out]; decide)]
        have e2 := e1.symm.trans HRE.out
        simp only [Prod.mk.injEq] at e2
        obtain ⟨⟨rfl, rfl, rfl⟩, rfl⟩ := e2
        clear e1
        go_wp2
        go_meet
        case rel => exact hb0
      · obtain ⟨lm', ll', ks, x, y, V⟩ := acc_vals HTT.out
        have e2 := V.least.symm.trans HRE.out
        simp only [Prod.mk.injEq] at e2
        obtain ⟨⟨rfl, rfl, rfl⟩, rfl⟩ := e2
        have HV := Lib.hid V
        clear V
        have HT := Lib.hid (la_i bw HV.out.twice)
        unfold AoPost at HT
        go_wp2_with fail
        refine HT.out.mono ?_
        rintro e w27 ⟨T1, Te1, T2, Te2, rfl, tw, hb27⟩
        clear HT
        obtain ⟨W28, hW28⟩ : ∃ W28, W28 = w27.alloc (.cells #[.slice T1 lm'.length Te1, .int .i64 0, .slice T2 ll'.length Te2] 30) := ⟨_, rfl⟩
        have k28 : Below w27.heap.size w27 W28 := by rw [hW28]; exact kbelow _ _
        have bt : OBox W28 w27.heap.size (.slice T1 lm'.length Te1) 0 (.slice T2 ll'.length Te2) := by rw [hW28]; exact OBox.new _ _ _ _ rfl
        replace tw := tw.below k28
        have hq27 := btrans hb27 k28
        replace aw := aw.below hq27
        replace bw := bw.below hq27
        replace ba := ba.below hq27
        replace bb := bb.below hq27
        replace hb0 := btrans hb0 hq27
        clear ba0 ba1 ba2
        obtain ⟨ba0, ba1, ba2⟩ := ba.cells
        clear bb0 bb1 bb2
        obtain ⟨bb0, bb1, bb2⟩ := bb.cells
        obtain ⟨bt0, bt1, bt2⟩ := bt.cells
        have HE := Lib.hid (ae_i aw bw HV.out.equal)
        go_upto_region 10 with fail
        rw [← hW28]
        clear hW28
        go_wp2_with fail
        refine HE.out.mono ?_
        rintro e w29 ⟨rfl, hb29⟩
        clear HE
        replace aw := aw.below hb29
        replace bw := bw.below hb29
        replace tw := tw.below hb29
        replace ba := ba.below hb29
        replace bb := bb.below hb29
        replace bt := bt.below hb29
        replace hb0 := btrans hb0 hb29
        clear ba0 ba1 ba2
        obtain ⟨ba0, ba1, ba2⟩ := ba.cells
        clear bb0 bb1 bb2
        obtain ⟨bb0, bb1, bb2⟩ := bb.cells
        clear bt0 bt1 bt2
        obtain ⟨bt0, bt1, bt2⟩ := bt.cells
        have HC := Lib.hid (co_i aw HV.out.compl)
        unfold AoPost at HC
        go_wp2_with fail
        refine HC.out.mono ?_
        rintro e w30 ⟨K1, Ke1, K2, Ke2, rfl, kw, hb30⟩
        clear HC
        obtain ⟨W31, hW31⟩ : ∃ W31, W31 = w30.alloc (.cells #[.slice K1 ms.length Ke1, .int .i64 f, .slice K2 ks.length Ke2] 30) := ⟨_, rfl⟩
        have k31 : Below w30.heap.size w30 W31 := by rw [hW31]; exact kbelow _ _
        have bk : OBox W31 w30.heap.size (.slice K1 ms.length Ke1) f (.slice K2 ks.length Ke2) := by rw [hW31]; exact OBox.new _ _ _ _ rfl
        replace kw := kw.below k31
        have hq30 := btrans hb30 k31
        replace aw := aw.below hq30
        replace bw := bw.below hq30
        replace tw := tw.below hq30
        replace ba := ba.below hq30
        replace bb := bb.below hq30
        replace bt := bt.below hq30
        replace hb0 := btrans hb0 hq30
        clear ba0 ba1 ba2
        obtain ⟨ba0, ba1, ba2⟩ := ba.cells
        clear bb0 bb1 bb2
        obtain ⟨bb0, bb1, bb2⟩ := bb.cells
        clear bt0 bt1 bt2
        obtain ⟨bt0, bt1, bt2⟩ := bt.cells
        obtain ⟨bk0, bk1, bk2⟩ := bk.cells
        have HX := (ca_i aw HV.out.cx)
        unfold IoPost at HX
        rw [HV.out.lx] at HX
        replace HX := Lib.hid HX
        go_upto_region 12 with fail
        rw [← hW31]
        clear hW31
        go_wp2_with fail
        refine HX.out.mono ?_
        rintro e w32 ⟨X, Xc, rfl, sx, sxl, hb32⟩
        clear HX
        replace aw := aw.below hb32
        replace bw := bw.below hb32
        replace tw := tw.below hb32
        replace kw := kw.below hb32
        replace ba := ba.below hb32
        replace bb := bb.below hb32
        replace bt := bt.below hb32
        replace bk := bk.below hb32
        replace hb0 := btrans hb0 hb32
        clear ba0 ba1 ba2
        obtain ⟨ba0, ba1, ba2⟩ := ba.cells
        clear bb0 bb1 bb2
        obtain ⟨bb0, bb1, bb2⟩ := bb.cells
        clear bt0 bt1 bt2
        obtain ⟨bt0, bt1, bt2⟩ := bt.cells
        clear bk0 bk1 bk2
        obtain ⟨bk0, bk1, bk2⟩ := bk.cells
        have HY := (ca_i kw HV.out.cy)
        unfold IoPost at HY
        rw [HV.out.ly] at HY
        replace HY := Lib.hid HY
        go_wp2_with fail
        refine HY.out.mono ?_
        rintro e w33 ⟨Y, Yc, rfl, sy, syl, hb33⟩
        clear HY
        replace aw := aw.below hb33
        replace bw := bw.below hb33
        replace tw := tw.below hb33
        replace kw := kw.below hb33
        replace sx := sx.below hb33
        replace ba := ba.below hb33
        replace bb := bb.below hb33
        replace bt := bt.below hb33
        replace bk := bk.below hb33
        replace hb0 := btrans hb0 hb33
        clear ba0 ba1 ba2
        obtain ⟨ba0, ba1, ba2⟩ := ba.cells
        clear bb0 bb1 bb2
        obtain ⟨bb0, bb1, bb2⟩ := bb.cells
        clear bt0 bt1 bt2
        obtain ⟨bt0, bt1, bt2⟩ := bt.cells
        clear bk0 bk1 bk2
        obtain ⟨bk0, bk1, bk2⟩ := bk.cells
        have HZ := (ca_i bw HV.out.cz)
        unfold IoPost at HZ
        rw [HV.out.lx] at HZ
        replace HZ := Lib.hid HZ
        go_wp2_with fail
        refine HZ.out.mono ?_
        rintro e w34 ⟨Z, Zc, rfl, sz, szl, hb34⟩
        clear HZ
        replace aw := aw.below hb34
        replace bw := bw.below hb34
        replace tw := tw.below hb34
        replace kw := kw.below hb34
        replace sx := sx.below hb34
        replace sy := sy.below hb34
        replace ba := ba.below hb34
        replace bb := bb.below hb34
        replace bt := bt.below hb34
        replace bk := bk.below hb34
        replace hb0 := btrans hb0 hb34
        clear ba0 ba1 ba2
        obtain ⟨ba0, ba1, ba2⟩ := ba.cells
        clear bb0 bb1 bb2
        obtain ⟨bb0, bb1, bb2⟩ := bb.cells
        clear bt0 bt1 bt2
        obtain ⟨bt0, bt1, bt2⟩ := bt.cells
        clear bk0 bk1 bk2
        obtain ⟨bk0, bk1, bk2⟩ := bk.cells
        clear bk0 bk1 bk2 bk
        clear kw
        have H5 := Lib.hid (a5_t (f := 0) tw bw)
        go_wp2_with fail
        refine H5.out.mono ?_
        rintro e w35 ⟨rfl, hb35⟩
        clear H5
        replace aw := aw.below hb35
        replace bw := bw.below hb35
        replace tw := tw.below hb35
        replace sx := sx.below hb35
        replace sy := sy.below hb35
        replace sz := sz.below hb35
        replace ba := ba.below hb35
        replace bb := bb.below hb35
        replace bt := bt.below hb35
        replace hb0 := btrans hb0 hb35
        clear ba0 ba1 ba2
        obtain ⟨ba0, ba1, ba2⟩ := ba.cells
        clear bb0 bb1 bb2
        obtain ⟨bb0, bb1, bb2⟩ := bb.cells
        clear bt0 bt1 bt2
        obtain ⟨bt0, bt1, bt2⟩ := bt.cells
        have HL := (li_t (c := Xc) (c' := Zc) sx sz (by rw [HV.out.lx]; omega))
        rw [HV.out.lx] at HL
        replace HL := Lib.hid HL
        go_wp2_with fail
        refine HL.out.mono ?_
        rintro e w9 ⟨rfl, hb36⟩
        clear HL
        replace aw := aw.below hb36
        replace bw := bw.below hb36
        replace tw := tw.below hb36
        replace sx := sx.below hb36
        replace sy := sy.below hb36
        replace sz := sz.below hb36
        replace ba := ba.below hb36
        replace bb := bb.below hb36
        replace bt := bt.below hb36
        replace hb0 := btrans hb0 hb36
        clear ba0 ba1 ba2
        obtain ⟨ba0, ba1, ba2⟩ := ba.cells
        clear bb0 bb1 bb2
        obtain ⟨bb0, bb1, bb2⟩ := bb.cells
        clear bt0 bt1 bt2
        obtain ⟨bt0, bt1, bt2⟩ := bt.cells
        clear bt0 bt1 bt2 bt
        clear tw
        clear bb0 bb1 bb2 bb
        clear bw
        clear sz
        have lx := HV.out.lx
        have ly := HV.out.ly
        obtain ⟨bx, ox, rfl, gx⟩ := sx (by intro e; rw [e] at lx; cases lx)
        obtain ⟨by', oy, rfl, gy⟩ := sy (by intro e; rw [e] at ly; cases ly)
        have GX := Lib.hid gx
        have GY := Lib.hid gy
        clear gx gy sx sy lx ly sxl syl szl
        obtain ⟨Wl, hWl⟩ : ∃ Wl, Wl = w9 := ⟨_, rfl⟩
        go_wp2
        go_loopw [20, 21] (fun allv kv wr => ∃ k : Nat, k ≤ 7 ∧ kv = .int .i64 k ∧ allv = .int .i64 ((ms.length ^ k : Nat) : Int) ∧ Below w9.heap.size w9 wr) (fun _ kv _ => 7 - (intOf kv).toNat)
        case atStart => exact ⟨0, by omega, rfl, by simp, Below.refl _ _⟩
        case round =>
          obtain ⟨k, hk, rfl, rfl, hbr⟩ := hrel
          have hps := pow_small (l := ms.length) (k := k) HV.out.six hk
          by_cases hlt : k < 7
          · have k0 : (0 : Int) ≤ k := by omega
            have k7 : (k : Int) < 7 := by omega
            obtain ⟨a, b, hxa, hyb, hab⟩ := HV.out.all k hlt
            have gx := bwcell (bcell hbr (GX.out k a hxa))
            have gy := bwcell (bcell hbr (GY.out k b hyb))
            have hs1 : ms.length ^ (k + 1) = ms.length ^ k * ms.length := Nat.pow_succ ..
            have hs2 := pow_small (l := ms.length) (k := k + 1) HV.out.six hlt
            obtain ⟨P, hP⟩ : ∃ P : Int, P = ((ms.length ^ k : Nat) : Int) := ⟨_, rfl⟩
            have HP1 := Lib.hid (show IntKind.i64.wrap (P * (ms.length : Int)) = ((ms.length ^ (k + 1) : Nat) : Int) by rw [IntKind.wrap_i64, hP, hs1, Int.natCast_mul]; rw [hs1] at hs2; have : ((ms.length ^ k : Nat) : Int) * (ms.length : Int) = ((ms.length ^ k * ms.length : Nat) : Int) := (Int.natCast_mul ..).symm; rw [this]; omega)
            rw [← hP] at hab ⊢
            have wab : IntKind.i64.wrap (a + b) = P := by rw [IntKind.wrap_i64]; omega
            have dP : (P != P) = false := by simp
            obtain ⟨ba0, ba1, ba2⟩ := (ba.below hbr).cells
            clear hs1 hs2 hps hP hab
            go_wp2
            refine wp_region_bw (by kernel_rfl) (by kernel_rfl) ?_
            repeat go_big_quiet_step (fail)
            refine wpQuiet_nil ?_
            rintro wq ⟨⟨wqx, hbq⟩, rfl⟩
            have qa := bcell hbq ba0
            obtain ⟨P', hP'⟩ : ∃ P' : Int, P' = ((ms.length ^ (k + 1) : Nat) : Int) := ⟨_, rfl⟩
            have hp1 := HP1.out
            rw [← hP'] at hp1
            have HP' := Lib.hid hP'
            clear hP' ba0 ba1 ba2 gx gy
            go_wp2
            go_roundw
            case rel => exact ⟨k + 1, by omega, by go_num, by rw [HP'.out], btrans hbr hbq⟩
            case measure => simp [intOf]; omega
          · obtain rfl : k = 7 := by omega
            clear hps
            go_wp2
            go_meet
            case rel => exact btrans hb0 hbr
    case rest => as_aux_lemma =>
      have hb0 : Below w.heap.size w wc := hcut
      clear hcut
      have HDA := Lib.hid (cw_of (DrawAccepts_c (c := c) wc (HSRC.out _ hb0) HLEN.out))
      go_wp2_with fail
      refine HDA.out.mono ?_
      rintro e w37 ⟨A1, Ae1, ms, f, A2, Ae2, la, D, d, word, rfl, aw, sw, nw, w44, hb37⟩
      clear HDA
      obtain ⟨W38, hW38⟩ : ∃ W38, W38 = w37.alloc (.cells #[.slice A1 ms.length Ae1, .int .i64 f, .slice A2 la.length Ae2] 30) := ⟨_, rfl⟩
      have k38 : Below w37.heap.size w37 W38 := by rw [hW38]; exact kbelow _ _
      have ba : OBox W38 w37.heap.size (.slice A1 ms.length Ae1) f (.slice A2 la.length Ae2) := by rw [hW38]; exact OBox.new _ _ _ _ rfl
      have hq37 := btrans hb37 k38
      replace aw := aw.below k38
      replace sw := sw.below k38
      replace hb0 := btrans hb0 hq37
      obtain ⟨ba0, ba1, ba2⟩ := ba.cells
      obtain ⟨⟨yes, q⟩, hr⟩ : ∃ r, RAccepts ms f la word = r := ⟨_, rfl⟩
      have HRE := Lib.hid hr
      clear hr
      have HA := Lib.hid (ac_i aw sw nw (by omega) HRE.out)
      go_upto_region 25 with fail
      rw [← hW38]
      clear hW38
      go_wp2_with fail
      refine HA.out.mono ?_
      rintro e w39 ⟨rfl, hb39⟩
      clear HA
      replace aw := aw.below hb39
      replace sw := sw.below hb39
      replace ba := ba.below hb39
      replace hb0 := btrans hb0 hb39
      clear ba0 ba1 ba2
      obtain ⟨ba0, ba1, ba2⟩ := ba.cells
      have HB := Lib.hid (ac_s aw sw nw (by omega) HRE.out)
      go_wp2_with fail
      refine HB.out.mono ?_
      rintro e w40 ⟨rfl, hb40⟩
      clear HB
      replace aw := aw.below hb40
      replace sw := sw.below hb40
      replace ba := ba.below hb40
      replace hb0 := btrans hb0 hb40
      clear ba0 ba1 ba2
      obtain ⟨ba0, ba1, ba2⟩ := ba.cells
      have dq : (q != q) = false := by simp
      have dy : (yes != yes) = false := by cases yes <;> rfl
      go_upto_if 203 with fail
      go_cut [] from 3 (fun wx => Below w.heap.size w wx)
      case first => as_aux_lemma =>
        clear dq
        by_cases hq : q = 0
        · subst hq
          obtain ⟨xs, e1, e2, e3, p, e4, e5⟩ := acc_lead HRE.out
          have HE4 := Lib.hid e4
          have HE2 := Lib.hid e2
          have HLP := lp_i aw.sm aw.m1 aw.nm sw nw (by omega) e1 (by omega)
          unfold IoPost at HLP
          replace HLP := Lib.hid HLP
          go_wp2_with fail
          refine HLP.out.mono ?_
          rintro e w41 ⟨X, Xc, rfl, sx, sxl, hb41⟩
          clear HLP
          replace aw := aw.below hb41
          replace sw := sw.below hb41
          replace ba := ba.below hb41
          replace hb0 := btrans hb0 hb41
          clear ba0 ba1 ba2
          obtain ⟨ba0, ba1, ba2⟩ := ba.cells
          obtain ⟨bx, ox, rfl, gx⟩ := sx (by intro e; rw [e] at e2; cases e2)
          have gp := bwcell (gx _ _ HE4.out)
          have m1 : IntKind.i64.wrap ((word.length : Int) + 1) = (xs.length : Int) := by rw [IntKind.wrap_i64]; omega
          have m2 : IntKind.i64.wrap ((xs.length : Int) - 1) = (word.length : Int) := by rw [IntKind.wrap_i64]; omega
          have m3 : (0 : Int) ≤ word.length := by omega
          have m4 : (word.length : Int) < xs.length := by omega
          have m5 : ((xs.length : Int) != (xs.length : Int)) = false := by simp
          have HHI := Lib.hid (show ∀ x : BW w41, _ from fun x => valB (hasInt_c A2 Ae2 la p x.1 (by have := aw.l1; omega) ((aw.below x.2).sl)) e5)
          have Qba0 := bwcell ba0
          have Qba1 := bwcell ba1
          have Qba2 := bwcell ba2
          clear gx sx sxl e1 e2 e4 e5
          go_wp2
          refine wp_region_bw (by kernel_rfl) (by kernel_rfl) ?_
          repeat go_big_quiet_step ((go_at_call 52; exact Calls.bw _ (HHI.out _)))
          refine wpQuiet_nil ?_
          rintro w9 ⟨⟨w9x, hb9⟩, rfl⟩
          go_wp2
          go_meet
          case rel => exact btrans hb0 hb9
        · have dq : (q == 0) = false := by simpa using hq
          clear hq
          go_wp2
          go_meet
          case rel => exact hb0
      case rest => as_aux_lemma =>
        have hb0 : Below w.heap.size w wc := hcut
        clear hcut
        have HDA := Lib.hid (cn_of (DrawCountAccepted_c (c := c) wc (HSRC.out _ hb0) HLEN.out))
        go_wp2_with fail
        refine HDA.out.mono ?_
        rintro e w42 ⟨A1, Ae1, ms, f, A2, Ae2, la, k, rfl, aw, hb42⟩
        clear HDA
        obtain ⟨W43, hW43⟩ : ∃ W43, W43 = w42.alloc (.cells #[.slice A1 ms.length Ae1, .int .i64 f, .slice A2 la.length Ae2] 30) := ⟨_, rfl⟩
        have k43 : Below w42.heap.size w42 W43 := by rw [hW43]; exact kbelow _ _
        have ba : OBox W43 w42.heap.size (.slice A1 ms.length Ae1) f (.slice A2 la.length Ae2) := by rw [hW43]; exact OBox.new _ _ _ _ rfl
        have hq42 := btrans hb42 k43
        replace aw := aw.below k43
        replace hb0 := btrans hb0 hq42
        obtain ⟨ba0, ba1, ba2⟩ := ba.cells
        obtain ⟨⟨xs, q1⟩, hr⟩ : ∃ r, RCountAccepted ms f la k = r := ⟨_, rfl⟩
        have HRE := Lib.hid hr
        clear hr
        have HX := (ca_i aw HRE.out)
        unfold IoPost at HX
        replace HX := Lib.hid HX
        go_upto_region 34 with fail
        rw [← hW43]
        clear hW43
        go_wp2_with fail
        refine HX.out.mono ?_
        rintro e w44 ⟨X, Xc, rfl, sx, sxl, hb44⟩
        clear HX
        replace aw := aw.below hb44
        replace ba := ba.below hb44
        replace hb0 := btrans hb0 hb44
        clear ba0 ba1 ba2
        obtain ⟨ba0, ba1, ba2⟩ := ba.cells
        have HY := (ca_s aw HRE.out)
        unfold IoPost at HY
        replace HY := Lib.hid HY
        go_wp2_with fail
        refine HY.out.mono ?_
        rintro e w45 ⟨Y, Yc, rfl, sy, syl, hb45⟩
        clear HY
        replace aw := aw.below hb45
        replace sx := sx.below hb45
        replace ba := ba.below hb45
        replace hb0 := btrans hb0 hb45
        clear ba0 ba1 ba2
        obtain ⟨ba0, ba1, ba2⟩ := ba.cells
        clear ba0 ba1 ba2 ba
        clear aw
        clear HRE
        have HDB := Lib.hid (cp_of (DrawPointsReached_c (c := c) w45 (HSRC.out _ hb0) HLEN.out))
        go_wp2_with fail
        refine HDB.out.mono ?_
        rintro e w46 ⟨B1, Be1, ns, g, B2, Be2, lb, rfl, bw, hb46⟩
        clear HDB
        obtain ⟨W47, hW47⟩ : ∃ W47, W47 = w46.alloc (.cells #[.slice B1 ns.length Be1, .int .i64 g, .slice B2 lb.length Be2] 30) := ⟨_, rfl⟩
        have k47 : Below w46.heap.size w46 W47 := by rw [hW47]; exact kbelow _ _
        have bb : OBox W47 w46.heap.size (.slice B1 ns.length Be1) g (.slice B2 lb.length Be2) := by rw [hW47]; exact OBox.new _ _ _ _ rfl
        have hq46 := btrans hb46 k47
        replace bw := bw.below k47
        replace sx := sx.below hq46
        replace sy := sy.below hq46
        replace hb0 := btrans hb0 hq46
        obtain ⟨bb0, bb1, bb2⟩ := bb.cells
        obtain ⟨⟨ys, q2⟩, hr⟩ : ∃ r, RPointsReached ns g lb = r := ⟨_, rfl⟩
        have HRE := Lib.hid hr
        clear hr
        have HP := (pr_i bw HRE.out)
        unfold IoPost at HP
        replace HP := Lib.hid HP
        go_upto_region 37 with fail
        rw [← hW47]
        clear hW47
        go_wp2_with fail
        refine HP.out.mono ?_
        rintro e w48 ⟨P, Pc, rfl, sp, spl, hb48⟩
        clear HP
        replace sx := sx.below hb48
        replace sy := sy.below hb48
        replace bw := bw.below hb48
        replace bb := bb.below hb48
        replace hb0 := btrans hb0 hb48
        clear bb0 bb1 bb2
        obtain ⟨bb0, bb1, bb2⟩ := bb.cells
        have HQ := (pr_s bw HRE.out)
        unfold IoPost at HQ
        replace HQ := Lib.hid HQ
        go_wp2_with fail
        refine HQ.out.mono ?_
        rintro e w49 ⟨Q, Qc, rfl, sq, sql, hb49⟩
        clear HQ
        replace sx := sx.below hb49
        replace sy := sy.below hb49
        replace bw := bw.below hb49
        replace sp := sp.below hb49
        replace bb := bb.below hb49
        replace hb0 := btrans hb0 hb49
        clear bb0 bb1 bb2
        obtain ⟨bb0, bb1, bb2⟩ := bb.cells
        clear bb0 bb1 bb2 bb
        clear bw
        clear HRE
        have HDC := Lib.hid (cp_of (DrawComplementOf_c (c := c) w49 (HSRC.out _ hb0) HLEN.out))
        go_wp2_with fail
        refine HDC.out.mono ?_
        rintro e w50 ⟨C1, Ce1, os, k', C2, Ce2, lc, rfl, cw, hb50⟩
        clear HDC
        obtain ⟨W51, hW51⟩ : ∃ W51, W51 = w50.alloc (.cells #[.slice C1 os.length Ce1, .int .i64 k', .slice C2 lc.length Ce2] 30) := ⟨_, rfl⟩
        have k51 : Below w50.heap.size w50 W51 := by rw [hW51]; exact kbelow _ _
        have bc : OBox W51 w50.heap.size (.slice C1 os.length Ce1) k' (.slice C2 lc.length Ce2) := by rw [hW51]; exact OBox.new _ _ _ _ rfl
        have hq50 := btrans hb50 k51
        replace cw := cw.below k51
        replace sx := sx.below hq50
        replace sy := sy.below hq50
        replace sp := sp.below hq50
        replace sq := sq.below hq50
        replace hb0 := btrans hb0 hq50
        obtain ⟨bc0, bc1, bc2⟩ := bc.cells
        obtain ⟨⟨⟨lm, lf, ll⟩, q3⟩, hr⟩ : ∃ r, RComplementOf os k' lc = r := ⟨_, rfl⟩
        have HRE := Lib.hid hr
        clear hr
        have HK := Lib.hid (co_i cw HRE.out)
        unfold AoPost at HK
        go_upto_region 40 with fail
        rw [← hW51]
        clear hW51
        go_wp2_with fail
        refine HK.out.mono ?_
        rintro e w52 ⟨K1, Ke1, K2, Ke2, rfl, kw, hb52⟩
        clear HK
        obtain ⟨W53, hW53⟩ : ∃ W53, W53 = w52.alloc (.cells #[.slice K1 lm.length Ke1, .int .i64 lf, .slice K2 ll.length Ke2] 30) := ⟨_, rfl⟩
        have k53 : Below w52.heap.size w52 W53 := by rw [hW53]; exact kbelow _ _
        have bk : OBox W53 w52.heap.size (.slice K1 lm.length Ke1) lf (.slice K2 ll.length Ke2) := by rw [hW53]; exact OBox.new _ _ _ _ rfl
        replace kw := kw.below k53
        have hq52 := btrans hb52 k53
        replace sx := sx.below hq52
        replace sy := sy.below hq52
        replace sp := sp.below hq52
        replace sq := sq.below hq52
        replace cw := cw.below hq52
        replace bc := bc.below hq52
        replace hb0 := btrans hb0 hq52
        clear bc0 bc1 bc2
        obtain ⟨bc0, bc1, bc2⟩ := bc.cells
        obtain ⟨bk0, bk1, bk2⟩ := bk.cells
        have HM := Lib.hid (co_s cw HRE.out)
        unfold AoPost at HM
        go_upto_region 41 with fail
        rw [← hW53]
        clear hW53
        go_wp2_with fail
        refine HM.out.mono ?_
        rintro e w54 ⟨M1, Me1, M2, Me2, rfl, mw, hb54⟩
        clear HM
        obtain ⟨W55, hW55⟩ : ∃ W55, W55 = w54.alloc (.cells #[.slice M1 lm.length Me1, .int .i64 lf, .slice M2 ll.length Me2] 30) := ⟨_, rfl⟩
        have k55 : Below w54.heap.size w54 W55 := by rw [hW55]; exact kbelow _ _
        have bm : OBox W55 w54.heap.size (.slice M1 lm.length Me1) lf (.slice M2 ll.length Me2) := by rw [hW55]; exact OBox.new _ _ _ _ rfl
        replace mw := mw.below k55
        have hq54 := btrans hb54 k55
        replace sx := sx.below hq54
        replace sy := sy.below hq54
        replace sp := sp.below hq54
        replace sq := sq.below hq54
        replace cw := cw.below hq54
        replace kw := kw.below hq54
        replace bc := bc.below hq54
        replace bk := bk.below hq54
        replace hb0 := btrans hb0 hq54
        clear bc0 bc1 bc2
        obtain ⟨bc0, bc1, bc2⟩ := bc.cells
        clear bk0 bk1 bk2
        obtain ⟨bk0, bk1, bk2⟩ := bk.cells
        obtain ⟨bm0, bm1, bm2⟩ := bm.cells
        clear bc0 bc1 bc2 bc
        clear cw
        clear HRE
        have d1 : (q1 == q1) = true := by simp
        have d2 : (q2 == q2) = true := by simp
        have d3 : (q3 == q3) = true := by simp
        have HL1 := Lib.hid (li_t (c := Xc) (c' := Yc) sx sy sxl)
        go_upto_region 42 with fail
        rw [← hW55]
        clear hW55
        go_wp2_with fail
        refine HL1.out.mono ?_
        rintro e w56 ⟨rfl, hb56⟩
        clear HL1
        replace sx := sx.below hb56
        replace sy := sy.below hb56
        replace sp := sp.below hb56
        replace sq := sq.below hb56
        replace kw := kw.below hb56
        replace mw := mw.below hb56
        replace bk := bk.below hb56
        replace bm := bm.below hb56
        replace hb0 := btrans hb0 hb56
        clear bk0 bk1 bk2
        obtain ⟨bk0, bk1, bk2⟩ := bk.cells
        clear bm0 bm1 bm2
        obtain ⟨bm0, bm1, bm2⟩ := bm.cells
        have HL2 := Lib.hid (li_t (c := Pc) (c' := Qc) sp sq spl)
        go_wp2_with fail
        refine HL2.out.mono ?_
        rintro e w57 ⟨rfl, hb57⟩
        clear HL2
        replace sx := sx.below hb57
        replace sy := sy.below hb57
        replace sp := sp.below hb57
        replace sq := sq.below hb57
        replace kw := kw.below hb57
        replace mw := mw.below hb57
        replace bk := bk.below hb57
        replace bm := bm.below hb57
        replace hb0 := btrans hb0 hb57
        clear bk0 bk1 bk2
        obtain ⟨bk0, bk1, bk2⟩ := bk.cells
        clear bm0 bm1 bm2
        obtain ⟨bm0, bm1, bm2⟩ := bm.cells
        have H5 := Lib.hid (a5_t (f := lf) kw mw)
        go_wp2_with fail
        refine H5.out.mono ?_
        rintro e w58 ⟨rfl, hb58⟩
        clear H5
        replace sx := sx.below hb58
        replace sy := sy.below hb58
        replace sp := sp.below hb58
        replace sq := sq.below hb58
        replace kw := kw.below hb58
        replace mw := mw.below hb58
        replace bk := bk.below hb58
        replace bm := bm.below hb58
        replace hb0 := btrans hb0 hb58
        clear bk0 bk1 bk2
        obtain ⟨bk0, bk1, bk2⟩ := bk.cells
        clear bm0 bm1 bm2
        obtain ⟨bm0, bm1, bm2⟩ := bm.cells
        go_wp2
        go_returns
        exact ⟨rfl, hb0⟩
end Go.Proofs.Ytbodaefdaagelaa
