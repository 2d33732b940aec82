/- 'apart', 'FirstApart', 'FirstAccepted', on both sides. No condition. -/
import Derived.Test.YtbodaefdaagelaaApart
namespace Go.Proofs.Ytbodaefdaagelaa
set_option linter.unusedSimpArgs false
set_option linter.unusedVariables false
set_option linter.unusedSectionVars false
open Go.RowKit
def isLB (ls : List Int) (p : List Int) : Bool := decide (p.headD 0 ∈ ls)
def isLP (ls : List Int) (p : List Int) : Bool := decide (p.headD 0 ∈ ls) != decide (p.getD 1 0 ∈ ls)
theorem ptsAll_l {n : Int} (h : 0 ≤ n) {l : Nat} : ∀ p ∈ ptsAll n.toNat l, PtsL l n p := fun p hp => by have := ptsAll_mem.1 hp; rwa [Int.toNat_of_nonneg h] at this
/-- an acceptor's variable in memory -/
structure AccAt (w : World) (b : Nat) (A A' : Option Addr) (c c' : Nat) (ms : List Mp) (f : Int) (ls : List Int) : Prop where
  c0 : w.cell? ⟨b, 0, none⟩ = some (.slice A ms.length c)
  c1 : w.cell? ⟨b, 1, none⟩ = some (.int .i64 f)
  c2 : w.cell? ⟨b, 2, none⟩ = some (.slice A' ls.length c')
  sm : SeeMaps w A ms
  sl : SeeInts w A' ls
section
variable {w w' : World} {b : Nat} {A A' : Option Addr} {c c' : Nat} {ms : List Mp} {f : Int} {ls : List Int}
theorem AccAt.below (h : AccAt w b A A' c c' ms f ls) (hb : Below w.heap.size w w') : AccAt w' b A A' c c' ms f ls := ⟨bcell hb h.c0, bcell hb h.c1, bcell hb h.c2, h.sm.below hb, h.sl.below hb⟩
theorem AccAt.lt (h : AccAt w b A A' c c' ms f ls) : b < w.heap.size := World.block_lt_of_cell? w ⟨b, 0, none⟩ h.c0
theorem AccAt.new (h : SeeMaps w A ms) (h' : SeeInts w A' ls) (t : TypeId) : AccAt (w.alloc (.cells #[.slice A ms.length c, .int .i64 f, .slice A' ls.length c'] t)) w.heap.size A A' c c' ms f ls :=
  ⟨by simp [go_sem], by simp [go_sem], by simp [go_sem], h.below (kbelow _ _), h'.below (kbelow _ _)⟩
end
set_option maxHeartbeats 400000 in
set_option maxRecDepth 100000 in
theorem FirstAccepted1_ok (b : Nat) (A A' : Option Addr) (c c' : Nat) (ms : List Mp) (f : Int) (ls : List Int) (n : Int) (w : World) (h : AccAt w b A A' c c' ms f ls) (hl : ls.length ≤ 2097152) (hn : 0 ≤ n) :
    IsOk 79 #[.pointer (some ⟨b, 0, none⟩)] (isLB ls) (ptsAll n.toNat 1) w := fun W D d p hp hs hb => by
  have hpl := (ptsAll_l hn p hp).1
  obtain ⟨b1, o1, x, rfl, hx, q⟩ := hs.at_ (k := 0) (by omega)
  have e : p.headD 0 = x := by cases p with | nil => simp at hx | cons y t => simp at hx; simp [hx]
  have pos : 0 < p.length := by omega
  have pos' : (0 : Int) < p.length := by omega
  rw [Nat.add_zero] at q
  have h2 := h.below hb
  have E := Lib.hid e
  clear e hx hs hp
  unfold isLB
  rw [E.out]
  show Calls Try.prog 79 #[.slice (some ⟨b1, o1, none⟩) p.length d, .pointer (some ⟨b, 0, none⟩)] W _
  have HPL := Lib.hid hpl
  clear hpl
  go_enter Try.func79, Try.ntmps79
  go_wp2_with fail
  refine (isLast_c b A' c' ls x _ h2.c2 h2.sl hl).mono ?_
  rintro e w2 ⟨rfl, hb2⟩
  go_wp2
  go_returns
  exact ⟨rfl, hb2⟩
set_option maxHeartbeats 400000 in
set_option maxRecDepth 100000 in
theorem apart1_ok (b b3 : Nat) (A A' : Option Addr) (c c' : Nat) (ms : List Mp) (f : Int) (ls : List Int) (n : Int) (w : World) (h : AccAt w b A A' c c' ms f ls) (h3 : VBox w b3 (.pointer (some ⟨b, 0, none⟩))) (hl : ls.length ≤ 2097152) (hn : 0 ≤ n) :
    IsOk 117 #[.pointer (some ⟨b3, 0, none⟩)] (isLP ls) (ptsAll n.toNat 2) w := fun W D d p hp hs hb => by
  have hpl := (ptsAll_l hn p hp).1
  obtain ⟨b1, o1, x, rfl, hx, q⟩ := hs.at_ (k := 0) (by omega)
  obtain ⟨b1', o1', y, e2, hy, q'⟩ := hs.at_ (k := 1) (by omega)
  simp only [Option.some.injEq, Addr.mk.injEq, and_true] at e2
  obtain ⟨rfl, rfl⟩ := e2
  have e : p.headD 0 = x := by cases p with | nil => simp at hx | cons y t => simp at hx; simp [hx]
  have e' : p.getD 1 0 = y := by rw [List.getD_eq_getElem?_getD, hy]; rfl
  rw [Nat.add_zero] at q
  have h2 := h.below hb
  have h32 := h3.below hb
  unfold isLP
  rw [e, e']
  obtain ⟨r, hr⟩ : ∃ r, r = (decide (x ∈ ls) != decide (y ∈ ls)) := ⟨_, rfl⟩
  rw [← hr]
  have HR := Lib.hid hr
  clear e e' hx hy hs hp hr
  show Calls Try.prog 117 #[.slice (some ⟨b1, o1, none⟩) p.length d, .pointer (some ⟨b3, 0, none⟩)] W _
  rw [hpl]
  clear hpl
  have Q := bwcell q
  have Q' := bwcell q'
  have C2 := bwcell h2.c2
  have SL := h2.sl.bw
  have C3 := bwcell h32.cell
  clear q q' h h3 hb
  go_enter Try.func117, Try.ntmps117
  go_wp2
  refine wp_region_bw (by kernel_rfl) (by kernel_rfl) ?_
  repeat go_big_quiet_step (((go_at_call 67; exact Calls.bw _ (isLast_c b A' c' ls _ _ (C2 _) (SL _) hl))))
  refine wpQuiet_nil ?_
  rintro w4 ⟨⟨w4x, hb4⟩, rfl⟩
  go_wp2
  go_returns
  exact ⟨by rw [HR.out]; rfl, hb4⟩
theorem pt2 {n p q : Int} (h0 : 0 ≤ p) (h1 : p < n) (g0 : 0 ≤ q) (g1 : q < n) : PtsL 2 n [p, q] := ⟨rfl, fun x hx => by
  rcases List.mem_cons.1 hx with rfl | hx
  · exact ⟨h0, h1⟩
  · rw [List.mem_singleton.1 hx]; exact ⟨g0, g1⟩⟩
theorem univ2 {ms : List Mp} {n p q : Int} (hr : RightL ms n) (h0 : 0 ≤ p) (h1 : p < n) (g0 : 0 ≤ q) (g1 : q < n) : Univ (stp leadB ms) ms.length [p, q] (ptsAll n.toNat 2) := lead_univ hr (by omega) (pt2 h0 h1 g0 g1)
theorem lead_pair (ms : List Mp) : ∀ (u : List Int) (p q : Int), run (stp leadB ms) [p, q] u = [(run (stP ms ms) (p, q) u).1, (run (stP ms ms) (p, q) u).2]
  | [], p, q => rfl
  | k :: u, p, q => lead_pair ms u _ _
theorem fw_pair {ms : List Mp} {n p q : Int} (hr : RightL ms n) (ls : List Int) (h0 : 0 ≤ p) (h1 : p < n) (g0 : 0 ≤ q) (g1 : q < n) : fw (stp leadB ms) ms.length [p, q] (isLP ls) = fw (stP ms ms) ms.length (p, q) (isP ls ls) :=
  fw_eq (univ2 hr h0 h1 g0 g1) (univP hr hr rfl h0 h1 g0 g1) hr.six fun u _ => by rw [lead_pair]; rfl
set_option maxHeartbeats 400000 in
set_option maxRecDepth 100000 in
theorem apart_c (b : Nat) (A A' : Option Addr) (c c' : Nat) (ms : List Mp) (f : Int) (ls : List Int) (n p q : Int) (w : World) (h : AccAt w b A A' c c' ms f ls) (hr : RightL ms n) (hl : ls.length ≤ 2097152) (h0 : 0 ≤ p) (h1 : p < n) (g0 : 0 ≤ q) (g1 : q < n) :
    Calls Try.prog 80 #[.pointer (some ⟨b, 0, none⟩), .int .i64 p, .int .i64 q] w (FWpost (fw (stP ms ms) ms.length (p, q) (isP ls ls)) w) := by
  have nn : 0 ≤ n := by omega
  have hU := univ2 hr h0 h1 g0 g1
  obtain ⟨r, hre⟩ : ∃ r, r = fw (stP ms ms) ms.length (p, q) (isP ls ls) := ⟨_, rfl⟩
  have hr2 : fw (stp leadB ms) ms.length [p, q] (isLP ls) = r := (fw_pair hr ls h0 h1 g0 g1).trans hre.symm
  rw [← hre]
  have hF : ∀ (W : World) (B : Nat) (F : Option Addr) (fc : Nat), Below w.heap.size w W → VBox W B (.pointer (some ⟨b, 0, none⟩)) → SeeInts W F [p, q] → InS (fun k => k < W.heap.size) F →
      Calls Try.prog 77 #[.slice A ms.length c, .slice F 2 fc, .func (.func 78) #[] #[], .func (.func 117) #[] #[.pointer (some ⟨B, 0, none⟩)]] W (FWpost r W) := fun W B F fc hb h3 hs hi => by
    rw [← hr2]
    exact firstWord_c (A := A) (F := F) (c := c) (fc := fc) (ms := ms) (start := [p, q]) (gB := 78) (gI := 117) (lbB := #[]) (lbI := #[.pointer (some ⟨B, 0, none⟩)]) (U := ptsAll n.toNat 2) (by_ := leadB) (is := isLP ls) W (h.sm.below hb) ((h.sm.below hb).inS hr.ne) hr.six hs hi hU (fun p hp => by have := (ptsAll_l nn p hp).1; omega) leadEnters (enters_of Try.func117 (by kernel_rfl) rfl) (lead_by 2 n ms _ hr.all (ptsAll_l nn) (by omega)) (apart1_ok b B A A' c c' ms f ls n W (h.below hb) h3 hl nn)
  have HF := Lib.hid hF
  have c0 := h.c0
  have hlt := h.lt
  clear hF hU hr hre hr2
  go_enter Try.func80, Try.ntmps80
  go_wp2_with fail
  have k0 : Below w.heap.size w ((w.alloc (Obj.cells #[Value.pointer (some ⟨b, 0, none⟩)] 107)).alloc (Obj.cells #[Value.int .i64 p, .int .i64 q] 2)) := by go_grown
  have hs := (OwnInts.two (w.alloc (Obj.cells #[Value.pointer (some ⟨b, 0, none⟩)] 107)) 0 (Nat.zero_le _) p q).see'
  have e1 : (w.alloc (Obj.cells #[Value.pointer (some ⟨b, 0, none⟩)] 107)).heap.size = w.heap.size + 1 := by simp
  rw [e1] at hs
  refine (HF.out _ w.heap.size _ _ k0 ((VBox.new _ _ rfl).keep _) hs (fun a ha => by obtain rfl := Option.some.inj ha; simp)).mono ?_
  rintro e w2 ⟨v, rfl, hown, hb2⟩
  obtain ⟨A1, c1, rfl, _⟩ := hown.see
  go_wp2
  go_returns
  exact ⟨_, rfl, hown.mono k0.size, btrans k0 hb2⟩
/-! 'FirstApart', 'FirstAccepted', on both sides. -/
theorem fw_cases {σ : Type} [DecidableEq σ] (st : Nat → σ → σ) (L : Nat) (start : σ) (P : σ → Bool) : (∃ u, fw st L start P = (u, 0)) ∨ fw st L start P = ([], 4) := by
  cases h : (gF st L start).find? (fun m => P m.1) with
  | some m => exact .inl ⟨m.2, fw_some h⟩
  | none => exact .inr (fw_none h)
theorem fw_length {σ : Type} [DecidableEq σ] (st : Nat → σ → σ) (L : Nat) (start : σ) (P : σ → Bool) : (fw st L start P).1.length ≤ 1000 := by
  cases h : (gF st L start).find? (fun m => P m.1) with
  | some m =>
    rw [fw_some h]
    have := List.mem_of_find?_eq_some h
    unfold gF at this
    exact gb_words 1000 m this
  | none => rw [fw_none h]; simp
open Classical in
noncomputable def RFirstApart (ms : List Mp) (f : Int) (ls : List Int) (p q : Int) : List Int × Int :=
  if accB ms f ls = true then (if inB p 0 ((ms.headD Mp.z).p - 1) = true ∧ inB q 0 ((ms.headD Mp.z).p - 1) = true then fw (stP ms ms) ms.length (p, q) (isP ls ls) else ([], 2)) else ([], 1)
theorem RFirstApart_len (ms : List Mp) (f : Int) (ls : List Int) (p q : Int) : (RFirstApart ms f ls p q).1.length ≤ 1000 := by
  unfold RFirstApart
  split
  · split
    · exact fw_length _ _ _ _
    · simp
  · simp
theorem inB_of {a b c : Int} (h : inB a b c = true) : b ≤ a ∧ a ≤ c := Classical.byContradiction fun hn => by rw [inB_false hn] at h; cases h
theorem acc_head {ms : List Mp} {f : Int} {ls : List Int} (h : accB ms f ls = true) : ∃ m0, ms[0]? = some m0 ∧ IsMp m0 ∧ m0.p = (ms.headD Mp.z).p ∧ 0 < ms.length := by
  have h1 : sameB ms = true := by unfold accB at h; simp only [Bool.and_eq_true] at h; exact h.1
  obtain ⟨m0, e0, e1, e2, _, e4, _⟩ := same_facts h1
  exact ⟨m0, e0, e1, by rw [e4], e2⟩
/-- the first words that are handed back -/
def WPost (r : List Int × Int) (w : World) (e : Ending) (w' : World) : Prop := ∃ v, e = .returned (.tuple #[v, .int .i64 r.2]) ∧ OwnInts w' w.heap.size v r.1 ∧ Below w.heap.size w w'
theorem WPost.nil {w w' : World} {k : Int} (hb : Below w.heap.size w w') : WPost ([], k) w (.returned (.tuple #[.slice none 0 0, .int .i64 k])) w' := ⟨_, rfl, OwnInts.nil _ _, hb⟩
set_option maxHeartbeats 2000000 in
set_option maxRecDepth 100000 in
theorem implFirstApart_c {A A' : Option Addr} {c c' : Nat} {ms : List Mp} {f : Int} {ls : List Int} {p q : Int} {w : World} (h : SeeMaps w A ms) (hn : ms.length ≤ 2097152) (hA : NilOk A c) (h' : SeeInts w A' ls) (hn' : ls.length ≤ 2097152) :
    Calls Try.prog 38 #[.agg #[.slice A ms.length c, .int .i64 f, .slice A' ls.length c'], .int .i64 p, .int .i64 q] w (WPost (RFirstApart ms f ls p q) w) := by
  have k0 : Below w.heap.size w (w.alloc (Obj.cells #[Value.slice A ms.length c, .int .i64 f, Value.slice A' ls.length c'] 30)) := by go_grown
  have at0 : AccAt (w.alloc (Obj.cells #[Value.slice A ms.length c, .int .i64 f, Value.slice A' ls.length c'] 30)) w.heap.size A A' c c' ms f ls := AccAt.new h h' _
  cases hacc : accB ms f ls
  · have e1 : RFirstApart ms f ls p q = ([], 1) := by simp [RFirstApart, hacc]
    rw [e1]
    clear e1
    go_enter Try.func38, Try.ntmps38
    go_wp2_with (go_at_call 18; go_must (refine (valB (IsAcceptor_c _ _ _ _ ms f ls _ at0.sm hn hA at0.sl hn') hacc).mono ?_); rintro e w2 ⟨rfl, hb2⟩)
    go_returns
    exact WPost.nil (btrans k0 hb2)
  · obtain ⟨m0, h0, hm0, hp0, hl0⟩ := acc_head hacc
    have HR := Lib.hid (RightA.of hacc)
    have H0 := Lib.hid h0
    have HP0 := Lib.hid hp0
    clear h0 hp0
    cases hp : inB p 0 (m0.p - 1)
    · have e1 : RFirstApart ms f ls p q = ([], 2) := by unfold RFirstApart; rw [if_pos hacc, ← HP0.out, if_neg (fun H => by rw [hp] at H; cases H.1)]
      rw [e1]
      clear e1
      go_enter Try.func38, Try.ntmps38
      go_wp2_with (first | (go_at_call 18; go_must (refine (valB (IsAcceptor_c _ _ _ _ ms f ls _ at0.sm hn hA at0.sl hn') hacc).mono ?_); rintro e w2 ⟨rfl, hb2⟩; have at2 := at0.below hb2; have q0 := at2.c0) | (go_at_call 61; go_must (refine (valB (isPoint_c A c ms m0 p _ at2.sm H0.out hm0) hp).mono ?_); rintro e w3 ⟨rfl, hb3⟩))
      go_returns
      exact WPost.nil (btrans (btrans k0 hb2) hb3)
    · cases hq : inB q 0 (m0.p - 1)
      · have e1 : RFirstApart ms f ls p q = ([], 2) := by unfold RFirstApart; rw [if_pos hacc, ← HP0.out, if_neg (fun H => by rw [hq] at H; cases H.2)]
        rw [e1]
        clear e1
        go_enter Try.func38, Try.ntmps38
        go_wp2_with fail
        refine (valB (IsAcceptor_c _ _ _ _ ms f ls _ at0.sm hn hA at0.sl hn') hacc).mono ?_
        rintro e w2 ⟨rfl, hb2⟩
        have at2 := at0.below hb2
        have q0 := at2.c0
        go_wp2_with fail
        refine (valB (isPoint_c A c ms m0 p _ at2.sm H0.out hm0) hp).mono ?_
        rintro e w3 ⟨rfl, hb3⟩
        have at3 := at2.below hb3
        have q03 := at3.c0
        go_wp2_with fail
        refine (valB (isPoint_c A c ms m0 q _ at3.sm H0.out hm0) hq).mono ?_
        rintro e w4 ⟨rfl, hb4⟩
        go_wp2
        go_returns
        exact WPost.nil (btrans (btrans (btrans k0 hb2) hb3) hb4)
      · have e1 : RFirstApart ms f ls p q = fw (stP ms ms) ms.length (p, q) (isP ls ls) := by unfold RFirstApart; rw [if_pos hacc, ← HP0.out, if_pos ⟨hp, hq⟩]
        rw [e1]
        clear e1
        have i1 := inB_of hp
        have i2 := inB_of hq
        have i3 := HP0.out
        have hap := fun W hW => apart_c w.heap.size A A' c c' ms f ls (ms.headD Mp.z).p p q W hW HR.out.list hn' (by omega) (by omega) (by omega) (by omega)
        generalize fw (stP ms ms) ms.length (p, q) (isP ls ls) = r at hap ⊢
        have HAP := Lib.hid hap
        clear hap i1 i2 i3
        go_enter Try.func38, Try.ntmps38
        go_wp2_with fail
        refine (valB (IsAcceptor_c _ _ _ _ ms f ls _ at0.sm hn hA at0.sl hn') hacc).mono ?_
        rintro e w2 ⟨rfl, hb2⟩
        have at2 := at0.below hb2
        have q0 := at2.c0
        go_wp2_with fail
        refine (valB (isPoint_c A c ms m0 p _ at2.sm H0.out hm0) hp).mono ?_
        rintro e w3 ⟨rfl, hb3⟩
        have at3 := at2.below hb3
        have q03 := at3.c0
        go_wp2_with fail
        refine (valB (isPoint_c A c ms m0 q _ at3.sm H0.out hm0) hq).mono ?_
        rintro e w4 ⟨rfl, hb4⟩
        have at4 := at3.below hb4
        have hb5 := btrans (btrans (btrans k0 hb2) hb3) hb4
        go_wp2_with fail
        refine (HAP.out _ at4).mono ?_
        rintro e w5 ⟨v, rfl, hown, hb6⟩
        obtain ⟨A1, c1, rfl, _⟩ := hown.see
        go_wp2
        go_returns
        exact ⟨_, rfl, hown.mono hb5.size, btrans hb5 hb6⟩
set_option maxHeartbeats 2000000 in
set_option maxRecDepth 100000 in
theorem specFirstApart_c {A A' : Option Addr} {c c' : Nat} {ms : List Mp} {f : Int} {ls : List Int} {p q : Int} {w : World} (h : SeeMaps w A ms) (hn : ms.length ≤ 2097152) (h' : SeeInts w A' ls) (hn' : ls.length ≤ 2097152) :
    Calls Try.prog 37 #[.agg #[.slice A ms.length c, .int .i64 f, .slice A' ls.length c'], .int .i64 p, .int .i64 q] w (WPost (RFirstApart ms f ls p q) w) := by
  have k0 : Below w.heap.size w (w.alloc (Obj.cells #[Value.slice A ms.length c, .int .i64 f, Value.slice A' ls.length c'] 30)) := by go_grown
  have at0 : AccAt (w.alloc (Obj.cells #[Value.slice A ms.length c, .int .i64 f, Value.slice A' ls.length c'] 30)) w.heap.size A A' c c' ms f ls := AccAt.new h h' _
  have c0 := at0.c0
  have c1 := at0.c1
  have c2 := at0.c2
  cases hacc : accB ms f ls
  · have e1 : RFirstApart ms f ls p q = ([], 1) := by simp [RFirstApart, hacc]
    rw [e1]
    clear e1
    go_enter Try.func37, Try.ntmps37
    go_wp2_with fail
    refine (valB (l07Is_c _ _ _ _ ms f ls _ at0.sm hn at0.sl hn') hacc).mono ?_
    rintro e w2 ⟨rfl, hb2⟩
    go_wp2
    go_returns
    exact WPost.nil (btrans k0 hb2)
  · obtain ⟨m0, h0, hm0, hp0, hl0⟩ := acc_head hacc
    have HR := Lib.hid (RightA.of hacc)
    obtain ⟨b, o, m, rfl, hm, g⟩ := at0.sm.at_ hl0
    rw [h0] at hm
    obtain rfl := Option.some.inj hm
    have g0 := g.h0
    rw [Nat.zero_mul, Nat.add_zero] at g0
    have HP0 := Lib.hid hp0
    have b1 := hm0.1
    have b2 := hm0.2.1
    clear h0 hp0 hm g
    cases hp : inB p 0 (m0.p - 1)
    · have e1 : RFirstApart ms f ls p q = ([], 2) := by unfold RFirstApart; rw [if_pos hacc, ← HP0.out, if_neg (fun H => by rw [hp] at H; cases H.1)]
      rw [e1]
      clear e1
      go_enter Try.func37, Try.ntmps37
      go_wp2_with fail
      refine (valB (l07Is_c _ _ _ _ ms f ls _ at0.sm hn at0.sl hn') hacc).mono ?_
      rintro e w2 ⟨rfl, hb2⟩
      have at2 := at0.below hb2
      have q0 := at2.c0
      have q3 := bcell hb2 g0
      go_wp2_with fail
      refine (valB (l01In_c _ _ _ _) hp).mono ?_
      rintro e w3 ⟨rfl, hb3⟩
      go_wp2
      go_returns
      exact WPost.nil (btrans (btrans k0 hb2) hb3)
    · cases hq : inB q 0 (m0.p - 1)
      · have e1 : RFirstApart ms f ls p q = ([], 2) := by unfold RFirstApart; rw [if_pos hacc, ← HP0.out, if_neg (fun H => by rw [hq] at H; cases H.2)]
        rw [e1]
        clear e1
        go_enter Try.func37, Try.ntmps37
        go_wp2_with fail
        refine (valB (l07Is_c _ _ _ _ ms f ls _ at0.sm hn at0.sl hn') hacc).mono ?_
        rintro e w2 ⟨rfl, hb2⟩
        have at2 := at0.below hb2
        have q0 := at2.c0
        have q3 := bcell hb2 g0
        go_wp2_with fail
        refine (valB (l01In_c _ _ _ _) hp).mono ?_
        rintro e w3 ⟨rfl, hb3⟩
        have at3 := at2.below hb3
        have q03 := at3.c0
        have q33 := bcell hb3 q3
        go_wp2_with fail
        refine (valB (l01In_c _ _ _ _) hq).mono ?_
        rintro e w4 ⟨rfl, hb4⟩
        go_wp2
        go_returns
        exact WPost.nil (btrans (btrans (btrans k0 hb2) hb3) hb4)
      · have e1 : RFirstApart ms f ls p q = fw (stP ms ms) ms.length (p, q) (isP ls ls) := by unfold RFirstApart; rw [if_pos hacc, ← HP0.out, if_pos ⟨hp, hq⟩]
        rw [e1]
        clear e1
        have i1 := inB_of hp
        have i2 := inB_of hq
        have i3 := HP0.out
        have hap := fun W (hW : AccAt W w.heap.size (some ⟨b, o, none⟩) A' c c' ms f ls) => l07Apart_c (some ⟨b, o, none⟩) A' (some ⟨b, o, none⟩) A' c c' c c' ms ms ls ls f f p q (ms.headD Mp.z).p (ms.headD Mp.z).p W hW.sm hW.sl hW.sm hW.sl HR.out.list HR.out.list rfl HR.out.pts HR.out.pts hn' hn' (by omega) (by omega) (by omega) (by omega)
        have hc := fw_cases (stP ms ms) ms.length (p, q) (isP ls ls)
        generalize fw (stP ms ms) ms.length (p, q) (isP ls ls) = r at hap hc ⊢
        have HAP := Lib.hid hap
        clear hap i1 i2 i3
        rcases hc with ⟨u, rfl⟩ | rfl
        all_goals
          go_enter Try.func37, Try.ntmps37
          go_wp2_with fail
          refine (valB (l07Is_c _ _ _ _ ms f ls _ at0.sm hn at0.sl hn') hacc).mono ?_
          rintro e w2 ⟨rfl, hb2⟩
          have at2 := at0.below hb2
          have q0 := at2.c0
          have q3 := bcell hb2 g0
          go_wp2_with fail
          refine (valB (l01In_c _ _ _ _) hp).mono ?_
          rintro e w3 ⟨rfl, hb3⟩
          have at3 := at2.below hb3
          have q03 := at3.c0
          have q33 := bcell hb3 q3
          go_wp2_with fail
          refine (valB (l01In_c _ _ _ _) hq).mono ?_
          rintro e w4 ⟨rfl, hb4⟩
          have at4 := at3.below hb4
          have c40 := at4.c0
          have c41 := at4.c1
          have c42 := at4.c2
          have hb5 := btrans (btrans (btrans k0 hb2) hb3) hb4
          go_wp2_with fail
          refine (HAP.out _ at4).mono ?_
          rintro e w5 ⟨v, rfl, hown, hb6⟩
          obtain ⟨A1, c1, rfl, _⟩ := hown.see
          go_wp2
          go_returns
          first
            | exact ⟨_, rfl, hown.mono hb5.size, btrans hb5 hb6⟩
            | exact WPost.nil (btrans hb5 hb6)
theorem implFirstApart_l {A A' : Option Addr} {c c' : Nat} {ms : List Mp} {f : Int} {ls : List Int} {p q : Int} {w : World} (h : SeeMaps w A ms) (hn : ms.length ≤ 2097152) (hA : NilOk A c) (h' : SeeInts w A' ls) (hn' : ls.length ≤ 2097152) (_ : NilOk A' c') :
    Calls Try.prog 38 #[.agg #[.slice A ms.length c, .int .i64 f, .slice A' ls.length c'], .int .i64 p, .int .i64 q] w fun e w' => ∃ v, e = .returned (.tuple #[v, .int .i64 (RFirstApart ms f ls p q).2]) ∧ OwnInts w' w.heap.size v (RFirstApart ms f ls p q).1 ∧ Below w.heap.size w w' := implFirstApart_c h hn hA h' hn'
theorem specFirstApart_l {A A' : Option Addr} {c c' : Nat} {ms : List Mp} {f : Int} {ls : List Int} {p q : Int} {w : World} (h : SeeMaps w A ms) (hn : ms.length ≤ 2097152) (_ : NilOk A c) (h' : SeeInts w A' ls) (hn' : ls.length ≤ 2097152) (_ : NilOk A' c') :
    Calls Try.prog 37 #[.agg #[.slice A ms.length c, .int .i64 f, .slice A' ls.length c'], .int .i64 p, .int .i64 q] w fun e w' => ∃ v, e = .returned (.tuple #[v, .int .i64 (RFirstApart ms f ls p q).2]) ∧ OwnInts w' w.heap.size v (RFirstApart ms f ls p q).1 ∧ Below w.heap.size w w' := specFirstApart_c h hn h' hn'
end Go.Proofs.Ytbodaefdaagelaa
