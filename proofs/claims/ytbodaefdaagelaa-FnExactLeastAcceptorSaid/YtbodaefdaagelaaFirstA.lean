/- 'apart', 'FirstApart', 'FirstAccepted', on both sides. No condition. -/
import Derived.Test.YtbodaefdaagelaaApart
namespace Go.Proofs.Ytbodaefdaagelaa
set_option linter.unusedSimpArgs false
set_option linter.unusedVariables false
set_option linter.unusedSectionVars false
open Go.RowKit
def isLB (ls : List Int) (p : List Int) : Bool := decide (p.headD 0 ∈ ls)
def isLP (ls : List Int) (p : List Int) : Bool := decide (p.headD 0 ∈ ls) != decide (p.getD 1 0 ∈ ls)
theorem ptsAll_l {n : Int} (h : 0 ≤ n) {l : Nat} : ∀ p ∈ ptsAll n.toNat l, PtsL l n p := fun p hp => by have := ptsAll_mem.1 hp; rwa [Int.toNat_of_nonneg h] at this
/-- an acceptor's variable in memory -/
structure AccAt (w : World) (b : Nat) (A A' : Option Addr) (c c' : Nat) (ms : List Mp) (f : Int) (ls : List Int) : Prop where
  c0 : w.cell? ⟨b, 0, none⟩ = some (.slice A ms.length c)
  c1 : w.cell? ⟨b, 1, none⟩ = some (.int .i64 f)
  c2 : w.cell? ⟨b, 2, none⟩ = some (.slice A' ls.length c')
  sm : SeeMaps w A ms
  sl : SeeInts w A' ls
section
variable {w w' : World} {b : Nat} {A A' : Option Addr} {c c' : Nat} {ms : List Mp} {f : Int} {ls : List Int}
theorem AccAt.below (h : AccAt w b A A' c c' ms f ls) (hb : Below w.heap.size w w') : AccAt w' b A A' c c' ms f ls := ⟨bcell hb h.c0, bcell hb h.c1, bcell hb h.c2, h.sm.below hb, h.sl.below hb⟩
theorem AccAt.lt (h : AccAt w b A A' c c' ms f ls) : b < w.heap.size := World.block_lt_of_cell? w ⟨b, 0, none⟩ h.c0
theorem AccAt.new (h : SeeMaps w A ms) (h' : SeeInts w A' ls) (t : TypeId) : AccAt (w.alloc (.cells #[.slice A ms.length c, .int .i64 f, .slice A' ls.length c'] t)) w.heap.size A A' c c' ms f ls :=
  ⟨by simp [go_sem], by simp [go_sem], by simp [go_sem], h.below (kbelow _ _), h'.below (kbelow _ _)⟩
end
set_option maxHeartbeats 400000 in
set_option maxRecDepth 100000 in
theorem FirstAccepted1_ok (b : Nat) (A A' : Option Addr) (c c' : Nat) (ms : List Mp) (f : Int) (ls : List Int) (n : Int) (w : World) (h : AccAt w b A A' c c' ms f ls) (hl : ls.length ≤ 2097152) (hn : 0 ≤ n) :
    IsOk 79 #[.pointer (some ⟨b, 0, none⟩)] (isLB ls) (ptsAll n.toNat 1) w := fun W D d p hp hs hb => by
  have hpl := (ptsAll_l hn p hp).1
  obtain ⟨b1, o1, x, rfl, hx, q⟩ := hs.at_ (k := 0) (by omega)
  have e : p.headD 0 = x := by cases p with | nil => simp at hx | cons y t => simp at hx; simp [hx]
  have pos : 0 < p.length := by omega
  have pos' : (0 : Int) < p.length := by omega
  rw [Nat.add_zero] at q
  have h2 := h.below hb
  have E := Lib.hid e
  clear e hx hs hp
  unfold isLB
  rw [E.out]
  show Calls Try.prog 79 #[.slice (some ⟨b1, o1, none⟩) p.length d, .pointer (some ⟨b, 0, none⟩)] W _
  have HPL := Lib.hid hpl
  clear hpl
  go_enter Try.func79, Try.ntmps79
  go_wp2_with fail
  refine (isLast_c b A' c' ls x _ h2.c2 h2.sl hl).mono ?_
  rintro e w2 ⟨rfl, hb2⟩
  go_wp2
  go_returns
  exact ⟨rfl, hb2⟩
set_option maxHeartbeats 400000 in
set_option maxRecDepth 100000 in
theorem apart1_ok (b b3 : Nat) (A A' : Option Addr) (c c' : Nat) (ms : List Mp) (f : Int) (ls : List Int) (n : Int) (w : World) (h : AccAt w b A A' c c' ms f ls) (h3 : VBox w b3 (.pointer (some ⟨b, 0, none⟩))) (hl : ls.length ≤ 2097152) (hn : 0 ≤ n) :
    IsOk 117 #[.pointer (some ⟨b3, 0, none⟩)] (isLP ls) (ptsAll n.toNat 2) w := fun W D d p hp hs hb => by
  have hpl := (ptsAll_l hn p hp).1
  obtain ⟨b1, o1, x, rfl, hx, q⟩ := hs.at_ (k := 0) (by omega)
  obtain ⟨b1', o1', y, e2, hy, q'⟩ := hs.at_ (k := 1) (by omega)
  simp only [Option.some.injEq, Addr.mk.injEq, and_true] at e2
  obtain ⟨rfl, rfl⟩ := e2
  have e : p.headD 0 = x := by cases p with | nil => simp at hx | cons y t => simp at hx; simp [hx]
  have e' : p.getD 1 0 = y := by rw [List.getD_eq_getElem?_getD, hy]; rfl
  rw [Nat.add_zero] at q
  have h2 := h.below hb
  have h32 := h3.below hb
  unfold isLP
  rw [e, e']
  obtain ⟨r, hr⟩ : ∃ r, r = (decide (x ∈ ls) != decide (y ∈ ls)) := ⟨_, rfl⟩
  rw [← hr]
  have HR := Lib.hid hr
  clear e e' hx hy hs hp hr
  show Calls Try.prog 117 #[.slice (some ⟨b1, o1, none⟩) p.length d, .pointer (some ⟨b3, 0, none⟩)] W _
  rw [hpl]
  clear hpl
  have Q := bwcell q
  have Q' := bwcell q'
  have C2 := bwcell h2.c2
  have SL := h2.sl.bw
  have C3 := bwcell h32.cell
  clear q q' h h3 hb
  go_enter Try.func117, Try.ntmps117
  go_wp2
  refine wp_region_bw (by kernel_rfl) (by kernel_rfl) ?_
  repeat go_big_quiet_step (((go_at_call 67; exact Calls.bw _ (isLast_c b A' c' ls _ _ (C2 _) (SL _) hl))))
  refine wpQuiet_nil ?_
  rintro w4 ⟨⟨w4x, hb4⟩, rfl⟩
  go_wp2
  go_returns
  exact ⟨by rw [HR.out]; rfl, hb4⟩
theorem pt2 {n p q : Int} (h0 : 0 ≤ p) (h1 : p < n) (g0 : 0 ≤ q) (g1 : q < n) : PtsL 2 n [p, q] := ⟨rfl, fun x hx => by
  rcases List.mem_cons.1 hx with rfl | hx
  · exact ⟨h0, h1⟩
  · rw [List.mem_singleton.1 hx]; exact ⟨g0, g1⟩⟩
theorem univ2 {ms : List Mp} {n p q : Int} (hr : RightL ms n) (h0 : 0 ≤ p) (h1 : p < n) (g0 : 0 ≤ q) (g1 : q < n) : Univ (stp leadB ms) ms.length [p, q] (ptsAll n.toNat 2) := lead_univ hr (by omega) (pt2 h0 h1 g0 g1)
theorem lead_pair (ms : List Mp) : ∀ (u : List Int) (p q : Int), run (stp leadB ms) [p, q] u = [(run (stP ms ms) (p, q) u).1, (run (stP ms ms) (p, q) u).2]
  | [], p, q => rfl
  | k :: u, p, q => lead_pair ms u _ _
theorem fw_pair {ms : List Mp} {n p q : Int} (hr : RightL ms n) (ls : List Int) (h0 : 0 ≤ p) (h1 : p < n) (g0 : 0 ≤ q) (g1 : q < n) : fw (stp leadB ms) ms.length [p, q] (isLP ls) = fw (stP ms ms) ms.length (p, q) (isP ls ls) :=
  fw_eq (univ2 hr h0 h1 g0 g1) (univP hr hr rfl h0 h1 g0 g1) hr.six fun u _ => by rw [lead_pair]; rfl
set_option maxHeartbeats 400000 in
set_option maxRecDepth 100000 in
theorem apart_c (b : Nat) (A A' : Option Addr) (c c' : Nat) (ms : List Mp) (f : Int) (ls : List Int) (n p q : Int) (w : World) (h : AccAt w b A A' c c' ms f ls) (hr : RightL ms n) (hl : ls.length ≤ 2097152) (h0 : 0 ≤ p) (h1 : p < n) (g0 : 0 ≤ q) (g1 : q < n) :
    Calls Try.prog 80 #[.pointer (some ⟨b, 0, none⟩), .int .i64 p, .int .i64 q] w (FWpost (fw (stP ms ms) ms.length (p, q) (isP ls ls)) w) := by
  have nn : 0 ≤ n := by omega
  have hU := univ2 hr h0 h1 g0 g1
  obtain ⟨r, hre⟩ : ∃ r, r = fw (stP ms ms) ms.length (p, q) (isP ls ls) := ⟨_, rfl⟩
  have hr2 : fw (stp leadB ms) ms.length [p, q] (isLP ls) = r := (fw_pair hr ls h0 h1 g0 g1).trans hre.symm
  rw [← hre]
  have hF : ∀ (W : World) (B : Nat) (F : Option Addr) (fc : Nat), Below w.heap.size w W → VBox W B (.pointer (some ⟨b, 0, none⟩)) → SeeInts W F [p, q] → InS (fun k => k < W.heap.size) F →
      Calls Try.prog 77 #[.slice A ms.length c, .slice F 2 fc, .func (.func 78) #[] #[], .func (.func 117) #[] #[.pointer (some ⟨B, 0, none⟩)]] W (FWpost r W) := fun W B F fc hb h3 hs hi => by
    rw [← hr2]
    exact firstWord_c (A := A) (F := F) (c := c) (fc := fc) (ms := ms) (start := [p, q]) (gB := 78) (gI := 117) (lbB := #[]) (lbI := #[.pointer (some ⟨B, 0, none⟩)]) (U := ptsAll n.toNat 2) (by_ := leadB) (is := isLP ls) W (h.sm.below hb) ((h.sm.below hb).inS hr.ne) hr.six hs hi hU (fun p hp => by have := (ptsAll_l nn p hp).1; omega) leadEnters (enters_of Try.func117 (by kernel_rfl) rfl) (lead_by 2 n ms _ hr.all (ptsAll_l nn) (by omega)) (apart1_ok b B A A' c c' ms f ls n W (h.below hb) h3 hl nn)
  have HF := Lib.hid hF
  have c0 := h.c0
  have hlt := h.lt
  clear hF hU hr hre hr2
  go_enter Try.func80, Try.ntmps80
  go_wp2_with fail
  have k0 : Below w.heap.size w ((w.alloc (Obj.cells #[Value.pointer (some ⟨b, 0, none⟩)] 107)).alloc (Obj.cells #[Value.int .i64 p, .int .i64 q] 2)) := by go_grown
  have hs := (OwnInts.two (w.alloc (Obj.cells #[Value.pointer (some ⟨b, 0, none⟩)] 107)) 0 (Nat.zero_le _) p q).see'
  have e1 : (w.alloc (Obj.cells #[Value.pointer (some ⟨b, 0, none⟩)] 107)).heap.size = w.heap.size + 1 := by simp
  rw [e1] at hs
  refine (HF.out _ w.heap.size _ _ k0 ((VBox.new _ _ rfl).keep _) hs (fun a ha => by obtain rfl := Option.some.inj ha; simp)).mono ?_
  rintro e w2 ⟨v, rfl, hown, hb2⟩
  obtain ⟨A1, c1, rfl, _⟩ := hown.see
  go_wp2
  go_returns
  exact ⟨_, rfl, hown.mono k0.size, btrans k0 hb2⟩
end Go.Proofs.Ytbodaefdaagelaa
