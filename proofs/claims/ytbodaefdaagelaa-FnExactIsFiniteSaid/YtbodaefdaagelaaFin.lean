/- 'IsFinite', on both sides. No condition. -/
import Derived.Test.YtbodaefdaagelaaFinP
import Derived.Test.YtbodaefdaagelaaDelL
import Derived.Test.YtbodaefdaagelaaCountS
namespace Go.Proofs.Ytbodaefdaagelaa
set_option linter.unusedSimpArgs false
set_option linter.unusedVariables false
set_option linter.unusedSectionVars false
open Go.RowKit
set_option maxHeartbeats 2000000 in
theorem IndexFuncM_c (g : Nat) (lb : Array Value) (p : Mp → Bool) (eg : Enters Try.prog g) (A : Option Addr) (c : Nat) (xs : List Mp) (w : World) (h : SeeMaps w A xs) (hn : xs.length ≤ 2097152) (hp : PredB g lb encM p xs w) :
    Calls Try.prog 118 #[.slice A xs.length c, .func (.func g) #[] lb] w fun e w' => e = .returned (.int .i64 (fidx p xs)) ∧ Below w.heap.size w w' := by
  unfold Enters at eg
  go_enter Try.func118, Try.ntmps118
  go_wp2
  go_loopw [8] (fun i wr => ∃ k : Nat, k ≤ xs.length ∧ i = .int .i64 k ∧ AllTo (fun x => p x = false) xs k ∧ Below w.heap.size w wr) (fun i _ => xs.length - (intOf i).toNat)
  case atStart => exact ⟨0, Nat.zero_le _, rfl, AllTo.zero _ _, Below.refl _ _⟩
  case round =>
    obtain ⟨k, hk, rfl, hj, hb⟩ := hrel
    by_cases hlt : k < xs.length
    · obtain ⟨b, o, x, rfl, hx, q⟩ := (h.below hb).at_ hlt
      obtain ⟨q0, q1, q2, q3, q4, q5⟩ := q
      have hl : (0 : Int) ≤ k := by omega
      have hl' : (k : Int) < xs.length := by omega
      have hcall := hp wr x (List.mem_of_getElem? hx) hb
      unfold encM at hcall
      have HJ := Lib.hid hj
      have HX := Lib.hid hx
      clear hj hx hp h
      cases e : p x
      · rw [e] at hcall
        have HE := Lib.hid e
        clear e
        go_wp2_with (go_at_fn g; refine hcall.mono ?_; rintro e w' ⟨rfl, hb'⟩)
        go_roundw
        case rel => exact ⟨k + 1, by omega, by go_num, HJ.out.snoc HX.out HE.out, btrans hb hb'⟩
        case measure => simp [intOf]; omega
      · rw [e] at hcall
        have HE := Lib.hid e
        clear e
        go_wp2_with (go_at_fn g; refine hcall.mono ?_; rintro e w' ⟨rfl, hb'⟩)
        go_returns
        exact ⟨ret_int (fidx_hit HX.out HE.out HJ.out).symm, btrans hb hb'⟩
    · obtain rfl : k = xs.length := by omega
      go_wp2
      go_returns
      exact ⟨ret_int (fidx_miss hj).symm, hb⟩
set_option maxHeartbeats 1000000 in
theorem ContainsFuncM_c (g : Nat) (lb : Array Value) (p : Mp → Bool) (eg : Enters Try.prog g) (A : Option Addr) (c : Nat) (xs : List Mp) (w : World) (h : SeeMaps w A xs) (hn : xs.length ≤ 2097152) (hp : PredB g lb encM p xs w) :
    Calls Try.prog 81 #[.slice A xs.length c, .func (.func g) #[] lb] w fun e w' => e = .returned (.bool (xs.any p)) ∧ Below w.heap.size w w' := by
  rw [← fidx_any]
  have hi := IndexFuncM_c g lb p eg A c xs w h hn hp
  generalize fidx p xs = r at *
  have HI := Lib.hid hi
  clear hi hp h
  go_enter Try.func81, Try.ntmps81
  go_wp2_with fail
  refine HI.out.mono ?_
  rintro e w2 ⟨rfl, hb2⟩
  go_wp2
  go_returns
  exact ⟨rfl, hb2⟩
theorem ContainsLast_c (B : Nat) (A A' : Option Addr) (c c' : Nat) (xs ls : List Int) (w : World) (h : SeeInts w A xs) (hn : xs.length ≤ 2097152) (hq : w.cell? ⟨B, 2, none⟩ = some (.slice A' ls.length c')) (h' : SeeInts w A' ls) (hn' : ls.length ≤ 2097152) :
    Calls Try.prog 84 #[.slice A xs.length c, .func (.func 67) #[.pointer (some ⟨B, 0, none⟩)] #[]] w fun e w' => e = .returned (.bool (xs.any fun x => decide (x ∈ ls))) ∧ Below w.heap.size w w' := by
  rw [← fidx_any]
  have hi := IndexLast_c B A A' c c' xs ls w h hn hq h' hn'
  generalize fidx (fun x => decide (x ∈ ls)) xs = r at *
  have HI := Lib.hid hi
  clear hi h h'
  go_enter Try.func84, Try.ntmps84
  go_wp2_with fail
  refine HI.out.mono ?_
  rintro e w2 ⟨rfl, rfl⟩
  go_wp2
  go_returns
  exact ⟨rfl, Below.refl _ _⟩
theorem maps_in {w : World} {A : Option Addr} {ms : List Mp} (h : SeeMaps w A ms) (hn : 0 < ms.length) : InS (fun k => k < w.heap.size) A := fun a ha => by
  obtain ⟨b, o, m, e, _, g⟩ := h.at_ hn
  rw [e] at ha
  obtain rfl := Option.some.inj ha
  exact World.block_lt_of_cell? w _ g.h0
theorem reachL_len {ms : List Mp} {n p : Int} (hr : RightL ms n) (h0 : 0 ≤ p) (h1 : p < n) : (reachL ms p).length ≤ 1000 := by
  rw [reach_eq hr h0 h1]
  unfold reachS
  rw [List.length_map]
  exact gF_length (univS hr h0 h1)
def cycB (ms : List Mp) (p : Int) (m : Mp) : Bool := decide (p ∈ reachL ms (m.at p))
set_option maxHeartbeats 4000000 in
set_option maxRecDepth 100000 in
theorem IsFinite1_p {B b5 c : Nat} {A : Option Addr} {ms : List Mp} {n p : Int} {w : World} (hr : RightL ms n) (p0 : 0 ≤ p) (p1 : p < n) (hA : SeeMaps w A ms) (hAl : InS (fun k => k < w.heap.size) A) (q : w.cell? ⟨B, 0, none⟩ = some (.slice A ms.length c)) (vb : VBox w b5 (.int .i64 p)) :
    PredB 82 #[.pointer (some ⟨B, 0, none⟩), .pointer (some ⟨b5, 0, none⟩)] encM (cycB ms p) ms w := fun W m hm hW => by
  have hb := hr.bounds
  have hmp := (hr.all m hm).at p0 p1
  have hlen := reachL_len hr hmp.1 hmp.2
  obtain ⟨W1, hW1⟩ : ∃ W1, W1 = W.alloc (Obj.cells #[.int .i64 m.p, .int .i64 m.a, .int .i64 m.b, .int .i64 m.c, .int .i64 m.d, .int .i64 m.e] 67) := ⟨_, rfl⟩
  have k1 : Below W.heap.size W W1 := by rw [hW1]; exact kbelow W _
  have q1 := bcell k1 (bcell hW q)
  have q5 := bcell k1 ((vb.below hW).cell)
  have gm := (MpAt.boxed W m 67).to' (i := p.toNat) (by omega)
  rw [← hW1] at gm
  have e : m.to p.toNat = m.at p := rfl
  rw [e] at gm
  have hre := reached_c (c := c) W1.drew (((hA.below hW).below k1).below (Below.drew (Below.refl _ _))) (hAl.mono fun k hk => by have := (btrans hW k1).size; show k < W1.heap.size; omega) hr hmp.1 hmp.2
  have p5 : p < 5 := by omega
  unfold cycB
  show Calls Try.prog 82 #[.agg #[.int .i64 m.p, .int .i64 m.a, .int .i64 m.b, .int .i64 m.c, .int .i64 m.d, .int .i64 m.e], .pointer (some ⟨B, 0, none⟩), .pointer (some ⟨b5, 0, none⟩)] W fun e w' => e = .returned (.bool (decide (p ∈ reachL ms (m.at p)))) ∧ Below W.heap.size W w'
  generalize m.at p = x at *
  generalize reachL ms x = L at *
  have HRE := Lib.hid hre
  clear hre vb q hA hAl hm hW e hmp
  go_enter Try.func82, Try.ntmps82
  go_wp2
  rw [← hW1]
  clear hW1
  refine wp_region_headS 8 (fun w' => w'.cell? ⟨B, 0, none⟩ = some (.slice A ms.length c) ∧ w'.cell? ⟨b5, 0, none⟩ = some (.int .i64 p) ∧ w'.cell? ⟨W.heap.size, 1 + p.toNat, none⟩ = some (.int .i64 x)) (by kernel_rfl) (by kernel_rfl) ⟨q1, q5, gm⟩ (fun hHeld => ?_)
  simp only [List.drop]
  refine headH_takeS (i := 0) (v := ?_) 5 rfl (by kernel_rfl) (by kernel_rfl) (fun _ _ _ h => h) (Or.inl ⟨by rfl, ?_⟩) hHeld ?_
  rotate_left
  · intro w hSw
    (try dsimp only at hSw)
    go_simp
    try with_reducible rfl
  try simp only [Act.put, List.setIfInBounds_toArray, List.set_cons_zero, List.set_cons_succ]
  refine headH_takeS (i := 1) (v := ?_) 6 rfl (by kernel_rfl) (by kernel_rfl) (fun _ _ _ h => h) (Or.inl ⟨by rfl, ?_⟩) hHeld ?_
  rotate_left
  · intro w hSw
    (try dsimp only at hSw)
    go_simp
    try with_reducible rfl
  try simp only [Act.put, List.setIfInBounds_toArray, List.set_cons_zero, List.set_cons_succ]
  refine headH_takeS (i := 2) (v := ?_) 7 rfl (by kernel_rfl) (by kernel_rfl) (fun _ _ _ h => h) (Or.inl ⟨by rfl, ?_⟩) hHeld ?_
  rotate_left
  · intro w hSw
    (try dsimp only at hSw)
    go_simp
    try with_reducible rfl
  try simp only [Act.put, List.setIfInBounds_toArray, List.set_cons_zero, List.set_cons_succ]
  refine headH_takeS (i := 3) (v := ?_) 8 rfl (by kernel_rfl) (by kernel_rfl) (fun _ _ _ h => h) (Or.inl ⟨by rfl, ?_⟩) hHeld ?_
  rotate_left
  · intro w hSw
    (try dsimp only at hSw)
    go_simp
    try with_reducible rfl
  try simp only [Act.put, List.setIfInBounds_toArray, List.set_cons_zero, List.set_cons_succ]
  refine headH_takeS (i := 4) (v := ?_) 9 rfl (by kernel_rfl) (by kernel_rfl) (fun _ _ _ h => h) (Or.inl ⟨by rfl, ?_⟩) hHeld ?_
  rotate_left
  · intro w hSw
    (try dsimp only at hSw)
    go_simp
    try with_reducible rfl
  try simp only [Act.put, List.setIfInBounds_toArray, List.set_cons_zero, List.set_cons_succ]
  refine headH_takeS (i := 5) (v := ?_) 10 rfl (by kernel_rfl) (by kernel_rfl) (fun _ _ _ h => h) (Or.inl ⟨by rfl, ?_⟩) hHeld ?_
  rotate_left
  · intro w hSw
    (try dsimp only at hSw)
    go_simp
    try with_reducible rfl
  try simp only [Act.put, List.setIfInBounds_toArray, List.set_cons_zero, List.set_cons_succ]
  refine headH_takeS (i := 7) (v := ?_) 12 rfl (by kernel_rfl) (by kernel_rfl) (fun _ _ _ h => h) (Or.inl ⟨by rfl, ?_⟩) hHeld ?_
  rotate_left
  · intro w hSw
    (try dsimp only at hSw)
    go_simp
    try with_reducible rfl
  try simp only [Act.put, List.setIfInBounds_toArray, List.set_cons_zero, List.set_cons_succ]
  refine headH_all (rs := [6]) (by kernel_rfl) (by kernel_rfl) (headH_cons rfl (fun K hK => ?_) headH_nil)
  go_simp
  refine HRE.out.mono ?_
  rintro e w2 ⟨v2, rfl, own2, hb2⟩
  obtain ⟨A2, c2, rfl, s2⟩ := own2.see
  refine hK.out _ _ ⟨bcell hb2 q1, bcell hb2 q5, bcell hb2 gm⟩ (fun hHeldn => ?_)
  clear hK K hHeld
  have hHeld := hHeldn
  clear hHeldn
  try simp only [Act.put, List.setIfInBounds_toArray, List.set_cons_zero, List.set_cons_succ]
  refine headH_tail (by kernel_rfl) ?_
  clear hHeld
  have HCI := Lib.hid (ContainsI_c A2 c2 L p w2 s2 (by omega))
  go_wp2_with fail
  refine HCI.out.mono ?_
  rintro e w3 ⟨rfl, hb3⟩
  go_wp2
  go_returns
  exact ⟨rfl, btrans k1 (btrans (bdr hb2) hb3)⟩
noncomputable def RIsFinite (ms : List Mp) (f : Int) (ls : List Int) : Bool × Int := if accB ms f ls = true then (finB ms f ls, 0) else (false, 1)
theorem RightL.head0 {ms : List Mp} {n : Int} (h : RightL ms n) : ∃ m, ms[0]? = some m ∧ m.p = n := by
  obtain ⟨m, hm⟩ := el h.pos
  exact ⟨m, hm, (h.all m (List.mem_of_getElem? hm)).2⟩
noncomputable def badP (ms : List Mp) (ls : List Int) (p : Int) : Bool := ms.any (cycB ms p) && (reachL ms p).any fun q => decide (q ∈ ls)
theorem fin_bad (ms : List Mp) (f : Int) (ls : List Int) : finB ms f ls = !(reachL ms f).any (badP ms ls) := rfl
set_option maxHeartbeats 4000000 in
set_option maxRecDepth 100000 in
theorem implIsFinite_l {A A' : Option Addr} {c c' : Nat} {ms : List Mp} {f : Int} {ls : List Int} {w : World} (h : SeeMaps w A ms) (hn : ms.length ≤ 2097152) (hA : NilOk A c) (h' : SeeInts w A' ls) (hn' : ls.length ≤ 2097152) (hA' : NilOk A' c') :
    Calls Try.prog 40 #[.agg #[.slice A ms.length c, .int .i64 f, .slice A' ls.length c']] w fun e w' => e = .returned (.tuple #[.bool (RIsFinite ms f ls).1, .int .i64 (RIsFinite ms f ls).2]) ∧ Below w.heap.size w w' := by
  obtain ⟨W1, hW1⟩ : ∃ W1, W1 = w.alloc (Obj.cells #[Value.slice A ms.length c, .int .i64 f, Value.slice A' ls.length c'] 30) := ⟨_, rfl⟩
  have k0 : Below w.heap.size w W1 := by rw [hW1]; exact kbelow w _
  have b0 : W1.cell? ⟨w.heap.size, 0, none⟩ = some (.slice A ms.length c) := by rw [hW1]; simp [go_sem]
  have b1 : W1.cell? ⟨w.heap.size, 1, none⟩ = some (.int .i64 f) := by rw [hW1]; simp [go_sem]
  have b2 : W1.cell? ⟨w.heap.size, 2, none⟩ = some (.slice A' ls.length c') := by rw [hW1]; simp [go_sem]
  have hacc := IsAcceptor_c A A' c c' ms f ls W1 (h.below k0) hn hA (h'.below k0) hn'
  obtain ⟨r, hr⟩ : ∃ r, r = RIsFinite ms f ls := ⟨_, rfl⟩
  rw [← hr]
  have HR := Lib.hid hr
  have KK := Lib.hid k0
  have HS := Lib.hid (h.below k0)
  have HS' := Lib.hid (h'.below k0)
  clear hr k0 h h' hA hA'
  cases hac : accB ms f ls
  · rw [hac] at hacc
    have HACC := Lib.hid hacc
    have E1 := Lib.hid (show r = (false, 1) by rw [HR.out]; unfold RIsFinite; rw [if_neg (by rw [hac]; decide)])
    clear hacc hac HR
    go_enter Try.func40, Try.ntmps40
    go_wp2_with fail
    rw [← hW1]
    clear hW1
    refine HACC.out.mono ?_
    rintro e w1 ⟨rfl, hb1⟩
    go_wp2
    go_returns
    rw [E1.out]
    exact ⟨rfl, btrans KK.out hb1⟩
  · rw [hac] at hacc
    have HACC := Lib.hid hacc
    have E1 := Lib.hid (show r = (!(reachL ms f).any (badP ms ls), 0) by rw [HR.out]; unfold RIsFinite; rw [if_pos hac, fin_bad])
    have ra := RightA.of hac
    have hlen := reachL_len ra.list ra.f0 ra.f1
    have RA := Lib.hid ra
    generalize (ms.headD Mp.z).p = n at *
    have hAl := maps_in HS.out ra.list.pos
    have RNG := Lib.hid (show ∀ p ∈ reachL ms f, 0 ≤ p ∧ p < n from fun p hp => by
      obtain ⟨k, hk⟩ := (mem_reach ra.list ra.f0 ra.f1).1 hp
      exact hk.rng ra.list ra.f0 ra.f1)
    have HL := Lib.hid hlen
    obtain ⟨order, ho⟩ : ∃ order, order = reachL ms f := ⟨_, rfl⟩
    have HRE := Lib.hid (fun W (hW : Below W1.heap.size W1 W) => reached_c (c := c) W (HS.out.below hW) (hAl.mono fun k hk => by have := hW.size; show k < W.heap.size; omega) ra.list ra.f0 ra.f1)
    have HAL := Lib.hid hAl
    rw [← ho] at E1 RNG HL HRE hlen
    clear hacc hac HR ra ho hAl hlen
    go_enter Try.func40, Try.ntmps40
    go_wp2_with fail
    rw [← hW1]
    clear hW1
    refine HACC.out.mono ?_
    rintro e w1 ⟨rfl, hb1⟩
    have c0 := bcell hb1 b0
    have c1 := bcell hb1 b1
    have HR1 := Lib.hid (HRE.out w1 hb1)
    go_wp2_with fail
    refine HR1.out.mono ?_
    rintro e w2 ⟨v2, rfl, own2, hb2⟩
    obtain ⟨A2, c2, rfl, s2⟩ := own2.see
    have hb12 := btrans hb1 hb2
    have S2 := Lib.hid s2
    have BB := Lib.hid hb12
    clear own2 s2 c0 c1
    go_wp2
    go_loopw [16] (fun iv wr => ∃ k : Nat, k ≤ order.length ∧ iv = .int .i64 k ∧ Hid (AllTo (fun p => badP ms ls p = false) order k) ∧ Below w2.heap.size w2 wr) (fun iv _ => order.length - (intOf iv).toNat)
    case atStart => exact ⟨0, Nat.zero_le _, rfl, Lib.hid (AllTo.zero _ _), Below.refl _ _⟩
    case round =>
      obtain ⟨k, hk, rfl, hall, hb⟩ := hrel
      have hol := HL.out
      have l0 : (0 : Int) ≤ k := by omega
      have hbW := btrans hb12 hb
      by_cases hlt : k < order.length
      · have l1 : (k : Int) < order.length := by omega
        obtain ⟨b, o, p, rfl, hp, qp⟩ := (S2.out.below hb).at_ hlt
        obtain ⟨p0, p1⟩ := RNG.out p (List.mem_of_getElem? hp)
        have kk := kbelow wr (.cells #[.int .i64 p] 2)
        have vb := VBox.new (w := wr) (.int .i64 p) 2 rfl
        have hbk := btrans hbW kk
        have hcf := ContainsFuncM_c 82 #[.pointer (some ⟨w.heap.size, 0, none⟩), .pointer (some ⟨wr.heap.size, 0, none⟩)] (cycB ms p) (enters_of Try.func82 (by kernel_rfl) rfl) A c ms _ (HS.out.below hbk) hn (IsFinite1_p RA.out.list p0 p1 (HS.out.below hbk) (HAL.out.mono fun k hk => by have := hbk.size; show k < _; omega) (bcell hbk b0) vb)
        have HCF := Lib.hid hcf
        have HP := Lib.hid hp
        have VB := Lib.hid vb
        have x0 := bcell hbk b0
        have hlp := reachL_len RA.out.list p0 p1
        have HRP := Lib.hid (fun W (hW : Below W1.heap.size W1 W) => reached_c (c := c) W (HS.out.below hW) (HAL.out.mono fun k hk => by have := hW.size; show k < W.heap.size; omega) RA.out.list p0 p1)
        have HBP := Lib.hid (show badP ms ls p = (ms.any (cycB ms p) && (reachL ms p).any fun q => decide (q ∈ ls)) from rfl)
        obtain ⟨bp, hbp⟩ : ∃ bp, bp = badP ms ls p := ⟨_, rfl⟩
        rw [← hbp] at HBP
        have HBB := Lib.hid hbp
        clear hcf hp vb hbp
        generalize reachL ms p = Lp at *
        generalize ms.any (cycB ms p) = back at *
        cases back
        · have HN := Lib.hid (show badP ms ls p = false by rw [← HBB.out, HBP.out]; rfl)
          go_wp2_with fail
          refine HCF.out.mono ?_
          rintro e w4 ⟨rfl, hb4⟩
          have q5 := (VB.out.below hb4).cell
          have x4 := bcell hb4 x0
          go_wp2
          go_roundw
          case rel => exact ⟨k + 1, by omega, by go_num, Lib.hid (hall.out.snoc HP.out HN.out), btrans hb (btrans kk hb4)⟩
          case measure => simp [intOf]; omega
        · go_wp2_with fail
          refine HCF.out.mono ?_
          rintro e w4 ⟨rfl, hb4⟩
          have q5 := (VB.out.below hb4).cell
          have x4 := bcell hb4 x0
          have hb14 := btrans hbk hb4
          have HR4 := Lib.hid (HRP.out w4 hb14)
          go_wp2_with fail
          refine HR4.out.mono ?_
          rintro e w5 ⟨v5, rfl, own5, hb5⟩
          obtain ⟨A5, c5, rfl, s5⟩ := own5.see
          have hb15 := btrans hb14 hb5
          have hcl := ContainsLast_c w.heap.size A5 A' c5 c' Lp ls w5 s5 (by omega) (bcell hb15 b2) (HS'.out.below hb15) hn'
          have HBQ := Lib.hid (show bp = Lp.any fun x => decide (x ∈ ls) by rw [HBP.out, Bool.true_and])
          generalize (Lp.any fun x => decide (x ∈ ls)) = lb at *
          have HCL := Lib.hid hcl
          clear hcl s5 own5
          cases lb
          · have HN := Lib.hid (show badP ms ls p = false by rw [← HBB.out, HBQ.out])
            go_wp2_with fail
            refine HCL.out.mono ?_
            rintro e w6 ⟨rfl, hb6⟩
            go_wp2
            go_roundw
            case rel => exact ⟨k + 1, by omega, by go_num, Lib.hid (hall.out.snoc HP.out HN.out), btrans hb (btrans kk (btrans hb4 (btrans hb5 hb6)))⟩
            case measure => simp [intOf]; omega
          · have E2 := Lib.hid (show r = (false, 0) by
              have hN : badP ms ls p = true := by rw [← HBB.out, HBQ.out]
              rw [E1.out, show order.any (badP ms ls) = true from List.any_eq_true.2 ⟨p, List.mem_of_getElem? HP.out, hN⟩]
              rfl)
            go_wp2_with fail
            refine HCL.out.mono ?_
            rintro e w6 ⟨rfl, hb6⟩
            go_wp2
            go_returns
            rw [E2.out]
            exact ⟨rfl, btrans KK.out (btrans hb15 hb6)⟩
      · have ek : k = order.length := by omega
        have E2 := Lib.hid (show r = (true, 0) by
          have hN : order.any (badP ms ls) = false := by
            rw [List.any_eq_false]
            intro p hp
            have h1 := hall.out
            rw [ek] at h1
            rw [h1.all p hp]
            decide
          rw [E1.out, hN]
          rfl)
        have nlt : ¬ (k : Int) < order.length := by omega
        clear ek hlt hk hall
        go_wp2
        go_returns
        rw [E2.out]
        exact ⟨rfl, btrans KK.out hbW⟩
set_option maxHeartbeats 4000000 in
set_option maxRecDepth 100000 in
theorem specIsFinite_l {A A' : Option Addr} {c c' : Nat} {ms : List Mp} {f : Int} {ls : List Int} {w : World} (h : SeeMaps w A ms) (hn : ms.length ≤ 2097152) (hA : NilOk A c) (h' : SeeInts w A' ls) (hn' : ls.length ≤ 2097152) (hA' : NilOk A' c') :
    Calls Try.prog 39 #[.agg #[.slice A ms.length c, .int .i64 f, .slice A' ls.length c']] w fun e w' => e = .returned (.tuple #[.bool (RIsFinite ms f ls).1, .int .i64 (RIsFinite ms f ls).2]) ∧ Below w.heap.size w w' := by
  obtain ⟨W1, hW1⟩ : ∃ W1, W1 = w.alloc (Obj.cells #[Value.slice A ms.length c, .int .i64 f, Value.slice A' ls.length c'] 30) := ⟨_, rfl⟩
  have k0 : Below w.heap.size w W1 := by rw [hW1]; exact kbelow w _
  have b0 : W1.cell? ⟨w.heap.size, 0, none⟩ = some (.slice A ms.length c) := by rw [hW1]; simp [go_sem]
  have b1 : W1.cell? ⟨w.heap.size, 1, none⟩ = some (.int .i64 f) := by rw [hW1]; simp [go_sem]
  have b2 : W1.cell? ⟨w.heap.size, 2, none⟩ = some (.slice A' ls.length c') := by rw [hW1]; simp [go_sem]
  have hacc := l07Is_c A A' c c' ms f ls W1 (h.below k0) hn (h'.below k0) hn'
  have HCT := Lib.hid (fun W (hW : Below W1.heap.size W1 W) k => specCountAccepted_l (c := c) (c' := c') (f := f) (k := k) ((h.below k0).below hW) hn hA ((h'.below k0).below hW) hn' hA')
  obtain ⟨r, hr⟩ : ∃ r, r = RIsFinite ms f ls := ⟨_, rfl⟩
  rw [← hr]
  have HR := Lib.hid hr
  have KK := Lib.hid k0
  have HS := Lib.hid (h.below k0)
  clear hr k0 h h' hA hA'
  cases hac : accB ms f ls
  · rw [hac] at hacc
    have HACC := Lib.hid hacc
    have E1 := Lib.hid (show r = (false, 1) by rw [HR.out]; unfold RIsFinite; rw [if_neg (by rw [hac]; decide)])
    clear hacc hac HR
    go_enter Try.func39, Try.ntmps39
    go_wp2_with fail
    rw [← hW1]
    clear hW1
    refine HACC.out.mono ?_
    rintro e w1 ⟨rfl, hb1⟩
    go_wp2
    go_returns
    rw [E1.out]
    exact ⟨rfl, btrans KK.out hb1⟩
  · rw [hac] at hacc
    have HACC := Lib.hid hacc
    have ra := RightA.of hac
    obtain ⟨n, hn0⟩ : ∃ n, n = (ms.headD Mp.z).p := ⟨_, rfl⟩
    rw [← hn0] at ra
    have hbd := ra.list.bounds
    have hfi := fin_iff ra
    obtain ⟨fb, hfb⟩ : ∃ fb, fb = finB ms f ls := ⟨_, rfl⟩
    rw [← hfb] at hfi
    have HFI := Lib.hid hfi
    have E1 := Lib.hid (show r = (fb, 0) by rw [HR.out, hfb]; unfold RIsFinite; rw [if_pos hac])
    have HC0 := Lib.hid (show RCountAccepted ms f ls (2 * n) = (countL ms f ls n (2 * n.toNat + 1), 0) by
      unfold RCountAccepted
      rw [if_pos hac, if_pos (by omega), ← hn0, show (2 * n).toNat + 1 = 2 * n.toNat + 1 by omega])
    obtain ⟨m0, hm0, hmp⟩ := ra.list.head0
    obtain ⟨bA, oA, m1, rfl, hm1, gm⟩ := HS.out.at_ ra.list.pos
    rw [hm0] at hm1
    obtain rfl := Option.some.inj hm1
    have pm : W1.cell? ⟨bA, oA, none⟩ = some (.int .i64 n) := by rw [← hmp]; simpa using gm.h0
    have hmm := ra.list.pos
    have lm : (0 : Int) < ms.length := by omega
    have HCN := Lib.hid (show ∀ k, k < 2 * n.toNat + 1 → (countL ms f ls n (2 * n.toNat + 1))[k]? = some (sumV (nowV ms f n k) ls) from fun k hk => by unfold countL; rw [List.getElem?_map, List.getElem?_range hk]; rfl)
    have HCLN := Lib.hid (countL_length ms f ls n (2 * n.toNat + 1))
    clear hacc hac HR hn0 hm0 hmp gm hm1 hfi hfb ra
    go_enter Try.func39, Try.ntmps39
    go_wp2_with fail
    rw [← hW1]
    clear hW1
    refine HACC.out.mono ?_
    rintro e w1 ⟨rfl, hb1⟩
    have c0 := bcell hb1 b0
    have c1 := bcell hb1 b1
    have c2 := bcell hb1 b2
    have pm1 := bcell hb1 pm
    have hct := HCT.out w1 hb1 (2 * n)
    rw [HC0.out] at hct
    have HCC := Lib.hid hct
    clear hct
    go_wp2_with fail
    refine HCC.out.mono ?_
    rintro e w2 ⟨v2, rfl, own2, hb2⟩
    obtain ⟨A2, c2', rfl, s2⟩ := own2.see
    have hb12 := btrans hb1 hb2
    have S2 := Lib.hid s2
    have hl2 := HCLN.out
    have HL2 := Lib.hid hl2
    generalize countL ms f ls n (2 * n.toNat + 1) = cs at *
    clear own2 s2 c0 c1 c2 pm1 hl2
    go_wp2
    go_loopw [7] (fun iv wr => ∃ k : Nat, n.toNat ≤ k ∧ k ≤ 2 * n.toNat ∧ iv = .int .i64 k ∧ Hid (∀ j, n.toNat ≤ j → j < k → ¬ 0 < sumV (nowV ms f n j) ls) ∧ Below w2.heap.size w2 wr) (fun iv _ => 20 - (intOf iv).toNat)
    case atStart => exact ⟨n.toNat, Nat.le_refl _, by omega, by go_num, Lib.hid (fun j h1 h2 => absurd h2 (by omega)), Below.refl _ _⟩
    case round =>
      obtain ⟨k, hk0, hk, rfl, hall, hb⟩ := hrel
      have l0 : (0 : Int) ≤ k := by omega
      have hbW := btrans hb12 hb
      by_cases hlt : k < 2 * n.toNat
      · have l1 : (k : Int) < 2 * n := by omega
        have l2 : (k : Int) < cs.length := by rw [HL2.out]; omega
        obtain ⟨b, o, x, rfl, hx, qx⟩ := (S2.out.below hb).at_ (k := k) (by rw [HL2.out]; omega)
        rw [HCN.out k (by omega)] at hx
        have HX := Lib.hid (Option.some.inj hx)
        clear hx
        by_cases e : 0 < x
        · have E2 := Lib.hid (show r = (false, 0) by rw [E1.out, HFI.out.2 ⟨k, hk0, hlt, by rw [HX.out]; exact e⟩])
          go_wp2
          go_returns
          rw [E2.out]
          exact ⟨rfl, btrans KK.out hbW⟩
        · have HN := Lib.hid (show ∀ j, n.toNat ≤ j → j < k + 1 → ¬ 0 < sumV (nowV ms f n j) ls from fun j h1 h2 => by
            rcases Nat.lt_or_ge j k with h3 | h3
            · exact hall.out j h1 h3
            · obtain rfl : j = k := by omega
              rw [HX.out]; exact e)
          go_wp2
          go_roundw
          case rel => exact ⟨k + 1, by omega, by omega, by go_num, HN, hb⟩
          case measure => simp [intOf]; omega
      · have ek : k = 2 * n.toNat := by omega
        have E2 := Lib.hid (show r = (true, 0) by
          rw [E1.out]
          cases fb
          · obtain ⟨j, h1, h2, h3⟩ := HFI.out.1 rfl
            exact absurd h3 (hall.out j h1 (by omega))
          · rfl)
        have nlt : ¬ (k : Int) < 2 * n := by omega
        clear ek hlt hk hall
        go_wp2
        go_returns
        rw [E2.out]
        exact ⟨rfl, btrans KK.out hbW⟩
end Go.Proofs.Ytbodaefdaagelaa
