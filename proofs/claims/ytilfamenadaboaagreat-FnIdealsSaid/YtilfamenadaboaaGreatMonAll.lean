/- What is asked of a monoid as it lies: places, products, whether all, or some, elements are such, and which. No condition. -/
import Derived.Test.YtilfamenadaboaaGreatNewMon
import Derived.Test.YtilfamenadaboaaGreatFuncs
import Derived.Test.YtilfamenadaboaaGreatPushM
namespace Go.Proofs.YtilfamenadaboaaGreat
set_option linter.unusedSimpArgs false
set_option linter.unusedVariables false
set_option linter.unusedSectionVars false
open Go.RowKit
theorem plc_lt (l : List Mp) (f : Mp) : -1 ≤ plc l f ∧ plc l f < l.length ∨ plc l f = -1 := by
  unfold plc
  split
  · rename_i h
    have := (List.getElem?_eq_some_iff.1 h).1
    exact .inl ⟨by omega, by omega⟩
  · exact .inr rfl
theorem plc_wrap {l : List Mp} (hl : l.length ≤ 300) (f : Mp) : wrap64 (plc l f) = plc l f ∧ IntKind.i64.wrap (plc l f) = plc l f := by
  have := plc_lt l f
  constructor
  · unfold wrap64; omega
  · rw [IntKind.wrap_i64]; omega
set_option maxHeartbeats 1000000 in
theorem place_c (M : Nat) (l : List Mp) (n : Int) (f : Mp) (w : World) (h : MonAt w M l n) (hl : l.length ≤ 300) (hf : MpN f n) :
    Calls Tryz.prog 85 #[.pointer (some ⟨M, 0, none⟩), .agg #[.int .i64 f.p, .int .i64 f.a, .int .i64 f.b, .int .i64 f.c, .int .i64 f.d, .int .i64 f.e]] w fun e w' => e = .returned (.int .i64 (plc l f)) ∧ Below w.heap.size w w' := by
  obtain ⟨A, c, v1, pl, box, _, hpl⟩ := h
  have bt := MpBox.new (w := w) f 27 rfl
  have kk := kbelow w (.cells #[.int .i64 f.p, .int .i64 f.a, .int .i64 f.b, .int .i64 f.c, .int .i64 f.d, .int .i64 f.e] 27)
  have hnum := hf.num_lt
  have num0 := hnum.1
  have num1 := hnum.2
  have cp := (box.below kk).cp (i := f.num.toNat) (by omega)
  rw [hpl f hf] at cp
  have CP := bwcell cp
  obtain ⟨y0, y1, y2, y3, y4, y5⟩ := bt.at.bw
  simp only [Nat.zero_add] at y0 y1 y2 y3 y4 y5
  have s1 := (plc_wrap hl f).1
  have s2 := (plc_wrap hl f).2
  clear hnum cp box bt hpl
  generalize plc l f = pv at *
  go_enter Tryz.func85, Tryz.ntmps85
  go_wp2
  refine wp_region_bw (by kernel_rfl) (by kernel_rfl) ?_
  repeat go_big_quiet_step ((go_at_call 111; exact Calls.bw _ (number_c f n _ hf)))
  refine wpQuiet_nil ?_
  rintro w2 ⟨⟨w2x, hb2⟩, rfl⟩
  go_wp2
  go_returns
  exact ⟨rfl, btrans kk hb2⟩
set_option maxHeartbeats 1000000 in
theorem product_c (M : Nat) (l : List Mp) (n : Int) (i k : Nat) (f g : Mp) (w : World) (h : MonAt w M l n) (hl : l.length ≤ 300) (hi : l[i]? = some f) (hk : l[k]? = some g) (hf : MpN f n) (hg : MpN g n) :
    Calls Tryz.prog 68 #[.pointer (some ⟨M, 0, none⟩), .int .i64 i, .int .i64 k] w fun e w' => e = .returned (.int .i64 (plc l (mulM f g))) ∧ Below w.heap.size w w' := by
  have H := h
  obtain ⟨A, c, v1, pl, box, see, hpl⟩ := h
  have li := (List.getElem?_eq_some_iff.1 hi).1
  have lk := (List.getElem?_eq_some_iff.1 hk).1
  obtain ⟨b, o, x, rfl, hx, gx⟩ := see.at_ li
  rw [hi] at hx
  obtain rfl := Option.some.inj hx
  obtain ⟨b', o', y, e', hy, gy⟩ := see.at_ lk
  rw [hk] at hy
  obtain rfl := Option.some.inj hy
  simp only [Option.some.injEq, Addr.mk.injEq, and_true] at e'
  obtain ⟨rfl, rfl⟩ := e'
  have C0 := bwcell box.c0
  obtain ⟨x0, x1, x2, x3, x4, x5⟩ := gx.bw
  obtain ⟨y0, y1, y2, y3, y4, y5⟩ := gy.bw
  have i0 : (0 : Int) ≤ i := by omega
  have i1 : (i : Int) < l.length := by omega
  have k0 : (0 : Int) ≤ k := by omega
  have k1 : (k : Int) < l.length := by omega
  have HM := Lib.hid H
  clear hi hk hx hy gx gy box see hpl li lk H
  go_enter Tryz.func68, Tryz.ntmps68
  go_wp2
  refine wp_region_bw (by kernel_rfl) (by kernel_rfl) ?_
  repeat go_big_quiet_step ((first | (go_at_call 92; exact Calls.bw _ (times_c f g n _ hf hg)) | (go_at_call 85; exact Calls.bw _ (place_c M l n (mulM f g) _ (HM.out.below (by first | exact Subtype.property _ | assumption)) hl (mulM_MpN hf hg)))))
  refine wpQuiet_nil ?_
  rintro w2 ⟨⟨w2x, hb2⟩, rfl⟩
  go_wp2
  go_returns
  exact ⟨rfl, hb2⟩
/-! Whether all, or some, elements of a monoid are such, and which are. -/
/-- what a predicate of elements tells: 'pre' ahead of the number, 'lb' behind it -/
def PredM (g : Nat) (pre lb : Array Value) (l : List Mp) (P : Mp → Bool) (w : World) : Prop :=
  ∀ (W : World) (i : Nat) (f : Mp), Below w.heap.size w W → l[i]? = some f → Calls Tryz.prog g (pre ++ #[.int .i64 (i : Int)] ++ lb) W fun e w' => e = .returned (.bool (P f)) ∧ Below W.heap.size W w'
theorem PredM.below {g : Nat} {pre lb : Array Value} {l : List Mp} {P : Mp → Bool} {w w1 : World} (h : PredM g pre lb l P w) (hb : Below w.heap.size w w1) : PredM g pre lb l P w1 := fun W i f hW hi => h W i f (btrans hb hW) hi
theorem MonAt.cellsOf {w : World} {M : Nat} {l : List Mp} {n : Int} (h : MonAt w M l n) : ∃ A c, w.cell? ⟨M, 0, none⟩ = some (.slice A l.length c) ∧ SeeMaps w A l := by
  obtain ⟨A, c, v1, pl, box, see, _⟩ := h
  exact ⟨A, c, box.c0, see⟩
set_option maxHeartbeats 1000000 in
theorem all_c (M : Nat) (l : List Mp) (n : Int) (g : Nat) (lb : Array Value) (P : Mp → Bool) (eg : Enters Tryz.prog g) (w : World) (h : MonAt w M l n) (hl : l.length ≤ 300) (hp : PredM g #[] lb l P w) :
    Calls Tryz.prog 50 #[.pointer (some ⟨M, 0, none⟩), .func (.func g) #[] lb] w fun e w' => e = .returned (.bool (l.all P)) ∧ Below w.heap.size w w' := by
  unfold Enters at eg
  obtain ⟨A, c, c0, see⟩ := h.cellsOf
  have HP := Lib.hid hp
  clear h hp
  go_enter Tryz.func50, Tryz.ntmps50
  go_wp2
  go_loopw [11] (fun i wr => ∃ k : Nat, k ≤ l.length ∧ i = .int .i64 k ∧ AllTo (fun f => P f = true) l k ∧ Below w.heap.size w wr) (fun i _ => l.length - (intOf i).toNat)
  case atStart => exact ⟨0, Nat.zero_le _, rfl, AllTo.zero _ _, Below.refl _ _⟩
  case round =>
    obtain ⟨k, hk, rfl, hj, hb⟩ := hrel
    by_cases hlt : k < l.length
    · obtain ⟨f, hf⟩ := el hlt
      have l0 : (0 : Int) ≤ k := by omega
      have l1 : (k : Int) < l.length := by omega
      have hcall := HP.out wr k f hb hf
      have HJ := Lib.hid hj
      have HX := Lib.hid hf
      clear hj hf see
      cases e : P f
      · rw [e] at hcall
        have HE := Lib.hid e
        clear e
        go_wp2_with (go_at_fn g; refine hcall.mono ?_; rintro e w' ⟨rfl, hb'⟩)
        go_returns
        refine ⟨ret_bool ?_, btrans hb hb'⟩
        symm
        rw [List.all_eq_false]
        exact ⟨f, List.mem_of_getElem? HX.out, by rw [HE.out]; simp⟩
      · rw [e] at hcall
        have HE := Lib.hid e
        clear e
        go_wp2_with (go_at_fn g; refine hcall.mono ?_; rintro e w' ⟨rfl, hb'⟩)
        go_roundw
        case rel => exact ⟨k + 1, by omega, by go_num, HJ.out.snoc HX.out HE.out, btrans hb hb'⟩
        case measure => simp [intOf]; omega
    · obtain rfl : k = l.length := by omega
      go_wp2
      go_returns
      exact ⟨ret_bool (List.all_eq_true.2 hj.all).symm, hb⟩
set_option maxHeartbeats 1000000 in
theorem only_c (M : Nat) (l : List Mp) (n : Int) (g : Nat) (lb : Array Value) (P : Mp → Bool) (eg : Enters Tryz.prog g) (w : World) (h : MonAt w M l n) (hl : l.length ≤ 300) (hp : PredM g #[] lb l P w) :
    Calls Tryz.prog 66 #[.pointer (some ⟨M, 0, none⟩), .func (.func g) #[] lb] w fun e w' => ∃ v, e = .returned v ∧ OwnMaps w' w.heap.size v (l.filter P) ∧ Below w.heap.size w w' := by
  unfold Enters at eg
  obtain ⟨A, c, c0, see⟩ := h.cellsOf
  have HP := Lib.hid hp
  clear h hp
  have own0 : OwnMaps w w.heap.size (.slice none 0 0) ((l.take 0).filter P) := ⟨[], World.ownsRow_nil _ _ _ _, ⟨rfl, fun k m hk => by simp at hk⟩⟩
  go_enter Tryz.func66, Tryz.ntmps66
  go_wp2
  go_loopw [13, 5] (fun i v wr => ∃ k : Nat, k ≤ l.length ∧ i = .int .i64 k ∧ OwnMaps wr w.heap.size v ((l.take k).filter P) ∧ Below w.heap.size w wr) (fun i _ _ => l.length - (intOf i).toNat)
  case atStart => exact ⟨0, Nat.zero_le _, rfl, own0, Below.refl _ _⟩
  case round =>
    clear own0
    obtain ⟨k, hk, rfl, own, hb⟩ := hrel
    by_cases hlt : k < l.length
    · obtain ⟨b, o, f, rfl, hf, gf⟩ := (see.below hb).at_ hlt
      have l0 : (0 : Int) ≤ k := by omega
      have l1 : (k : Int) < l.length := by omega
      obtain ⟨f0, f1, f2, f3, f4, f5⟩ := gf
      have kk := kbelow wr (.cells #[.int .i64 f.p, .int .i64 f.a, .int .i64 f.b, .int .i64 f.c, .int .i64 f.d, .int .i64 f.e] 27)
      have bt := MpBox.new (w := wr) f 27 rfl
      have hbk := btrans hb kk
      have hcall := HP.out _ k f hbk hf
      have own1 := own.below kk
      have hlen : ((l.take k).filter P).length ≤ 300 := by
        have := List.length_filter_le P (l.take k)
        rw [List.length_take] at this
        omega
      have hsn : ∀ x, (l.take (k + 1)).filter P = (l.take k).filter P ++ (if P f = true then [f] else x) ∨ P f = false := fun x => by
        cases e : P f
        · exact .inr rfl
        · refine .inl ?_
          rw [List.take_add_one, hf, List.filter_append]
          simp [e]
      have hsn2 : P f = false → (l.take (k + 1)).filter P = (l.take k).filter P := fun e => by
        rw [List.take_add_one, hf, List.filter_append]
        simp [e]
      have hsn1 : P f = true → (l.take (k + 1)).filter P = (l.take k).filter P ++ [f] := fun e => by
        rw [List.take_add_one, hf, List.filter_append]
        simp [e]
      have H1 := Lib.hid hsn1
      have H2 := Lib.hid hsn2
      clear hsn hsn1 hsn2 hf own see
      obtain ⟨xs, hxs⟩ : ∃ xs, xs = (l.take k).filter P := ⟨_, rfl⟩
      rw [← hxs] at own1 hlen H1 H2
      clear hxs
      obtain ⟨Ao, co, rfl, _⟩ := own1.see
      cases e : P f
      · rw [e] at hcall
        have HE := Lib.hid e
        clear e
        go_wp2_with (go_at_fn g; refine hcall.mono ?_; rintro e w' ⟨rfl, hb'⟩)
        go_roundw
        case rel => exact ⟨k + 1, by omega, by go_num, by rw [H2.out HE.out]; exact own1.below hb', btrans hbk hb'⟩
        case measure => simp [intOf]; omega
      · rw [e] at hcall
        have HE := Lib.hid e
        clear e
        go_wp2_with (first | (go_at_fn g; refine hcall.mono ?_; rintro e w2 ⟨rfl, hb2⟩; have bt2 := bt.below hb2; have own2 := own1.below hb2; have hb3 := btrans hbk hb2; obtain ⟨t0, t1, t2, t3, t4, t5⟩ := bt2.at.cells0) | (at_builtin; refine wpList_push_map _ rfl (.tmp 21) (.tmp 23) rfl w.heap.size _ xs rfl (own2.below (kbelow _ _)) _ f rfl (MpBox.new f 27 rfl) (by omega) (btrans hb3 (kbelow _ _)).size ?_; intro v3 w3 hown3 hg3 hv3))
        have hb4 : Below w.heap.size w w3 := Below.grown (btrans hb3 (kbelow _ _)) hg3 (btrans hb3 (kbelow _ _)).size (fun q hq => (own2.lt q hq).1)
        go_wp2
        go_roundw
        case rel => exact ⟨k + 1, by omega, by go_num, by rw [H1.out HE.out]; exact hown3, hb4⟩
        case measure => simp [intOf]; omega
    · obtain rfl : k = l.length := by omega
      rw [List.take_length] at own
      obtain ⟨Ao, co, rfl, _⟩ := own.see
      go_wp2
      go_returns
      exact ⟨_, rfl, own, hb⟩
set_option maxHeartbeats 1000000 in
theorem any_c (M : Nat) (l : List Mp) (n : Int) (g : Nat) (lb : Array Value) (P : Mp → Bool) (eg : Enters Tryz.prog g) (w : World) (h : MonAt w M l n) (hl : l.length ≤ 300) (hp : PredM g #[] lb l P w) :
    Calls Tryz.prog 86 #[.pointer (some ⟨M, 0, none⟩), .func (.func g) #[] lb] w fun e w' => e = .returned (.bool (l.any P)) ∧ Below w.heap.size w w' := by
  unfold Enters at eg
  obtain ⟨A, c, c0, see⟩ := h.cellsOf
  have kk := kbelow w (.cells #[.func (.func g) #[] lb] 54)
  have q0 : (w.alloc (.cells #[.func (.func g) #[] lb] 54)).cell? ⟨w.heap.size, 0, none⟩ = some (.func (.func g) #[] lb) := by simp [go_sem]
  have hpn : PredM 116 #[] #[.pointer (some ⟨w.heap.size, 0, none⟩)] l (fun f => !P f) (w.alloc (.cells #[.func (.func g) #[] lb] 54)) := fun W i f hW hi => by
    have q := bcell hW q0
    have hcall := hp W i f (btrans kk hW) hi
    show Calls Tryz.prog 116 #[.int .i64 (i : Int), .pointer (some ⟨w.heap.size, 0, none⟩)] W fun e w' => e = .returned (.bool (!P f)) ∧ Below W.heap.size W w'
    generalize P f = b at *
    clear hW hi hp q0 kk
    go_enter Tryz.func116, Tryz.ntmps116
    go_wp2_with (go_at_fn g; refine hcall.mono ?_; rintro e w' ⟨rfl, hb'⟩)
    go_returns
    exact ⟨rfl, hb'⟩
  have hall := all_c M l n 116 #[.pointer (some ⟨w.heap.size, 0, none⟩)] (fun f => !P f) (enters_of Tryz.func116 (by kernel_rfl) rfl) _ (h.below kk) hl hpn
  have e1 : l.any P = !l.all (fun f => !P f) := by rw [List.not_all_eq_any_not]; simp
  rw [e1]
  have HA := Lib.hid hall
  clear hpn hall e1 h hp see c0 q0
  generalize l.all (fun f => !P f) = b at *
  go_enter Tryz.func86, Tryz.ntmps86
  go_wp2_with fail
  refine HA.out.mono ?_
  rintro e w2 ⟨rfl, hb2⟩
  go_wp2
  go_returns
  exact ⟨rfl, btrans kk hb2⟩
set_option maxHeartbeats 1000000 in
theorem all_cB (M : Nat) (l : List Mp) (n : Int) (g : Nat) (pv : Value) (P : Mp → Bool) (eg : Enters Tryz.prog g) (w : World) (h : MonAt w M l n) (hl : l.length ≤ 300) (hp : PredM g #[pv] #[] l P w) :
    Calls Tryz.prog 50 #[.pointer (some ⟨M, 0, none⟩), .func (.func g) #[pv] #[]] w fun e w' => e = .returned (.bool (l.all P)) ∧ Below w.heap.size w w' := by
  unfold Enters at eg
  obtain ⟨A, c, c0, see⟩ := h.cellsOf
  have HP := Lib.hid hp
  clear h hp
  go_enter Tryz.func50, Tryz.ntmps50
  go_wp2
  go_loopw [11] (fun i wr => ∃ k : Nat, k ≤ l.length ∧ i = .int .i64 k ∧ AllTo (fun f => P f = true) l k ∧ Below w.heap.size w wr) (fun i _ => l.length - (intOf i).toNat)
  case atStart => exact ⟨0, Nat.zero_le _, rfl, AllTo.zero _ _, Below.refl _ _⟩
  case round =>
    obtain ⟨k, hk, rfl, hj, hb⟩ := hrel
    by_cases hlt : k < l.length
    · obtain ⟨f, hf⟩ := el hlt
      have l0 : (0 : Int) ≤ k := by omega
      have l1 : (k : Int) < l.length := by omega
      have hcall := HP.out wr k f hb hf
      have HJ := Lib.hid hj
      have HX := Lib.hid hf
      clear hj hf see
      cases e : P f
      · rw [e] at hcall
        have HE := Lib.hid e
        clear e
        go_wp2_with (go_at_fn g; refine hcall.mono ?_; rintro e w' ⟨rfl, hb'⟩)
        go_returns
        refine ⟨ret_bool ?_, btrans hb hb'⟩
        symm
        rw [List.all_eq_false]
        exact ⟨f, List.mem_of_getElem? HX.out, by rw [HE.out]; simp⟩
      · rw [e] at hcall
        have HE := Lib.hid e
        clear e
        go_wp2_with (go_at_fn g; refine hcall.mono ?_; rintro e w' ⟨rfl, hb'⟩)
        go_roundw
        case rel => exact ⟨k + 1, by omega, by go_num, HJ.out.snoc HX.out HE.out, btrans hb hb'⟩
        case measure => simp [intOf]; omega
    · obtain rfl : k = l.length := by omega
      go_wp2
      go_returns
      exact ⟨ret_bool (List.all_eq_true.2 hj.all).symm, hb⟩
end Go.Proofs.YtilfamenadaboaaGreat
