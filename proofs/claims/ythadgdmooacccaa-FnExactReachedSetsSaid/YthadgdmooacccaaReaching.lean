/- 'FirstReaching', on both sides. No condition. -/
import Derived.Test.YthadgdmooacccaaReset
import Derived.Test.YthadgdmooacccaaGiven
import Derived.Test.YthadgdmooacccaaFuncs
namespace Go.Proofs.Ythadgdmooacccaa
set_option linter.unusedSimpArgs false
set_option linter.unusedVariables false
set_option linter.unusedSectionVars false
open Go.RowKit
theorem IsSet.al {xs : List Int} {n : Int} (h : IsSet xs n) : AL n xs := by
  refine ⟨List.pairwise_iff_getElem.2 fun i j hi hj hij => ?_, fun x hx => ?_⟩
  · have step : ∀ d i j (hi : i < xs.length) (hj : j < xs.length), j = i + d + 1 → xs[i] < xs[j] := fun d => by
      induction d with
      | zero =>
        intro i j hi hj e
        exact (h j xs[j] hj (List.getElem?_eq_getElem hj)).2 xs[i] (by omega) (by rw [show j - 1 = i by omega]; exact List.getElem?_eq_getElem hi)
      | succ d ih =>
        intro i j hi hj e
        have a := ih i (j - 1) hi (by omega) (by omega)
        have b := (h j xs[j] hj (List.getElem?_eq_getElem hj)).2 xs[j - 1] (by omega) (List.getElem?_eq_getElem (by omega))
        omega
    exact step (j - i - 1) i j hi hj (by omega)
  · obtain ⟨i, hi, rfl⟩ := List.mem_iff_getElem.1 hx
    have := (h i xs[i] hi (List.getElem?_eq_getElem hi)).1
    omega
theorem setB_al {xs : List Int} {n : Int} (h : isSetB xs n = true) : AL n xs := IsSet.al (by unfold isSetB at h; simpa using h)
def isThat (set : List Int) (ys : List Int) : Bool := decide (ys = set)
def thatP (T S : Nat) : Bool := decide (S = T)
theorem isThat_bits {n : Int} (hn : n ≤ 5) {set ys : List Int} (h : AL n set) (h' : AL n ys) : isThat set ys = thatP (bitsN set) (bitsN ys) := by
  unfold isThat thatP
  refine decide_eq_decide.2 ⟨fun e => by rw [e], fun e => ?_⟩
  rw [← h.pts hn, ← h'.pts hn, e]
def freach (ms : List Mp) (n : Int) (set : List Int) : List Int × Int := fw (stB ms) ms.length (2 ^ n.toNat - 1) (thatP (bitsN set))
open Classical in
noncomputable def RFirstReaching (ms : List Mp) (set : List Int) : List Int × Int := if lcode ms [] = 0 then (if isSetB set (ms.headD Mp.z).p = true then freach ms (ms.headD Mp.z).p set else ([], 2)) else ([], lcode ms [])
theorem RFirstReaching_len (ms : List Mp) (set : List Int) : (RFirstReaching ms set).1.length ≤ 1000 := by
  unfold RFirstReaching
  split
  · split
    · exact fw_length _ _ _ _
    · simp
  · simp
theorem reaching1_ok (n : Int) (b : Nat) (A' : Option Addr) (c' : Nat) (set : List Int) (w : World) (h0 : 0 ≤ n) (hn : n ≤ 5) (hv : VBox w b (.slice A' set.length c')) (h' : SeeInts w A' set) :
    IsOk 88 #[.pointer (some ⟨b, 0, none⟩)] (isThat set) (subs n) w := fun W D d p hp hs hb => by
  have c0 := (hv.below hb).cell
  have hl := ((subs_mem h0 hn).1 hp).short hn
  have hs' := h'.below hb
  unfold isThat
  show Calls Try.prog 88 #[.slice D p.length d, .pointer (some ⟨b, 0, none⟩)] W _
  clear hp hv hb h'
  go_enter Try.func88, Try.ntmps88
  go_wp2_with fail
  refine (EqualI_c D A' d c' p set _ hs hs' (by omega)).mono ?_
  rintro e w2 ⟨rfl, hb2⟩
  go_wp2
  go_returns
  exact ⟨rfl, hb2⟩
set_option maxHeartbeats 2000000 in
theorem implFirstReaching_l {A A' : Option Addr} {c c' : Nat} {ms : List Mp} {set : List Int} {w : World} (h : SeeMaps w A ms) (hn : ms.length ≤ 2097152) (hA : NilOk A c) (h' : SeeInts w A' set) (hn' : set.length ≤ 2097152) (_ : NilOk A' c') :
    Calls Try.prog 45 #[.slice A ms.length c, .slice A' set.length c'] w (WPost (RFirstReaching ms set) w) := by
  have k0 : Below w.heap.size w (w.alloc (.cells #[.slice A' set.length c'] 23)) := by go_grown
  have hv : VBox (w.alloc (.cells #[.slice A' set.length c'] 23)) w.heap.size (.slice A' set.length c') := VBox.new _ _ rfl
  have L := listCode_c A none c 0 ms [] _ hn (by simp) (h.below k0) (fun h => absurd rfl h) hA (fun _ => rfl)
  by_cases hc : lcode ms [] = 0
  · have hr := rightL_of hc
    have e2 : RFirstReaching ms set = if isSetB set (ms.headD Mp.z).p = true then freach ms (ms.headD Mp.z).p set else ([], 2) := by unfold RFirstReaching; rw [if_pos hc]
    generalize (ms.headD Mp.z).p = n at *
    have hb := hr.bounds
    have h0 : 0 ≤ n := by omega
    obtain ⟨b0, o0, m0, rfl, hm0, g0⟩ := h.at_ hr.pos
    have hmp : m0.p = n := (hr.all m0 (List.mem_of_getElem? hm0)).2
    have p0 := g0.h0
    rw [hmp, Nat.zero_mul, Nat.add_zero] at p0
    have lpos := hr.pos
    replace p0 := bcell k0 p0
    clear hm0 g0 hmp
    cases hi : isSetB set n
    · rw [hi] at e2
      rw [e2, if_neg (by decide)]
      clear e2 hr h
      go_enter Try.func45, Try.ntmps45
      go_wp2_with fail
      refine (valI L hc).mono ?_
      rintro e w2 ⟨rfl, hb2⟩
      have hk2 := btrans k0 hb2
      have C := bwcell (hv.below hb2).cell
      have P := bwcell (bcell hb2 p0)
      have S := (h'.below hk2).bw
      clear L
      go_wp2
      refine wp_region_bw (by kernel_rfl) (by kernel_rfl) ?_
      repeat go_big_quiet_step ((go_at_call 70; exact Calls.bw _ (valB (isSet_c A' c' set n _ (S _) hn' h0 (by omega)) hi)))
      refine wpQuiet_nil ?_
      rintro w4 ⟨⟨w4x, hb4⟩, rfl⟩
      go_wp2
      go_returns
      exact WPost.nil (btrans hk2 hb4)
    · rw [hi] at e2
      rw [e2, if_pos rfl]
      have hal := ptsN_AL h0
      have hst := setB_al hi
      have hr2 := fw_img hr hal (is := isThat set) (P := thatP (bitsN set)) (fun ys hy => isThat_bits hb.2 hst hy)
      rw [ptsN_bits hb.1 hb.2] at hr2
      obtain ⟨res, hre⟩ : ∃ res, res = freach ms n set := ⟨_, rfl⟩
      change _ = freach ms n set at hr2
      rw [← hre] at hr2 ⊢
      have hF : ∀ (W : World) (F : Option Addr) (fc b : Nat), Below w.heap.size w W → VBox W b (.slice A' set.length c') → SeeInts W F (ptsN n.toNat) → InS (fun k => k < W.heap.size) F →
          Calls Try.prog 87 #[.slice (some ⟨b0, o0, none⟩) ms.length c, .slice F (ptsN n.toNat).length fc, .func (.func 71) #[] #[], .func (.func 88) #[] #[.pointer (some ⟨b, 0, none⟩)]] W (FWpost res W) := fun W F fc b hbw hv hs hi => by
        rw [← hr2]
        exact firstWord_c (A := some ⟨b0, o0, none⟩) (F := F) (c := c) (fc := fc) (ms := ms) (start := ptsN n.toNat) (gB := 71) (gI := 88) (lbB := #[]) (lbI := #[.pointer (some ⟨b, 0, none⟩)]) (U := subs n) (by_ := imgL) (is := isThat set) W (h.below hbw) ((h.below hbw).inS hr.pos) hr.six hs hi (univI hr hal) (fun p hp => by have := ((subs_mem h0 hb.2).1 hp).short hb.2; omega) imageEnters (enters_of Try.func88 (by kernel_rfl) rfl) (image_by n ms h0 hb.2 hr.all) (reaching1_ok n b A' c' set W h0 hb.2 hv (h'.below hbw))
      have HF := Lib.hid hF
      clear hF hr hre hr2 h hal e2 hst
      go_enter Try.func45, Try.ntmps45
      go_wp2_with fail
      refine (valI L hc).mono ?_
      rintro e w2 ⟨rfl, hb2⟩
      have hk2 := btrans k0 hb2
      have hv2 := hv.below hb2
      have C := bwcell hv2.cell
      have p2 := bcell hb2 p0
      have P := bwcell p2
      have S := (h'.below hk2).bw
      clear L
      go_wp2
      refine wp_region_bw (by kernel_rfl) (by kernel_rfl) ?_
      repeat go_big_quiet_step ((go_at_call 70; exact Calls.bw _ (valB (isSet_c A' c' set n _ (S _) hn' h0 (by omega)) hi)))
      refine wpQuiet_nil ?_
      rintro w4 ⟨⟨w4x, hb4⟩, rfl⟩
      have hv4 := hv2.below hb4
      have p4 := bcell hb4 p2
      have hk4 := btrans hk2 hb4
      clear C P S
      go_wp2_with fail
      refine (points_c n _ h0 hb.2).mono ?_
      rintro e w5 ⟨v1, rfl, hown1, hb5⟩
      obtain ⟨A1, c1, rfl, hs1⟩ := hown1.see
      have hk5 := btrans hk4 hb5
      have hin : InS (fun k => k < w5.heap.size) A1 := fun a ha => (own_block hown1 a ha).2
      go_wp2_with fail
      refine (HF.out w5 A1 c1 w.heap.size hk5 (hv4.below hb5) hs1 hin).mono ?_
      rintro e w6 ⟨v, rfl, hown, hb6⟩
      obtain ⟨A2, c2, rfl, _⟩ := hown.see
      go_wp2
      go_returns
      exact ⟨_, rfl, hown.mono hk5.size, btrans hk5 hb6⟩
  · have e1 : RFirstReaching ms set = ([], lcode ms []) := by unfold RFirstReaching; rw [if_neg hc]
    rw [e1]
    have d : (lcode ms [] != 0) = true := by simpa using hc
    clear e1 h
    go_enter Try.func45, Try.ntmps45
    go_wp2_with (go_at_call 75; go_must (refine L.mono ?_); rintro e w2 ⟨rfl, hb2⟩)
    go_returns
    exact WPost.nil (btrans k0 hb2)
set_option maxHeartbeats 2000000 in
theorem specFirstReaching_l {A A' : Option Addr} {c c' : Nat} {ms : List Mp} {set : List Int} {w : World} (h : SeeMaps w A ms) (hn : ms.length ≤ 2097152) (_ : NilOk A c) (h' : SeeInts w A' set) (hn' : set.length ≤ 2097152) (_ : NilOk A' c') :
    Calls Try.prog 44 #[.slice A ms.length c, .slice A' set.length c'] w (WPost (RFirstReaching ms set) w) := by
  have L := l02Given_c A none c 0 ms [] w hn (by simp) h (fun h => absurd rfl h)
  by_cases hc : lcode ms [] = 0
  · have hr := rightL_of hc
    have e2 : RFirstReaching ms set = if isSetB set (ms.headD Mp.z).p = true then freach ms (ms.headD Mp.z).p set else ([], 2) := by unfold RFirstReaching; rw [if_pos hc]
    generalize (ms.headD Mp.z).p = n at *
    have hb := hr.bounds
    have h0 : 0 ≤ n := by omega
    obtain ⟨b0, o0, m0, rfl, hm0, g0⟩ := h.at_ hr.pos
    have hmp : m0.p = n := (hr.all m0 (List.mem_of_getElem? hm0)).2
    have p0 := g0.h0
    rw [hmp, Nat.zero_mul, Nat.add_zero] at p0
    have lpos := hr.pos
    clear hm0 g0 hmp
    cases hi : isSetB set n
    · rw [hi] at e2
      rw [e2, if_neg (by decide)]
      clear e2 hr h
      go_enter Try.func44, Try.ntmps44
      go_wp2_with fail
      refine (valI L hc).mono ?_
      rintro e w2 ⟨rfl, hb2⟩
      have p2 := bcell hb2 p0
      go_wp2_with fail
      refine (valB (l05Set_c A' c' set n _ (h'.below hb2) hn' h0 (by omega)) hi).mono ?_
      rintro e w3 ⟨rfl, hb3⟩
      go_wp2
      go_returns
      exact WPost.nil (btrans hb2 hb3)
    · rw [hi] at e2
      rw [e2, if_pos rfl]
      have hst := setB_al hi
      have hx6 : ∀ x ∈ set, 0 ≤ x ∧ x < 6 := fun x hx => by have := hst.2 x hx; omega
      have hp2 : 2 ^ n.toNat - 1 < 2 ^ n.toNat := by have := Nat.two_pow_pos n.toNat; omega
      have hfu := fun W hW => l05Full_c (some ⟨b0, o0, none⟩) c ms n W (h.below hW) hr
      have hW := fun W hW => l05Walk_c (some ⟨b0, o0, none⟩) c ms n _ W (h.below hW) hr hp2
      have hlt := gF_lt hr hp2
      have hlen := gF_length (univB hr hp2)
      have hsome := fun m h => fw_some (st := stB ms) (L := ms.length) (start := 2 ^ n.toNat - 1) (P := thatP (bitsN set)) (m := m) h
      have hnone := fun h => fw_none (st := stB ms) (L := ms.length) (start := 2 ^ n.toNat - 1) (P := thatP (bitsN set)) h
      unfold freach
      generalize gF (stB ms) ms.length (2 ^ n.toNat - 1) = Q at hW hlt hlen hsome hnone
      generalize fw (stB ms) ms.length (2 ^ n.toNat - 1) (thatP (bitsN set)) = res at hsome hnone ⊢
      generalize 2 ^ n.toNat - 1 = full at *
      have HW := Lib.hid hW
      have HFU := Lib.hid hfu
      have HL := Lib.hid hlt
      have HSO := Lib.hid hsome
      have HNO := Lib.hid hnone
      have HX6 := Lib.hid hx6
      clear hW hlt hsome hnone h hr hst hx6 hfu e2 hp2
      go_enter Try.func44, Try.ntmps44
      go_wp2_with fail
      refine (valI L hc).mono ?_
      rintro e w2 ⟨rfl, hb2⟩
      have p2 := bcell hb2 p0
      go_wp2_with fail
      refine (valB (l05Set_c A' c' set n _ (h'.below hb2) hn' h0 (by omega)) hi).mono ?_
      rintro e w3 ⟨rfl, hb3⟩
      replace hb3 := btrans hb2 hb3
      clear L p2 hb2
      go_wp2_with fail
      refine (HFU.out _ hb3).mono ?_
      rintro e w4 ⟨rfl, hb4⟩
      replace hb4 := btrans hb3 hb4
      go_wp2_with fail
      refine (HW.out _ hb4).mono ?_
      rintro e w1 ⟨vs, vw, ws, rfl, hos, how, hew, hwq, hb1⟩
      replace hb1 := btrans hb4 hb1
      have hz4 := hb4.size
      obtain ⟨As, cs, rfl, hss⟩ := hos.see
      obtain ⟨Aw, cw, rfl, gw⟩ := how.at_
      have HWQ := Lib.hid hwq
      have hws : ws.length = Q.length := by have := congrArg List.length hwq; simpa using this
      rw [List.length_map]
      clear hwq hb4 hb3
      go_wp2
      go_loopw [9] (fun i wr => ∃ k : Nat, i = .int .i64 k ∧ k ≤ Q.length ∧ Hid (∀ i m, i < k → Q[i]? = some m → thatP (bitsN set) m.1 = false) ∧ Below w1.heap.size w1 wr) (fun i _ => Q.length - (intOf i).toNat)
      case atStart => exact ⟨0, rfl, Nat.zero_le _, fun i m h _ => absurd h (Nat.not_lt_zero _), Below.refl _ _⟩
      case round =>
        obtain ⟨k, rfl, hk, hno, hbr⟩ := hrel
        by_cases hlt : k < Q.length
        · obtain ⟨m, hm⟩ := el hlt
          obtain ⟨s, hs, hsx⟩ := get_map HWQ.out hm
          obtain ⟨bs0, os0, xs0, rfl, hxs0, qs0⟩ := (hss.below hbr).at_ (k := k) (by simpa using hlt)
          rw [List.getElem?_map, hm] at hxs0
          obtain rfl := Option.some.inj hxs0
          obtain ⟨bw0, rfl, qw0⟩ := gw k s hs
          have qw1 := bcell hbr qw0
          unfold Sl.v at qw1
          have l0 : (0 : Int) ≤ k := by omega
          have l1 : (k : Int) < Q.length := by omega
          have l2 : (k : Int) < ws.length := by omega
          have l3 : k < ws.length := by omega
          have HM := Lib.hid hm
          have hes := hew s (List.mem_of_getElem? hs)
          unfold Sl.v at hes
          rw [hsx] at hes qw1
          replace qs0 : wr.cell? ⟨bs0, os0 + k, none⟩ = some (.int .i64 (m.1 : Int)) := qs0
          have QS := bwcell qs0
          have S := (h'.below (btrans hb1 hbr)).bw
          by_cases hP : m.1 = bitsN set
          · have HP := Lib.hid (show thatP (bitsN set) m.1 = true from decide_eq_true hP)
            clear gw hs hsx hm qs0
            rw [hP] at QS
            go_wp2
            refine wp_region_bw (by kernel_rfl) (by kernel_rfl) ?_
            repeat go_big_quiet_step ((go_at_call 69; exact Calls.bw _ (l01Bits_c A' c' set _ (S _) HX6.out hn')))
            refine wpQuiet_nil ?_
            rintro w7 ⟨⟨w7x, hb7⟩, rfl⟩
            have qw7 := bcell hb7 qw1
            clear QS S qw1
            go_wp2
            go_returns
            rw [HSO.out m (find_at HM.out HP.out hno.out)]
            exact ⟨_, rfl, (hes.below (btrans hbr hb7)).mono hz4, btrans (btrans hb1 hbr) hb7⟩
          · have HP := Lib.hid (show thatP (bitsN set) m.1 = false from decide_eq_false hP)
            have hPi : ((m.1 : Int) == (bitsN set : Int)) = false := beq_eq_false_iff_ne.2 (fun e => hP (by omega))
            clear gw hs hsx hm qs0
            go_wp2
            refine wp_region_bw (by kernel_rfl) (by kernel_rfl) ?_
            repeat go_big_quiet_step ((go_at_call 69; exact Calls.bw _ (l01Bits_c A' c' set _ (S _) HX6.out hn')))
            refine wpQuiet_nil ?_
            rintro w7 ⟨⟨w7x, hb7⟩, rfl⟩
            clear QS S qw1
            go_wp2
            go_roundw
            case rel =>
              refine ⟨k + 1, by go_num, by omega, fun i m' hi hm' => ?_, btrans hbr hb7⟩
              rcases Nat.lt_succ_iff_lt_or_eq.1 hi with hi | rfl
              · exact hno.out i m' hi hm'
              · rw [HM.out] at hm'; obtain rfl := Option.some.inj hm'; exact HP.out
            case measure => simp [intOf]; omega
        · obtain rfl : k = Q.length := by omega
          clear gw
          go_wp2
          go_returns
          rw [HNO.out (find_no (fun i m hi hm => hno.out i m hi hm))]
          exact WPost.nil (btrans hb1 hbr)
  · have e1 : RFirstReaching ms set = ([], lcode ms []) := by unfold RFirstReaching; rw [if_neg hc]
    rw [e1]
    have d : (lcode ms [] != 0) = true := by simpa using hc
    have d2 : (lcode ms [] == 0) = false := by simpa using hc
    clear e1 h
    go_enter Try.func44, Try.ntmps44
    go_wp2_with (go_at_call 72; go_must (refine L.mono ?_); rintro e w2 ⟨rfl, hb2⟩)
    go_returns
    exact WPost.nil hb2
end Go.Proofs.Ythadgdmooacccaa
