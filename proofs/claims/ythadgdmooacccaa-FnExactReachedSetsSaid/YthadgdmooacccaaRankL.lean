/- 'RankOfList', on both sides. No condition. -/
import Derived.Test.YthadgdmooacccaaReachS
import Derived.Test.YthadgdmooacccaaMeetB
namespace Go.Proofs.Ythadgdmooacccaa
open Go.RowKit
theorem gF_img {ms : List Mp} {n : Int} (hr : RightL ms n) {xs : List Int} (h : AL n xs) : gF (stB ms) ms.length (bitsN xs) = (gF (stp imgL ms) ms.length xs).map fun m => (bitsN m.1, m.2) := by
  have hb := hr.bounds
  have mem := fun {s} => subs_mem (n := n) (xs := s) (by omega) hb.2
  unfold gF
  refine gb_map (univI hr h) bitsN rfl (fun j hj s hs => ?_) (fun s hs t ht e => ?_) 1000
  · have hf : MpN (ms.getD j Mp.z) n := by
      rw [List.getD_eq_getElem?_getD, List.getElem?_eq_getElem hj]
      exact hr.all _ (List.getElem_mem hj)
    exact (movedB_img hf (mem.1 hs).2).symm
  · rw [← (mem.1 hs).pts hb.2, ← (mem.1 ht).pts hb.2, e]
theorem gF_AL {ms : List Mp} {n : Int} (hr : RightL ms n) {xs : List Int} (h : AL n xs) : ∀ m ∈ gF (stp imgL ms) ms.length xs, AL n m.1 := fun m hm => by
  have hb := hr.bounds
  unfold gF at hm
  exact (subs_mem (by omega) hb.2).1 ((gb_fine (univI hr h) 1000).mem m hm)
def ranksB (ms : List Mp) (n : Int) : List Int := (gF (stB ms) ms.length (2 ^ n.toNat - 1)).map fun m => (onesB m.1 : Int)
def least (n : Int) (ls : List Int) : Int := ls.foldl min n
theorem ranks_img {ms : List Mp} {n : Int} (hr : RightL ms n) : ranksB ms n = (gF (stp imgL ms) ms.length (ptsN n.toNat)).map fun m => (m.1.length : Int) := by
  have hb := hr.bounds
  have h := ptsN_AL (n := n) (by omega)
  unfold ranksB
  rw [← ptsN_bits hb.1 hb.2, gF_img hr h, List.map_map]
  refine List.map_congr_left fun m hm => ?_
  show ((onesB (bitsN m.1) : Nat) : Int) = _
  rw [(gF_AL hr h m hm).ones hb.2]
def RRankOfList (ms : List Mp) : Int × Int := if lcode ms [] = 0 then (least (ms.headD Mp.z).p (ranksB ms (ms.headD Mp.z).p), 0) else (0, lcode ms [])
theorem least_succ {n : Int} {ls : List Int} {k : Nat} {x : Int} (h : ls[k]? = some x) : least n (ls.take (k + 1)) = min (least n (ls.take k)) x := by
  unfold least
  rw [List.take_add_one, h, List.foldl_append]
  rfl
set_option maxHeartbeats 1000000 in
theorem specRankOfList_l {A : Option Addr} {c : Nat} {ms : List Mp} {w : World} (h : SeeMaps w A ms) (hn : ms.length ≤ 2097152) (_ : NilOk A c) :
    Calls Try.prog 33 #[.slice A ms.length c] w fun e w' => e = .returned (.tuple #[.int .i64 (RRankOfList ms).1, .int .i64 (RRankOfList ms).2]) ∧ Below w.heap.size w w' := by
  have L := l02Given_c A none c 0 ms [] w hn (by simp) h (fun h => absurd rfl h)
  by_cases hc : lcode ms [] = 0
  · have e1 : RRankOfList ms = (least (ms.headD Mp.z).p (ranksB ms (ms.headD Mp.z).p), 0) := by unfold RRankOfList; rw [if_pos hc]
    rw [e1]
    have hr := rightL_of hc
    generalize (ms.headD Mp.z).p = n at *
    have hb := hr.bounds
    obtain ⟨b0, o0, m0, rfl, hm0, g0⟩ := h.at_ hr.pos
    have hmp : m0.p = n := (hr.all m0 (List.mem_of_getElem? hm0)).2
    have p0 := g0.h0
    rw [hmp, Nat.zero_mul, Nat.add_zero] at p0
    have lpos := hr.pos
    have hp2 : 2 ^ n.toNat - 1 < 2 ^ n.toNat := by have := Nat.two_pow_pos n.toNat; omega
    have hfu := fun W hW => l05Full_c (some ⟨b0, o0, none⟩) c ms n W (h.below hW) hr
    have hW := fun W hW => l05Walk_c (some ⟨b0, o0, none⟩) c ms n _ W (h.below hW) hr hp2
    have hlt := gF_lt hr hp2
    have hlen := gF_length (univB hr hp2)
    unfold ranksB
    generalize gF (stB ms) ms.length (2 ^ n.toNat - 1) = Q at hW hlt hlen ⊢
    generalize 2 ^ n.toNat - 1 = full at *
    have HW := Lib.hid hW
    have HFU := Lib.hid hfu
    have HL := Lib.hid hlt
    clear hW hlt h hr hfu hp2 hm0 g0 hmp e1
    go_enter Try.func33, Try.ntmps33
    go_wp2_with fail
    refine (valI L hc).mono ?_
    rintro e w2 ⟨rfl, hb2⟩
    go_wp2_with fail
    refine (HFU.out _ hb2).mono ?_
    rintro e w4 ⟨rfl, hb4⟩
    replace hb4 := btrans hb2 hb4
    go_wp2_with fail
    refine (HW.out _ hb4).mono ?_
    rintro e w1 ⟨vs, vw, ws, rfl, hos, how, hew, hwq, hb1⟩
    replace hb1 := btrans hb4 hb1
    obtain ⟨As, cs, rfl, hss⟩ := hos.see
    obtain ⟨Aw, cw, rfl, gw⟩ := how.at_
    have p1 := bcell hb1 p0
    rw [List.length_map]
    clear gw hwq hew how hos hb4 hb2 L
    go_wp2
    go_loopw [8, 7] (fun i best wr => ∃ k : Nat, i = .int .i64 k ∧ k ≤ Q.length ∧ best = .int .i64 (least n ((Q.map fun m => (onesB m.1 : Int)).take k)) ∧ Below w1.heap.size w1 wr) (fun i _ _ => Q.length - (intOf i).toNat)
    case atStart => exact ⟨0, rfl, Nat.zero_le _, rfl, Below.refl _ _⟩
    case round =>
      obtain ⟨k, rfl, hk, rfl, hbr⟩ := hrel
      by_cases hlt : k < Q.length
      · obtain ⟨m, hm⟩ := el hlt
        have m32 := HL.out m (List.mem_of_getElem? hm)
        obtain ⟨bs0, os0, xs0, rfl, hxs0, qs0⟩ := (hss.below hbr).at_ (k := k) (by simpa using hlt)
        rw [List.getElem?_map, hm] at hxs0
        obtain rfl := Option.some.inj hxs0
        have l0 : (0 : Int) ≤ k := by omega
        have l1 : (k : Int) < Q.length := by omega
        have HS := Lib.hid (least_succ (n := n) (ls := Q.map fun m => (onesB m.1 : Int)) (k := k) (x := (onesB m.1 : Int)) (by rw [List.getElem?_map, hm]; rfl))
        clear hm
        generalize least n ((Q.map fun m => (onesB m.1 : Int)).take k) = best at *
        go_wp2_with (go_at_call 80; refine (l01Ones_c m.1 _ (by omega)).mono ?_; rintro e w5 ⟨rfl, hb5⟩)
        go_roundw
        case rel =>
          refine ⟨k + 1, by go_num, by omega, ?_, btrans hbr hb5⟩
          rw [HS.out]
        case measure => simp [intOf]; omega
      · obtain rfl : k = Q.length := by omega
        have hta : (Q.map fun m => (onesB m.1 : Int)).take Q.length = Q.map fun m => (onesB m.1 : Int) := List.take_of_length_le (by simp)
        rw [hta]
        clear hta
        go_wp2
        go_returns
        exact ⟨rfl, btrans hb1 hbr⟩
  · have e1 : RRankOfList ms = (0, lcode ms []) := by unfold RRankOfList; rw [if_neg hc]
    rw [e1]
    have d : (lcode ms [] != 0) = true := by simpa using hc
    clear e1 h
    go_enter Try.func33, Try.ntmps33
    go_wp2_with (go_at_call 72; go_must (refine L.mono ?_); rintro e w2 ⟨rfl, hb2⟩)
    go_returns
    exact ⟨rfl, hb2⟩
set_option maxHeartbeats 1000000 in
theorem implRankOfList_l {A : Option Addr} {c : Nat} {ms : List Mp} {w : World} (h : SeeMaps w A ms) (hn : ms.length ≤ 2097152) (hA : NilOk A c) :
    Calls Try.prog 34 #[.slice A ms.length c] w fun e w' => e = .returned (.tuple #[.int .i64 (RRankOfList ms).1, .int .i64 (RRankOfList ms).2]) ∧ Below w.heap.size w w' := by
  have L := listCode_c A none c 0 ms [] w hn (by simp) h (fun h => absurd rfl h) hA (fun _ => rfl)
  by_cases hc : lcode ms [] = 0
  · have e1 : RRankOfList ms = (least (ms.headD Mp.z).p (ranksB ms (ms.headD Mp.z).p), 0) := by unfold RRankOfList; rw [if_pos hc]
    have hr := rightL_of hc
    generalize (ms.headD Mp.z).p = n at *
    rw [e1, ranks_img hr]
    have hb := hr.bounds
    obtain ⟨b0, o0, m0, rfl, hm0, g0⟩ := h.at_ hr.pos
    have hmp : m0.p = n := (hr.all m0 (List.mem_of_getElem? hm0)).2
    have p0 := g0.h0
    rw [hmp, Nat.zero_mul, Nat.add_zero] at p0
    have lpos := hr.pos
    have h0 : 0 ≤ n := by omega
    have hW := fun W hW F fc hF hFl => reachedSets_c (A := some ⟨b0, o0, none⟩) (F := F) (c := c) (fc := fc) (start := ptsN n.toNat) (n := n) W (h.below hW) hr (ptsN_AL h0) hF hFl
    have hlen := gF_length (univI hr (ptsN_AL h0))
    generalize gF (stp imgL ms) ms.length (ptsN n.toNat) = Q at hW hlen ⊢
    have HW := Lib.hid hW
    clear hW h hr hm0 g0 hmp e1
    go_enter Try.func34, Try.ntmps34
    go_wp2_with fail
    refine (valI L hc).mono ?_
    rintro e w2 ⟨rfl, hb2⟩
    have p2 := bcell hb2 p0
    go_wp2_with fail
    refine (points_c n _ h0 hb.2).mono ?_
    rintro e w4 ⟨v1, rfl, hown1, hb4⟩
    replace hb4 := btrans hb2 hb4
    obtain ⟨A1, c1, rfl, hs1⟩ := hown1.see
    have hin : InS (fun k => k < w4.heap.size) A1 := fun a ha => (own_block hown1 a ha).2
    go_wp2_with fail
    refine (HW.out _ hb4 A1 c1 hs1 hin).mono ?_
    rintro e w1 ⟨v, ws, rfl, how, hwq, hb1⟩
    replace hb1 := btrans hb4 hb1
    obtain ⟨Aw, cw, rfl, gw⟩ := how.at_
    have hws : ws.length = Q.length := by have := congrArg List.length hwq; simpa using this
    have HWQ := Lib.hid hwq
    clear hwq hb4 hb2 p2 L how hs1 hin hown1
    rw [hws]
    go_wp2
    go_loopw [25, 5] (fun i best wr => ∃ k : Nat, i = .int .i64 k ∧ k ≤ Q.length ∧ best = .int .i64 (least n ((Q.map fun m => (m.1.length : Int)).take k)) ∧ Below w1.heap.size w1 wr) (fun i _ _ => Q.length - (intOf i).toNat)
    case atStart => exact ⟨0, rfl, Nat.zero_le _, rfl, Below.refl _ _⟩
    case round =>
      obtain ⟨k, rfl, hk, rfl, hbr⟩ := hrel
      by_cases hlt : k < Q.length
      · obtain ⟨m, hm⟩ := el hlt
        obtain ⟨s, hs⟩ := el (xs := ws) (k := k) (by omega)
        have hsx : s.xs = m.1 := by
          have h2 := congrArg (fun l : List (List Int) => l[k]?) HWQ.out
          simp only [List.getElem?_map, hm, hs, Option.map_some] at h2
          exact Option.some.inj h2
        obtain ⟨bw0, rfl, qw0⟩ := gw k s hs
        have qw1 := bcell hbr qw0
        unfold Sl.v at qw1
        have l0 : (0 : Int) ≤ k := by omega
        have l1 : (k : Int) < Q.length := by omega
        have HS := Lib.hid (least_succ (n := n) (ls := Q.map fun m => (m.1.length : Int)) (k := k) (x := (s.xs.length : Int)) (by rw [List.getElem?_map, hm, hsx]; rfl))
        clear hm hs hsx gw
        generalize least n ((Q.map fun m => (m.1.length : Int)).take k) = best at *
        go_wp2
        go_roundw
        case rel =>
          refine ⟨k + 1, by go_num, by omega, ?_, hbr⟩
          rw [HS.out]
        case measure => simp [intOf]; omega
      · obtain rfl : k = Q.length := by omega
        have hta : (Q.map fun m => (m.1.length : Int)).take Q.length = Q.map fun m => (m.1.length : Int) := List.take_of_length_le (by simp)
        rw [hta]
        clear hta gw
        go_wp2
        go_returns
        exact ⟨rfl, btrans hb1 hbr⟩
  · have e1 : RRankOfList ms = (0, lcode ms []) := by unfold RRankOfList; rw [if_neg hc]
    rw [e1]
    have d : (lcode ms [] != 0) = true := by simpa using hc
    clear e1 h
    go_enter Try.func34, Try.ntmps34
    go_wp2_with (go_at_call 75; go_must (refine L.mono ?_); rintro e w2 ⟨rfl, hb2⟩)
    go_returns
    exact ⟨rfl, hb2⟩
end Go.Proofs.Ythadgdmooacccaa
