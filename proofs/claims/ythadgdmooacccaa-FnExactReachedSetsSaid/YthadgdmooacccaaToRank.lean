/- 'l05ToRank', 'l05Full': the reference's first word to a rank. No condition. -/
import Derived.Test.YthadgdmooacccaaWalk5
namespace Go.Proofs.Ythadgdmooacccaa
set_option linter.unusedSimpArgs false
set_option linter.unusedVariables false
set_option linter.unusedSectionVars false
open Go.RowKit
/-- has a set at most r points? -/
def onesP (r : Int) (S : Nat) : Bool := decide ((onesB S : Int) ≤ r)
/-- what 'l05ToRank' hands back -/
def TrPost (r : List Int × Int) (w : World) (e : Ending) (w' : World) : Prop := ∃ v, e = .returned (.tuple #[v, .bool (r.2 == 0)]) ∧ OwnInts w' w.heap.size v r.1 ∧ Below w.heap.size w w'
theorem find_at {α : Type} {Q : List α} {P : α → Bool} {k : Nat} {m : α} (hm : Q[k]? = some m) (hp : P m = true) (hn : ∀ i m, i < k → Q[i]? = some m → P m = false) : Q.find? P = some m := by
  obtain ⟨hl, he⟩ := List.getElem?_eq_some_iff.1 hm
  refine List.find?_eq_some_iff_getElem.2 ⟨hp, k, hl, he, fun j hj => ?_⟩
  have hjl : j < Q.length := by omega
  have := hn j _ hj (List.getElem?_eq_getElem hjl)
  simp [this]
theorem find_no {α : Type} {Q : List α} {P : α → Bool} (hn : ∀ i m, i < Q.length → Q[i]? = some m → P m = false) : Q.find? P = none :=
  List.find?_eq_none.2 fun m hm => by
    obtain ⟨i, hi, rfl⟩ := List.mem_iff_getElem.1 hm
    have := hn i _ hi (List.getElem?_eq_getElem hi)
    simp [this]
theorem gF_lt {ms : List Mp} {n : Int} (hr : RightL ms n) {S : Nat} (hS : S < 2 ^ n.toNat) : ∀ m ∈ gF (stB ms) ms.length S, m.1 < 32 := fun m hm => by
  have hU := univB hr hS
  obtain ⟨i, hi, rfl⟩ := List.mem_iff_getElem.1 hm
  have hg := gF_diag hU (List.getElem?_eq_getElem hi)
  have := List.mem_range.1 ((gb_fine hU i).mem _ (List.mem_of_getElem? hg))
  have hb := hr.bounds
  have : 2 ^ n.toNat ≤ 2 ^ 5 := Nat.pow_le_pow_right (by decide) (by omega)
  omega
theorem get_map {Q : List (Nat × List Int)} {ws : List Sl} (h : ws.map Sl.xs = Q.map Prod.snd) {k : Nat} {m : Nat × List Int} (hk : Q[k]? = some m) : ∃ s, ws[k]? = some s ∧ s.xs = m.2 := by
  have h2 := congrArg (fun l : List (List Int) => l[k]?) h
  simp only [List.getElem?_map, hk, Option.map_some, Option.map_eq_some_iff] at h2
  exact h2
set_option maxHeartbeats 1000000 in
theorem l05ToRank_c (A : Option Addr) (c : Nat) (ms : List Mp) (n r : Int) (S : Nat) (w : World) (h : SeeMaps w A ms) (hr : RightL ms n) (hS : S < 2 ^ n.toNat) :
    Calls Try.prog 73 #[.slice A ms.length c, .int .i64 (S : Int), .int .i64 r] w (TrPost (fw (stB ms) ms.length S (onesP r)) w) := by
  have hW := fun W hb => l05Walk_c A c ms n S W (SeeMaps.below h hb) hr hS
  have hlt := gF_lt hr hS
  have hlen := gF_length (univB hr hS)
  have hsome := fun m h => fw_some (st := stB ms) (L := ms.length) (start := S) (P := onesP r) (m := m) h
  have hnone := fun h => fw_none (st := stB ms) (L := ms.length) (start := S) (P := onesP r) h
  generalize gF (stB ms) ms.length S = Q at hW hlt hlen hsome hnone
  generalize fw (stB ms) ms.length S (onesP r) = res at hsome hnone ⊢
  have HW := Lib.hid hW
  have HL := Lib.hid hlt
  have HSO := Lib.hid hsome
  have HNO := Lib.hid hnone
  clear hW hlt hsome hnone h hr hS
  go_enter Try.func73, Try.ntmps73
  go_wp2_with fail
  refine (HW.out _ (Below.refl _ _)).mono ?_
  rintro e w1 ⟨vs, vw, ws, rfl, hos, how, hew, hwq, hb1⟩
  obtain ⟨As, cs, rfl, hss⟩ := hos.see
  obtain ⟨Aw, cw, rfl, gw⟩ := how.at_
  have HWQ := Lib.hid hwq
  have hws : ws.length = Q.length := by have := congrArg List.length hwq; simpa using this
  rw [List.length_map]
  clear hwq
  go_wp2
  go_loopw [10] (fun i wr => ∃ k : Nat, i = .int .i64 k ∧ k ≤ Q.length ∧ Hid (∀ i m, i < k → Q[i]? = some m → onesP r m.1 = false) ∧ Below w1.heap.size w1 wr) (fun i _ => Q.length - (intOf i).toNat)
  case atStart => exact ⟨0, rfl, Nat.zero_le _, fun i m h _ => absurd h (Nat.not_lt_zero _), Below.refl _ _⟩
  case round =>
    obtain ⟨k, rfl, hk, hno, hb⟩ := hrel
    by_cases hlt : k < Q.length
    · obtain ⟨m, hm⟩ := el hlt
      obtain ⟨s, hs, hsx⟩ := get_map HWQ.out hm
      have m32 := HL.out m (List.mem_of_getElem? hm)
      obtain ⟨bs0, os0, xs0, rfl, hxs0, qs0⟩ := (hss.below hb).at_ (k := k) (by simpa using hlt)
      rw [List.getElem?_map, hm] at hxs0
      obtain rfl := Option.some.inj hxs0
      obtain ⟨bw0, rfl, qw0⟩ := gw k s hs
      have qw1 := bcell hb qw0
      unfold Sl.v at qw1
      have l0 : (0 : Int) ≤ k := by omega
      have l1 : (k : Int) < Q.length := by omega
      have l2 : (k : Int) < ws.length := by omega
      have l3 : k < ws.length := by omega
      have HM := Lib.hid hm
      have hes := hew s (List.mem_of_getElem? hs)
      unfold Sl.v at hes
      rw [hsx] at hes qw1
      by_cases hP : (onesB m.1 : Int) ≤ r
      · have HP := Lib.hid (show onesP r m.1 = true from decide_eq_true hP)
        clear gw hs hsx hm
        go_wp2_with (go_at_call 80; refine (l01Ones_c m.1 _ (by omega)).mono ?_; rintro e w2 ⟨rfl, hb2⟩; have qw2 := bcell hb2 qw1)
        go_returns
        have hfw := HSO.out m (find_at HM.out HP.out hno.out)
        rw [hfw]
        exact ⟨_, rfl, (hes.below (btrans hb hb2)), btrans (btrans hb1 hb) hb2⟩
      · have HP := Lib.hid (show onesP r m.1 = false from decide_eq_false hP)
        clear gw hs hsx hm
        go_wp2_with (go_at_call 80; refine (l01Ones_c m.1 _ (by omega)).mono ?_; rintro e w2 ⟨rfl, hb2⟩)
        go_roundw
        case rel =>
          refine ⟨k + 1, by go_num, by omega, fun i m' hi hm' => ?_, btrans hb hb2⟩
          rcases Nat.lt_succ_iff_lt_or_eq.1 hi with hi | rfl
          · exact hno.out i m' hi hm'
          · rw [HM.out] at hm'; obtain rfl := Option.some.inj hm'; exact HP.out
        case measure => simp [intOf]; omega
    · obtain rfl : k = Q.length := by omega
      clear gw
      go_wp2
      go_returns
      rw [HNO.out (find_no (fun i m hi hm => hno.out i m hi hm))]
      exact ⟨_, rfl, OwnInts.nil _ _, btrans hb1 hb⟩
set_option maxHeartbeats 1000000 in
theorem l05Full_c (A : Option Addr) (c : Nat) (ms : List Mp) (n : Int) (w : World) (h : SeeMaps w A ms) (hr : RightL ms n) :
    Calls Try.prog 74 #[.slice A ms.length c] w fun e w' => e = .returned (.int .i64 ((2 ^ n.toNat - 1 : Nat) : Int)) ∧ Below w.heap.size w w' := by
  obtain ⟨b0, o0, m0, rfl, hm0, g0⟩ := h.at_ hr.pos
  have hmp : m0.p = n := (hr.all m0 (List.mem_of_getElem? hm0)).2
  have p0 := g0.h0
  rw [hmp, Nat.zero_mul, Nat.add_zero] at p0
  have lpos := hr.pos
  have nb := hr.bounds
  clear hr h hm0 g0
  have hn : n = 1 ∨ n = 2 ∨ n = 3 ∨ n = 4 ∨ n = 5 := by omega
  clear hmp nb
  rcases hn with rfl | rfl | rfl | rfl | rfl
  all_goals
    go_enter Try.func74, Try.ntmps74
    go_wp2
    go_returns
    exact ⟨by simp [go_sem], by go_grown⟩
end Go.Proofs.Ythadgdmooacccaa
