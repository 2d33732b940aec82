/- The reference's elements of a monoid in order, and the code of maps beside. No condition. -/
import Derived.Test.YtilfamenadaboaaGreatSpecD
import Derived.Test.YtilfamenadaboaaGreatMonoidOf
import Derived.Test.YtilfamenadaboaaGreatGiven
namespace Go.Proofs.YtilfamenadaboaaGreat
set_option linter.unusedSimpArgs false
set_option linter.unusedVariables false
set_option linter.unusedSectionVars false
open Go.RowKit
def ElPost (ms ms' : List Mp) (w : World) (e : Ending) (w' : World) : Prop :=
  (lcode ms ms' ≠ 0 ∧ e = .returned (.tuple #[.slice none 0 0, .int .i64 (lcode ms ms')]) ∧ Below w.heap.size w w') ∨
  (lcode ms ms' = 0 ∧ tooBig ms ∧ e = .returned (.tuple #[.slice none 0 0, .int .i64 3]) ∧ Below w.heap.size w w') ∨
  (lcode ms ms' = 0 ∧ ¬ tooBig ms ∧ ∃ v, e = .returned (.tuple #[v, .int .i64 0]) ∧ OwnMaps w' w.heap.size v (elsOf ms) ∧ Below w.heap.size w w')
theorem sortM_take {l : List Mp} {k : Nat} {f : Mp} (hk : l[k]? = some f) : sortM (l.take (k + 1)) = putM (sortM (l.take k)) f := by
  unfold sortM
  rw [List.take_add_one, hk, List.foldl_append]
  rfl
set_option maxHeartbeats 4000000 in
set_option maxRecDepth 100000 in
theorem l02Elements_c (A A' : Option Addr) (c c' : Nat) (ms ms' : List Mp) (w : World) (hn : ms.length ≤ 2097152) (hn' : ms'.length ≤ 2097152) (h : SeeMaps w A ms) (h' : SeeMaps w A' ms') :
    Calls Tryz.prog 81 #[.slice A ms.length c, .slice A' ms'.length c'] w (ElPost ms ms' w) := by
  have hlc := l02Given_c A A' c c' ms ms' w hn hn' h h'
  by_cases hc : lcode ms ms' = 0
  · rw [hc] at hlc
    obtain ⟨hr, hr'⟩ := lcode_right hc
    obtain ⟨b, o, m0, rfl, hm0, g0⟩ := h.at_ hr.pos
    have hp0 : m0.p = ptsL ms := (hr.all m0 (List.mem_of_getElem? hm0)).2
    have q0 := g0.h0
    rw [hp0, Nat.zero_mul, Nat.add_zero] at q0
    have lpos : (0 : Int) < ms.length := by have := hr.pos; omega
    have hnm := fun W (hW : Below w.heap.size w W) => l02Closed_c (A := some ⟨b, o, none⟩) (c := c) W hr (h.below hW)
    have HLC := Lib.hid hlc
    have HNM := Lib.hid hnm
    have HC := Lib.hid hc
    have HR := Lib.hid hr
    clear hlc hnm hc hr' hr hm0 g0 hp0 h h'
    go_enter Tryz.func81, Tryz.ntmps81
    go_wp2_with fail
    refine HLC.out.mono ?_
    rintro e w1 ⟨rfl, hb1⟩
    replace q0 := bcell hb1 q0
    go_wp2_with fail
    refine (HNM.out _ hb1).mono ?_
    rintro e w2 h2
    rcases h2 with ⟨v, vw, hs, rfl, hown, hb2⟩ | ⟨hs, rfl, hb2⟩
    · have hb3 := btrans hb1 hb2
      have hnb : ¬ tooBig ms := Nat.not_lt_of_le hs
      have hN := monQ_MpN HR.out
      have HNB := Lib.hid hnb
      have hel : elsOf ms = sortM ((monQ ms (ptsL ms)).map Prod.fst) := by unfold elsOf els; rfl
      have hll : ((monQ ms (ptsL ms)).map Prod.fst).length ≤ 300 := by rw [List.length_map]; exact hs
      have HEL := Lib.hid hel
      have HNN := Lib.hid hN
      clear hnb hs hN hel
      generalize (monQ ms (ptsL ms)).map Prod.fst = L at *
      obtain ⟨Av, cv, rfl, hsv⟩ := hown.see
      have own0 : OwnMaps (w2.alloc (.cells #[] 27)) w2.heap.size (.slice (some ⟨w2.heap.size, 0, none⟩) 0 0) [] :=
        ⟨[], World.ownsRow_made (e := 27) (size := 6) w2 #[] 0 (Nat.le_refl _) (by decide) rfl, ⟨rfl, fun k m hk => by simp at hk⟩⟩
      have kk := kbelow w2 (.cells #[] 27)
      clear q0 hb1 hb2
      go_wp2
      go_loopw [11, 10] (fun i v wr => ∃ (k gq cq : Nat), k ≤ L.length ∧ i = .int .i64 k ∧ v = .slice (some ⟨gq, 0, none⟩) (sortM (L.take k)).length cq ∧ OwnMaps wr w2.heap.size v (sortM (L.take k)) ∧ Below w2.heap.size w2 wr) (fun i _ _ => L.length - (intOf i).toNat)
      case atStart => exact ⟨0, _, _, Nat.zero_le _, rfl, rfl, own0, kk⟩
      case round =>
        clear own0 kk
        obtain ⟨k, gq, cq, hk, rfl, rfl, own, hb⟩ := hrel
        by_cases hlt : k < L.length
        · obtain ⟨bl, ol, f, rfl, hf, gf⟩ := (hsv.below hb).at_ hlt
          have l0 : (0 : Int) ≤ k := by omega
          have l1 : (k : Int) < L.length := by omega
          obtain ⟨f0, f1, f2, f3, f4, f5⟩ := gf
          have hNt : ∀ g ∈ L.take k, MpN g (ptsL ms) := fun g hg => HNN.out g (List.mem_of_mem_take hg)
          have hlen : (sortM (L.take k)).length ≤ 300 := by
            have h1 : (sortM (L.take k)).length ≤ (L.take k).length := (sortM_asc hNt).nodup.length_le_of_subset fun x hx => (mem_sortM hNt).1 hx
            rw [List.length_take] at h1
            omega
          have hput := l01Put_c w2.heap.size gq cq (sortM (L.take k)) (ptsL ms) f wr own hb.size (sortM_asc hNt) (fun g hg => hNt g ((mem_sortM hNt).1 hg)) hlen (HNN.out f (List.mem_of_getElem? hf))
          rw [← sortM_take hf] at hput
          have hpos : 0 < (sortM (L.take (k + 1))).length := by
            rw [sortM_take hf]
            exact List.length_pos_of_mem (mem_putM.2 (.inr rfl))
          have HPUT := Lib.hid hput
          have HPOS := Lib.hid hpos
          clear hf hput hpos hNt hlen own
          generalize hS2 : sortM (L.take (k + 1)) = S2 at *
          have HS2 := Lib.hid hS2
          clear hS2
          generalize sortM (L.take k) = S1 at *
          go_wp2_with fail
          refine HPUT.out.mono ?_
          rintro e w4 ⟨v4, rfl, hown4, _, hb4⟩
          obtain ⟨g4, c4, rfl, _, _⟩ := hown4.block HPOS.out
          go_wp2
          go_roundw
          case rel => exact ⟨k + 1, g4, c4, by omega, by go_num, by rw [HS2.out], by rw [HS2.out]; exact hown4, btrans hb hb4⟩
          case measure => simp [intOf]; omega
        · obtain rfl : k = L.length := by omega
          rw [List.take_length] at own ⊢
          go_wp2
          go_returns
          refine .inr (.inr ⟨HC.out, HNB.out, _, rfl, ?_, btrans hb3 hb⟩)
          rw [HEL.out]
          exact own.mono hb3.size
    · go_wp2
      go_returns
      exact .inr (.inl ⟨HC.out, hs, rfl, btrans hb1 hb2⟩)
  · have hne : (lcode ms ms' != 0) = true := bne_iff_ne.2 hc
    have HLC := Lib.hid hlc
    clear hlc
    go_enter Tryz.func81, Tryz.ntmps81
    go_wp2_with (go_at_call 106; go_must (refine HLC.out.mono ?_); rintro e w1 ⟨rfl, hb1⟩)
    go_returns
    exact .inl ⟨hc, rfl, hb1⟩
def AlPost (ms ms' : List Mp) (w : World) (e : Ending) (w' : World) : Prop :=
  (moC ms ms' ≠ 0 ∧ e = .returned (.tuple #[.slice none 0 0, .int .i64 (moC ms ms')]) ∧ Below w.heap.size w w') ∨
  (moC ms ms' = 0 ∧ ∃ v, e = .returned (.tuple #[v, .int .i64 0]) ∧ OwnMaps w' w.heap.size v (elsOf ms) ∧ Below w.heap.size w w')
set_option maxHeartbeats 4000000 in
theorem l04All_c (A A' : Option Addr) (c c' : Nat) (ms ms' : List Mp) (w : World) (hn : ms.length ≤ 2097152) (hn' : ms'.length ≤ 2097152) (h : SeeMaps w A ms) (h' : SeeMaps w A' ms') :
    Calls Tryz.prog 42 #[.slice A ms.length c, .slice A' ms'.length c'] w (AlPost ms ms' w) := by
  have hel := l02Elements_c A A' c c' ms ms' w hn hn' h h'
  have HE := Lib.hid hel
  have H' := Lib.hid h'
  clear hel h h'
  go_enter Tryz.func42, Tryz.ntmps42
  go_wp2_with fail
  refine HE.out.mono ?_
  rintro e w1 h1
  rcases h1 with ⟨hc, rfl, hb1⟩ | ⟨hc, hbig, rfl, hb1⟩ | ⟨hc, hbig, v, rfl, hown, hb1⟩
  · have hne : (lcode ms ms' != 0) = true := bne_iff_ne.2 hc
    have e1 := moC_bad hc
    have E1 := Lib.hid e1
    have HC := Lib.hid hc
    clear e1 hc
    go_wp2
    go_returns
    exact .inl ⟨by rw [E1.out]; exact HC.out, by rw [E1.out]; rfl, hb1⟩
  · have e1 := moC_big hc hbig
    have E1 := Lib.hid e1
    clear e1 hc hbig
    go_wp2
    go_returns
    exact .inl ⟨by rw [E1.out]; decide, by rw [E1.out]; rfl, hb1⟩
  · obtain ⟨hr, hr'⟩ := lcode_right hc
    have hasc := els_asc hr
    have hN := els_MpN hr
    have hlen : (els ms (ptsL ms)).length ≤ 300 := by rw [els_length hr]; exact Nat.le_of_not_lt hbig
    have HASC := Lib.hid hasc
    have HN := Lib.hid hN
    have HR' := Lib.hid hr'
    have HC := Lib.hid hc
    have HB := Lib.hid hbig
    have hELS : elsOf ms = els ms (ptsL ms) := rfl
    rw [hELS] at hown
    have HELS := Lib.hid hELS
    clear hasc hN hr hr' hc hbig hELS
    generalize els ms (ptsL ms) = L at *
    obtain ⟨Av, cv, rfl, hsv⟩ := hown.see
    go_wp2
    go_loopw [8] (fun i wr => ∃ k : Nat, k ≤ ms'.length ∧ i = .int .i64 k ∧ Hid (AllTo (fun f => f ∈ L) ms' k) ∧ Below w1.heap.size w1 wr) (fun i _ => ms'.length - (intOf i).toNat)
    case atStart => exact ⟨0, Nat.zero_le _, rfl, Lib.hid (AllTo.zero _ _), Below.refl _ _⟩
    case round =>
      obtain ⟨k, hk, rfl, hall, hb⟩ := hrel
      by_cases hlt : k < ms'.length
      · obtain ⟨b', o', f, rfl, hf, gf⟩ := (H'.out.below (btrans hb1 hb)).at_ hlt
        have l0 : (0 : Int) ≤ k := by omega
        have l1 : (k : Int) < ms'.length := by omega
        obtain ⟨f0, f1, f2, f3, f4, f5⟩ := gf
        have hpc := l02Find_c Av cv L (ptsL ms) f wr (hsv.below hb) HASC.out HN.out hlen (HR'.out f (List.mem_of_getElem? hf))
        have HF := Lib.hid hf
        clear hf
        by_cases hin : f ∈ L
        · obtain ⟨q, hq, _⟩ := plc_mem HASC.out hin
          rw [hq] at hpc
          have HIN := Lib.hid hin
          have q0 : (0 : Int) ≤ q := by omega
          clear hin hq
          go_wp2_with fail
          refine hpc.mono ?_
          rintro e w4 ⟨rfl, hb4⟩
          go_wp2
          go_roundw
          case rel => exact ⟨k + 1, by omega, by go_num, Lib.hid (hall.out.snoc HF.out HIN.out), btrans hb hb4⟩
          case measure => simp [intOf]; omega
        · have hpn := plc_not hin
          rw [hpn] at hpc
          have HC4 := Lib.hid (moC_not HC.out HB.out (fun H => hin (by have := H f (List.mem_of_getElem? HF.out); rw [HELS.out] at this; exact this)))
          clear hin hpn
          go_wp2_with fail
          refine hpc.mono ?_
          rintro e w4 ⟨rfl, hb4⟩
          go_wp2
          go_returns
          exact .inl ⟨by rw [HC4.out]; decide, by rw [HC4.out]; rfl, btrans hb1 (btrans hb hb4)⟩
      · obtain rfl : k = ms'.length := by omega
        have HC0 := Lib.hid (moC_ok HC.out HB.out (fun f hf => by rw [HELS.out]; exact hall.out.all f hf))
        clear hall
        go_wp2
        go_returns
        refine .inr ⟨HC0.out, _, rfl, ?_, btrans hb1 hb⟩
        rw [HELS.out]
        exact hown.below hb
end Go.Proofs.YtilfamenadaboaaGreat
