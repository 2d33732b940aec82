/- 'monoidOf': the monoid of a list, with the places of some maps, or a code. No condition. -/
import Derived.Test.YtilfamenadaboaaGreatMonAll
import Derived.Test.YtilfamenadaboaaGreatNewMon
import Derived.Test.YtilfamenadaboaaGreatListCode
namespace Go.Proofs.YtilfamenadaboaaGreat
set_option linter.unusedSimpArgs false
set_option linter.unusedVariables false
set_option linter.unusedSectionVars false
open Go.RowKit
/-- a row of 'int's of the call's own -/
def OwnNs (w : World) (base : Nat) (v : Value) (xs : List Int) : Prop := w.ownsRow base 3 1 v xs.length (xs.map (Value.int .i64))
theorem OwnNs.below {w w1 : World} {base : Nat} {v : Value} {xs : List Int} (h : OwnNs w base v xs) (hb : Below w.heap.size w w1) : OwnNs w1 base v xs := own_keep h (S := fun _ => True) (fun _ _ => trivial) (kb hb)
theorem OwnNs.nil (w : World) (base : Nat) : OwnNs w base (.slice none 0 0) [] := World.ownsRow_nil _ _ _ _
theorem OwnNs.see {w : World} {base : Nat} {v : Value} {xs : List Int} (h : OwnNs w base v xs) : ∃ A c, v = .slice A xs.length c ∧ SeeInts w A xs := by
  have h0 := h
  unfold OwnNs at h0
  rcases h.2 with ⟨rfl, hn⟩ | ⟨g, cap, cur, rfl, _⟩
  · exact ⟨none, 0, by rw [hn], fun hne => absurd (List.eq_nil_of_length_eq_zero hn) hne⟩
  · refine ⟨_, cap, rfl, fun _ => ⟨g, 0, rfl, fun k m hk => ?_⟩⟩
    have hl : k < xs.length := (List.getElem?_eq_some_iff.1 hk).1
    rw [Nat.zero_add]
    exact (h0.cellAt k (by omega)).trans (by rw [List.getElem?_map, hk]; rfl)
theorem info_n : (Tryz.prog.info? 3).map (fun i => (i.zero, i.size, i.bytes)) = some (some (.int .i64 0), 1, 8) := by kernel_rfl
theorem wpList_push_n (w : World) {ops : Array Oper} {rest : List Oper} {o : Oper} {a : Act} {Q : Exit → Act → World → Prop} (hgd : o.guard = none) (s x : Operand)
    (ho : o.op = .call { callee := .builtin .append, args := #[s, x], argTypes := #[51, 51] })
    (base : Nat) (v : Value) (xs : List Int) (hs : a.eval s = v) (hown : OwnNs w base v xs) (ad : Addr) (y : Int) (hx : a.eval x = .slice (some ad) 1 1) (hy : w.cell? ad = some (.int .i64 y))
    (hn : xs.length ≤ 4294967296) (hbase : base ≤ w.heap.size)
    (hK : ∀ v' w', OwnNs w' base v' (xs ++ [y]) → w.grownBy w' v.ownBlock → (v'.ownBlock = v.ownBlock ∨ v'.ownBlock = some w.heap.size) → wpList Tryz.prog ops Q rest (a.put o.dst v') w') : wpList Tryz.prog ops Q (o :: rest) a w := by
  obtain ⟨i0, hi, hz0, hz1, hz2⟩ := info_parts info_n
  refine wpList_append_see w hgd s x 51 ho base 3 i0 (.int .i64 0) 1 8 Tryz.underlying51 hi hz0 hz1 hz2 rfl (by decide) v xs.length (xs.map (Value.int .i64)) hs hown (some ad) 1 1 [.int .i64 y] hx rfl
    (.inr ⟨ad, rfl, fun j u hj => ?_⟩) (fun u hu => by simp at hu; subst hu; rfl) (by unfold maxLen; omega) (by omega) hbase (fun v' w' h1 h2 h3 => hK v' w' ?_ h2 h3)
  · match j, hj with
    | 0, hj => simp at hj; subst hj; rw [show ad.add 0 = ad by cases ad; unfold Addr.add; split <;> simp_all]; exact hy
  · show w'.ownsRow base 3 1 v' (xs ++ [y]).length ((xs ++ [y]).map (Value.int .i64))
    rw [List.length_append, List.map_append]
    exact h1
/-- the points of a list's maps -/
def ptsL (ms : List Mp) : Int := (ms.headD Mp.z).p
/-- the elements of the monoid of a list -/
def elsOf (ms : List Mp) : List Mp := els ms (ptsL ms)
def tooBig (ms : List Mp) : Prop := 300 < (monQ ms (ptsL ms)).length
open Classical in
noncomputable def moC (ms ms' : List Mp) : Int := if lcode ms ms' = 0 then (if tooBig ms then 3 else if ∀ f ∈ ms', f ∈ elsOf ms then 0 else 4) else lcode ms ms'
theorem lcode_right {ms ms' : List Mp} (h : lcode ms ms' = 0) : RightL ms (ptsL ms) ∧ ∀ f ∈ ms', MpN f (ptsL ms) := by
  unfold lcode at h
  split at h
  · rename_i h1
    split at h
    · rename_i h2
      split at h
      · rename_i h3
        exact ⟨⟨h2.1, h2.2, fun m hm => ⟨h1 m (List.mem_append_left _ hm), h3 m (List.mem_append_left _ hm)⟩⟩, fun f hf => ⟨h1 f (List.mem_append_right _ hf), h3 f (List.mem_append_right _ hf)⟩⟩
      · cases h
    · cases h
  · cases h
theorem moC_bad {ms ms' : List Mp} (h : lcode ms ms' ≠ 0) : moC ms ms' = lcode ms ms' := by unfold moC; rw [if_neg h]
theorem moC_big {ms ms' : List Mp} (h : lcode ms ms' = 0) (h2 : tooBig ms) : moC ms ms' = 3 := by unfold moC; rw [if_pos h, if_pos h2]
theorem moC_not {ms ms' : List Mp} (h : lcode ms ms' = 0) (h2 : ¬ tooBig ms) (h3 : ¬ ∀ f ∈ ms', f ∈ elsOf ms) : moC ms ms' = 4 := by unfold moC; rw [if_pos h, if_neg h2, if_neg h3]
theorem moC_ok {ms ms' : List Mp} (h : lcode ms ms' = 0) (h2 : ¬ tooBig ms) (h3 : ∀ f ∈ ms', f ∈ elsOf ms) : moC ms ms' = 0 := by unfold moC; rw [if_pos h, if_neg h2, if_pos h3]
theorem moC_zero {ms ms' : List Mp} (h : moC ms ms' = 0) : lcode ms ms' = 0 ∧ ¬ tooBig ms ∧ ∀ f ∈ ms', f ∈ elsOf ms := by
  unfold moC at h
  split at h
  · rename_i h1
    split at h
    · cases h
    · rename_i h2
      split at h
      · rename_i h3; exact ⟨h1, h2, h3⟩
      · cases h
  · rename_i h1; exact absurd h h1
/-- a right list, with elements beside, whose monoid is not too great -/
structure MonR (ms ms' : List Mp) : Prop where
  list : RightL ms (ptsL ms)
  small : (monQ ms (ptsL ms)).length ≤ 300
  mem : ∀ f ∈ ms', f ∈ elsOf ms
theorem MonR.of {ms ms' : List Mp} (h : moC ms ms' = 0) : MonR ms ms' := by
  obtain ⟨h1, h2, h3⟩ := moC_zero h
  exact ⟨(lcode_right h1).1, Nat.le_of_not_lt h2, h3⟩
theorem MonR.len {ms ms' : List Mp} (h : MonR ms ms') : (elsOf ms).length ≤ 300 := by
  unfold elsOf
  rw [els_length h.list]
  exact h.small
theorem MonR.all {ms ms' : List Mp} (h : MonR ms ms') : ∀ f ∈ elsOf ms, MpN f (ptsL ms) := els_MpN h.list
theorem MonR.asc {ms ms' : List Mp} (h : MonR ms ms') : AscM (elsOf ms) := els_asc h.list
theorem MonR.mul {ms ms' : List Mp} (h : MonR ms ms') {f g : Mp} (hf : f ∈ elsOf ms) (hg : g ∈ elsOf ms) : mulM f g ∈ elsOf ms := els_mul h.list h.small hf hg
/-- what 'monoidOf' hands back -/
def MoPost (ms ms' : List Mp) (w : World) (e : Ending) (w' : World) : Prop :=
  (moC ms ms' ≠ 0 ∧ e = .returned (.tuple #[.pointer none, .slice none 0 0, .int .i64 (moC ms ms')]) ∧ Below w.heap.size w w') ∨
  (moC ms ms' = 0 ∧ ∃ M vp, e = .returned (.tuple #[.pointer (some ⟨M, 0, none⟩), vp, .int .i64 0]) ∧ MonAt w' M (elsOf ms) (ptsL ms) ∧ OwnNs w' w.heap.size vp (ms'.map (plc (elsOf ms))) ∧ Below w.heap.size w w')
set_option maxHeartbeats 4000000 in
theorem monoidOf_c (A A' : Option Addr) (c c' : Nat) (ms ms' : List Mp) (w : World) (hn : ms.length ≤ 2097152) (hn' : ms'.length ≤ 2097152) (h : SeeMaps w A ms) (h' : SeeMaps w A' ms') (hA : NilOk A c) (hA' : NilOk A' c') :
    Calls Tryz.prog 44 #[.slice A ms.length c, .slice A' ms'.length c'] w (MoPost ms ms' w) := by
  have hlc := listCode_c A A' c c' ms ms' w hn hn' h h' hA hA'
  by_cases hc : lcode ms ms' = 0
  · rw [hc] at hlc
    obtain ⟨hr, hr'⟩ := lcode_right hc
    obtain ⟨b, o, m0, rfl, hm0, g0⟩ := h.at_ hr.pos
    have hp0 : m0.p = ptsL ms := (hr.all m0 (List.mem_of_getElem? hm0)).2
    have q0 := g0.h0
    rw [hp0, Nat.zero_mul, Nat.add_zero] at q0
    have lpos : (0 : Int) < ms.length := by have := hr.pos; omega
    have hnm := fun W (hW : Below w.heap.size w W) => newMonoid_c (A := some ⟨b, o, none⟩) (c := c) W hr (h.below hW)
    have HLC := Lib.hid hlc
    have HNM := Lib.hid hnm
    have HC := Lib.hid hc
    have HR' := Lib.hid hr'
    have HR := Lib.hid hr
    have H' := Lib.hid h'
    clear hlc hnm hc hr' hr hm0 g0 hp0 h h'
    by_cases hbig : tooBig ms
    · have e1 := moC_big HC.out hbig
      have HB := Lib.hid hbig
      have E1 := Lib.hid e1
      clear e1 hbig
      go_enter Tryz.func44, Tryz.ntmps44
      go_wp2_with fail
      refine HLC.out.mono ?_
      rintro e w1 ⟨rfl, hb1⟩
      replace q0 := bcell hb1 q0
      go_wp2_with fail
      refine (HNM.out _ hb1).mono ?_
      rintro e w2 h2
      rcases h2 with ⟨M, hs, _⟩ | ⟨hs, rfl, hb2⟩
      · exact absurd HB.out (Nat.not_lt_of_le hs)
      · go_wp2
        go_returns
        exact .inl ⟨by rw [E1.out]; decide, by rw [E1.out]; rfl, btrans hb1 hb2⟩
    · have HB := Lib.hid hbig
      clear hbig
      go_enter Tryz.func44, Tryz.ntmps44
      go_wp2_with fail
      refine HLC.out.mono ?_
      rintro e w1 ⟨rfl, hb1⟩
      replace q0 := bcell hb1 q0
      go_wp2_with fail
      refine (HNM.out _ hb1).mono ?_
      rintro e w2 h2
      rcases h2 with ⟨M, hs, rfl, mon, hM, hb2⟩ | ⟨hs, rfl, hb2⟩
      · have hb3 := btrans hb1 hb2
        have hlen : (els ms (ptsL ms)).length ≤ 300 := by rw [els_length HR.out]; exact hs
        have hasc := els_asc HR.out
        have HASC := Lib.hid hasc
        have own0 : OwnNs w2 w2.heap.size (.slice none 0 0) ((ms'.take 0).map (plc (els ms (ptsL ms)))) := OwnNs.nil _ _
        have hel : elsOf ms = els ms (ptsL ms) := rfl
        have HEL := Lib.hid hel
        clear hb1 hb2 q0 hs hasc hM hel
        generalize els ms (ptsL ms) = L at *
        go_wp2
        go_loopw [34, 10] (fun i v wr => ∃ k : Nat, k ≤ ms'.length ∧ i = .int .i64 k ∧ OwnNs wr w2.heap.size v ((ms'.take k).map (plc L)) ∧ Hid (AllTo (fun f => f ∈ L) ms' k) ∧ Below w2.heap.size w2 wr) (fun i _ _ => ms'.length - (intOf i).toNat)
        case atStart => exact ⟨0, Nat.zero_le _, rfl, own0, Lib.hid (AllTo.zero _ _), Below.refl _ _⟩
        case round =>
          clear own0
          obtain ⟨k, hk, rfl, own, hall, hb⟩ := hrel
          by_cases hlt : k < ms'.length
          · obtain ⟨b', o', f, rfl, hf, gf⟩ := (H'.out.below (btrans hb3 hb)).at_ hlt
            have l0 : (0 : Int) ≤ k := by omega
            have l1 : (k : Int) < ms'.length := by omega
            obtain ⟨f0, f1, f2, f3, f4, f5⟩ := gf
            have kk := kbelow wr (.cells #[.int .i64 f.p, .int .i64 f.a, .int .i64 f.b, .int .i64 f.c, .int .i64 f.d, .int .i64 f.e] 27)
            have hbk := btrans hb kk
            have own1 := own.below kk
            have mon1 := mon.below hbk
            have hpc := place_c M L (ptsL ms) f _ mon1 hlen (HR'.out f (List.mem_of_getElem? hf))
            have hsn : (ms'.take (k + 1)).map (plc L) = (ms'.take k).map (plc L) ++ [plc L f] := by rw [List.take_add_one, hf, List.map_append]; rfl
            have HSN := Lib.hid hsn
            have HF := Lib.hid hf
            have hlt2 : ((ms'.take k).map (plc L)).length ≤ 2097152 := by rw [List.length_map, List.length_take]; omega
            clear hsn hf own
            obtain ⟨xs, hxs⟩ : ∃ xs, xs = (ms'.take k).map (plc L) := ⟨_, rfl⟩
            rw [← hxs] at own1 HSN hlt2
            clear hxs
            obtain ⟨Ao, co, rfl, _⟩ := own1.see
            by_cases hin : f ∈ L
            · obtain ⟨q, hq, _⟩ := plc_mem HASC.out hin
              rw [hq] at hpc HSN
              have HIN := Lib.hid hin
              have q0 : (0 : Int) ≤ q := by omega
              clear hin hq
              go_wp2_with fail
              refine hpc.mono ?_
              rintro e w4 ⟨rfl, hb4⟩
              have own2 := own1.below hb4
              have hb5 := btrans hbk hb4
              go_wp2_with (at_builtin; refine wpList_push_n _ rfl (.tmp 43) (.tmp 45) rfl w2.heap.size _ xs rfl (own2.below (kbelow _ _)) ⟨w4.heap.size, 0, none⟩ (q : Int) rfl (by simp [go_sem]) (by omega) (btrans hb5 (kbelow _ _)).size ?_; intro v6 w6 hown6 hg6 hv6)
              have hb6 : Below w2.heap.size w2 w6 := Below.grown (btrans hb5 (kbelow _ _)) hg6 (btrans hb5 (kbelow _ _)).size (fun q hq => (own2.lt q hq).1)
              go_wp2
              go_roundw
              case rel => exact ⟨k + 1, by omega, by go_num, by rw [HSN.out]; exact hown6, Lib.hid (hall.out.snoc HF.out HIN.out), hb6⟩
              case measure => simp [intOf]; omega
            · have hpn := plc_not hin
              rw [hpn] at hpc
              have HC4 := Lib.hid (moC_not HC.out HB.out (fun H => hin (by have := H f (List.mem_of_getElem? HF.out); rw [HEL.out] at this; exact this)))
              clear hin hpn HSN
              go_wp2_with fail
              refine hpc.mono ?_
              rintro e w4 ⟨rfl, hb4⟩
              go_wp2
              go_returns
              exact .inl ⟨by rw [HC4.out]; decide, by rw [HC4.out]; rfl, btrans hb3 (btrans hbk hb4)⟩
          · obtain rfl : k = ms'.length := by omega
            rw [List.take_length] at own
            have HC0 := Lib.hid (moC_ok HC.out HB.out (fun f hf => by rw [HEL.out]; exact hall.out.all f hf))
            obtain ⟨Ao, co, rfl, _⟩ := own.see
            clear hall
            go_wp2
            go_returns
            refine .inr ⟨HC0.out, M, _, rfl, ?_, ?_, btrans hb3 hb⟩
            · rw [HEL.out]; exact mon.below hb
            · rw [HEL.out]; exact own_mono own hb3.size
      · exact absurd hs HB.out
  · have hne : (lcode ms ms' != 0) = true := bne_iff_ne.2 hc
    have e1 := moC_bad hc
    rw [← e1] at hne hc hlc
    clear e1
    go_enter Tryz.func44, Tryz.ntmps44
    go_wp2_with (go_at_call 83; go_must (refine hlc.mono ?_); rintro e w1 ⟨rfl, hb1⟩)
    go_returns
    exact .inl ⟨hc, rfl, hb1⟩
end Go.Proofs.YtilfamenadaboaaGreat
