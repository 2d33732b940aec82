/- 'RegularElements', on both sides. No condition. -/
import Derived.Test.YtilfamenadaboaaGreatRegMon
import Derived.Test.YtilfamenadaboaaGreatOf
namespace Go.Proofs.YtilfamenadaboaaGreat
open Go.RowKit
noncomputable def RRegularElements (ms : List Mp) : List Mp × Int := RThat ms regB
theorem RThat_len {ms : List Mp} {P : List Mp → Mp → Bool} : (RThat ms P).1.length ≤ 1000 := by
  unfold RThat
  split
  · rename_i h
    have := (MonR.of h).len
    have h2 := List.length_filter_le (P (elsOf ms)) (elsOf ms)
    show ((elsOf ms).filter (P (elsOf ms))).length ≤ 1000
    omega
  · simp
theorem RRegularElements_len (ms : List Mp) : (RRegularElements ms).1.length ≤ 1000 := RThat_len
set_option maxHeartbeats 2000000 in
set_option maxRecDepth 100000 in
theorem implRegularElements_l {A : Option Addr} {c : Nat} {ms : List Mp} {w : World} (h : SeeMaps w A ms) (hn : ms.length ≤ 2097152) (hA : NilOk A c) :
    Calls Tryz.prog 13 #[.slice A ms.length c] w fun e w' => ∃ v, e = .returned (.tuple #[v, .int .i64 (RRegularElements ms).2]) ∧ OwnMaps w' w.heap.size v (RRegularElements ms).1 ∧ Below w.heap.size w w' := by
  show Calls _ _ _ w (MsPost (RThat ms regB) w)
  have he := elementsThat_c 45 regB (enters_of Tryz.func45 (by kernel_rfl) rfl) h hn hA (fun hm W M i f mon hi => isRegular_c hm.clo mon hi)
  have HE := Lib.hid he
  clear he h
  go_enter Tryz.func13, Tryz.ntmps13
  go_wp2_with fail
  refine HE.out.mono ?_
  rintro e w1 ⟨v, rfl, hown, hb1⟩
  obtain ⟨Av, cv, rfl, _⟩ := hown.see
  go_wp2
  go_returns
  exact ⟨_, rfl, hown, hb1⟩
set_option maxHeartbeats 2000000 in
theorem specRegularElements_l {A : Option Addr} {c : Nat} {ms : List Mp} {w : World} (h : SeeMaps w A ms) (hn : ms.length ≤ 2097152) (_ : NilOk A c) :
    Calls Tryz.prog 14 #[.slice A ms.length c] w fun e w' => ∃ v, e = .returned (.tuple #[v, .int .i64 (RRegularElements ms).2]) ∧ OwnMaps w' w.heap.size v (RRegularElements ms).1 ∧ Below w.heap.size w w' := by
  show Calls _ _ _ w (MsPost (RThat ms regB) w)
  have hmo := l04All_c A none c 0 ms [] w hn (by simp) h (see_nil w)
  have HMO := Lib.hid hmo
  obtain ⟨r, hr⟩ : ∃ r, r = RThat ms regB := ⟨_, rfl⟩
  rw [← hr]
  have HR := Lib.hid hr
  clear hmo h hr
  go_enter Tryz.func14, Tryz.ntmps14
  go_wp2_with fail
  refine HMO.out.mono ?_
  rintro e w1 h1
  rcases h1 with ⟨hc, rfl, hb1⟩ | ⟨hc, v, rfl, hown, hb1⟩
  · have e1 : r = ([], moC ms []) := by rw [HR.out]; unfold RThat; rw [if_neg hc]
    have E1 := Lib.hid e1
    have d : (moC ms [] != 0) = true := bne_iff_ne.2 hc
    clear hc e1
    go_wp2
    go_returns
    rw [E1.out]
    exact MsPost.nil hb1
  · have e1 : r = ((elsOf ms).filter (regB (elsOf ms)), 0) := by rw [HR.out]; unfold RThat; rw [if_pos hc]
    have E1 := Lib.hid e1
    have clo := (MonR.of hc).clo
    have hlen := clo.len
    have CLO := Lib.hid clo
    clear hc e1 clo
    generalize elsOf ms = l at *
    obtain ⟨Av, cv, rfl, hsv⟩ := hown.see
    have own0 : OwnMaps (w1.alloc (.cells #[] 27)) w1.heap.size (.slice (some ⟨w1.heap.size, 0, none⟩) 0 0) ((l.take 0).filter (regB l)) :=
      ⟨[], World.ownsRow_made (e := 27) (size := 6) w1 #[] 0 (Nat.le_refl _) (by decide) rfl, ⟨rfl, fun k m hk => by simp at hk⟩⟩
    have kk := kbelow w1 (.cells #[] 27)
    clear hown
    go_wp2
    go_loopw [7, 6] (fun i v wr => ∃ k : Nat, k ≤ l.length ∧ i = .int .i64 k ∧ OwnMaps wr w1.heap.size v ((l.take k).filter (regB l)) ∧ Below w1.heap.size w1 wr) (fun i _ _ => l.length - (intOf i).toNat)
    case atStart => exact ⟨0, Nat.zero_le _, rfl, own0, kk⟩
    case round =>
      clear own0 kk
      obtain ⟨k, hk, rfl, own, hb⟩ := hrel
      by_cases hlt : k < l.length
      · have see := hsv.below hb
        obtain ⟨b, o, f, rfl, hf, gf⟩ := see.at_ hlt
        have l0 : (0 : Int) ≤ k := by omega
        have l1 : (k : Int) < l.length := by omega
        have GF := gf
        obtain ⟨f0, f1, f2, f3, f4, f5⟩ := gf
        have hcall := l04Regular_c (some ⟨b, o, none⟩) cv l (ptsL ms) f wr see CLO.out (List.mem_of_getElem? hf)
        have hlen2 : ((l.take k).filter (regB l)).length ≤ 300 := by
          have := List.length_filter_le (regB l) (l.take k)
          rw [List.length_take] at this
          omega
        have hsn2 : regB l f = false → (l.take (k + 1)).filter (regB l) = (l.take k).filter (regB l) := fun e => by
          rw [List.take_add_one, hf, List.filter_append]
          simp [e]
        have hsn1 : regB l f = true → (l.take (k + 1)).filter (regB l) = (l.take k).filter (regB l) ++ [f] := fun e => by
          rw [List.take_add_one, hf, List.filter_append]
          simp [e]
        have S1 := Lib.hid hsn1
        have S2 := Lib.hid hsn2
        obtain ⟨xs, hxs⟩ : ∃ xs, xs = (l.take k).filter (regB l) := ⟨_, rfl⟩
        rw [← hxs] at own hlen2 S1 S2
        clear hf see hsn1 hsn2 hxs
        obtain ⟨Ao, co, rfl, _⟩ := own.see
        cases e : regB l f
        · rw [e] at hcall
          have HE := Lib.hid e
          clear e
          go_wp2_with fail
          refine hcall.mono ?_
          rintro e w3 ⟨rfl, hb3⟩
          go_wp2
          go_roundw
          case rel => exact ⟨k + 1, by omega, by go_num, by rw [S2.out HE.out]; exact own.below hb3, btrans hb hb3⟩
          case measure => simp [intOf]; omega
        · rw [e] at hcall
          have HE := Lib.hid e
          clear e
          go_wp2_with fail
          refine hcall.mono ?_
          rintro e w3 ⟨rfl, hb3⟩
          have own3 := own.below hb3
          have hb4 := btrans hb hb3
          replace f0 := bcell hb3 f0
          replace f1 := bcell hb3 f1
          replace f2 := bcell hb3 f2
          replace f3 := bcell hb3 f3
          replace f4 := bcell hb3 f4
          replace f5 := bcell hb3 f5
          go_wp2_with (at_builtin; refine wpList_push_map _ rfl (.tmp 29) (.tmp 34) rfl w1.heap.size _ xs rfl (own3.below (kbelow _ _)) _ f rfl (MpBox.new f 27 rfl) (by omega) (btrans hb4 (kbelow _ _)).size ?_; intro v8 w8 hown8 hg8 hv8)
          have hb8 : Below w1.heap.size w1 w8 := Below.grown (btrans hb4 (kbelow _ _)) hg8 (btrans hb4 (kbelow _ _)).size (fun q hq => (own3.lt q hq).1)
          go_wp2
          go_roundw
          case rel => exact ⟨k + 1, by omega, by go_num, by rw [S1.out HE.out]; exact hown8, hb8⟩
          case measure => simp [intOf]; omega
      · obtain rfl : k = l.length := by omega
        rw [List.take_length] at own
        obtain ⟨Ao, co, rfl, _⟩ := own.see
        go_wp2
        go_returns
        rw [E1.out]
        exact ⟨_, rfl, own.mono hb1.size, btrans hb1 hb⟩
end Go.Proofs.YtilfamenadaboaaGreat
