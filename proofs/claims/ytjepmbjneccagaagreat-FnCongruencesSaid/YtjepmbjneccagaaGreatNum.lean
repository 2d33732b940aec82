/- Canonical numbers, on both sides: 'numbered', 'l06Named'. No condition. -/
import Derived.Test.YtjepmbjneccagaaGreatMany
import Derived.Test.YtjepmbjneccagaaGreatFuncs
namespace Go.Proofs.YtjepmbjneccagaaGreat
set_option linter.unusedSimpArgs false
set_option linter.unusedVariables false
set_option linter.unusedSectionVars false
open Go.RowKit
/-- whether two are in one class, told by a function value -/
def SameP (g : Nat) (lb : Array Value) (S : Nat → Nat → Bool) (n : Nat) (w : World) : Prop :=
  ∀ (W : World) (k i : Nat), Below w.heap.size w W → k < i → i < n → Calls Tryz.prog g (#[.int .i64 (k : Int), .int .i64 (i : Int)] ++ lb) W fun e w' => e = .returned (.bool (S k i)) ∧ Below W.heap.size W w'
theorem fill_put (xs : List Int) (m : Nat) (x : Int) : (xs ++ List.replicate (m + 1) 0).set xs.length x = (xs ++ [x]) ++ List.replicate m 0 := by
  rw [List.set_append_right _ _ (Nat.le_refl _), Nat.sub_self, List.replicate_succ, List.set_cons_zero, List.append_assoc]
  rfl
theorem num_step {S : Nat → Nat → Bool} {i k : Nat} (h1 : k < i) (h2 : ∀ j, j < k → S j i = false) (h3 : S k i = true) : nbTo S (i + 1) = ((nbTo S i).1 ++ [cls (nbTo S i).1 k], (nbTo S i).2) := by
  have e := firstOf_eq (S := S) (i := i) (k := k) (by omega) h2 (fun _ => h3)
  rw [nbTo, e, if_pos h1]
  rfl
theorem num_new {S : Nat → Nat → Bool} {i : Nat} (h2 : ∀ j, j < i → S j i = false) : nbTo S (i + 1) = ((nbTo S i).1 ++ [(nbTo S i).2], (nbTo S i).2 + 1) := by
  have e := firstOf_eq (S := S) (i := i) (k := i) (Nat.le_refl _) h2 (fun h => by omega)
  rw [nbTo, e, if_neg (by omega)]
set_option maxHeartbeats 4000000 in
set_option maxRecDepth 100000 in
theorem numbered_c (g : Nat) (lb : Array Value) (S : Nat → Nat → Bool) (eg : Enters Tryz.prog g) (n : Nat) (w : World) (hn : n ≤ 100000) (hp : SameP g lb S n w) :
    Calls Tryz.prog 69 #[.int .i64 (n : Int), .func (.func g) #[] lb] w fun e w' => ∃ v, e = .returned v ∧ OwnInts w' w.heap.size v (numL S n) ∧ Below w.heap.size w w' := by
  unfold Enters at eg
  obtain ⟨ii, hii, hz0, hz1, hz2⟩ := info_parts info_int
  have HP := Lib.hid hp
  clear hp
  go_enter Tryz.func69, Tryz.ntmps69
  go_wp2_with (at_make; refine wpList_make_full _ rfl _ _ 38 rfl w.heap.size 2 ii _ 1 Tryz.underlying38 hii hz0 hz1 _ _ _ _ n rfl rfl rfl rfl (by rw [hz2]; omega) (by unfold maxLen; omega) (Nat.le_refl _) ?_)
  intro w1 hown hg
  have hb0 : Below w.heap.size w w1 := (Below.refl _ _).grown hg (Nat.le_refl _) (fun k h => by cases h)
  have own0 : OwnInts w1 w.heap.size (.slice (some ⟨w.heap.size, 0, none⟩) n n) ((nbTo S 0).1 ++ List.replicate (n - 0) 0) := by simpa [nbTo] using OwnInts.made (n := n) (by simpa using hown)
  clear hown hg
  obtain ⟨G, hG⟩ : ∃ G, G = w.heap.size := ⟨_, rfl⟩
  have HG := Lib.hid hG
  rw [← hG] at own0
  have hG0 : w.heap.size ≤ G := by omega
  go_wp2
  rw [← hG]
  clear hG
  go_loopw [12, 6] (fun iv nv wr => ∃ i : Nat, i ≤ n ∧ iv = .int .i64 i ∧ nv = .int .i64 (nbTo S i).2 ∧ OwnInts wr G (.slice (some ⟨G, 0, none⟩) n n) ((nbTo S i).1 ++ List.replicate (n - i) 0) ∧ Below w.heap.size w wr) (fun iv _ _ => n - (intOf iv).toNat)
  case atStart => exact ⟨0, Nat.zero_le _, rfl, rfl, own0, hb0⟩
  case round =>
    clear own0 hb0
    obtain ⟨i, hi, rfl, rfl, own, hb⟩ := hrel
    have l0 : (0 : Int) ≤ i := by omega
    by_cases hlt : i < n
    · have l1 : (i : Int) < n := by omega
      have hlen : (nbTo S i).1.length = i := numL_length S i
      have hnx := nbTo_next_nonneg S i
      have nx0 := hnx.1
      have nx1 := hnx.2.1
      clear hnx
      go_wp2
      go_loopw [8] (fun kv wr => ∃ k : Nat, k ≤ i ∧ kv = .int .i64 k ∧ Hid (∀ j, j < k → S j i = false) ∧ OwnInts wr G (.slice (some ⟨G, 0, none⟩) n n) ((nbTo S i).1 ++ List.replicate (n - i) 0) ∧ Below w.heap.size w wr) (fun kv _ => i - (intOf kv).toNat)
      case atStart => exact ⟨0, Nat.zero_le _, rfl, Lib.hid (fun j h => by omega), own, hb⟩
      case round =>
        clear own hb
        obtain ⟨k, hk, rfl, hF, own, hb⟩ := hrel
        have m0 : (0 : Int) ≤ k := by omega
        have fr := own.free
        have hzi : ((nbTo S i).1 ++ List.replicate (n - i) 0)[i]? = some 0 := by
          rw [List.getElem?_append_right (by omega), hlen, Nat.sub_self, List.getElem?_replicate, if_pos (by omega)]
        have qi := own.at_ hzi
        by_cases hki : k < i
        · have dk : (k : Int) < i := by omega
          have mn : (k : Int) < n := by omega
          have hcall := HP.out wr k i hb hki hlt
          cases e : S k i
          · rw [e] at hcall
            have HE := Lib.hid e
            have HC := Lib.hid hcall
            clear e hcall hzi qi
            go_wp2_with (go_at_fn g; refine HC.out.mono ?_; rintro e w' ⟨rfl, hb'⟩)
            go_roundw
            case rel => exact ⟨k + 1, by omega, by go_num, Lib.hid (fun j h => by
              by_cases e : j = k
              · subst e; exact HE.out
              · exact hF.out j (by omega)), own.below hb', btrans hb hb'⟩
            case measure => simp [intOf]; omega
          · rw [e] at hcall
            have HST := Lib.hid (num_step hki hF.out e)
            have HC := Lib.hid hcall
            clear e hcall
            have hq : ((nbTo S i).1 ++ List.replicate (n - i) 0)[k]? = some (cls (nbTo S i).1 k) := by
              rw [List.getElem?_append_left (by omega)]
              exact cls_get (by omega)
            have HQ := Lib.hid (fun wr' (hw : Below wr.heap.size wr wr') => (own.below hw).at_ hq)
            have HFR := Lib.hid (fun wr' (hw : Below wr.heap.size wr wr') => (own.below hw).free)
            have HPUT := Lib.hid (fun wr' (hw : Below wr.heap.size wr wr') => by
              have := (own.below hw).put i (cls (nbTo S i).1 k)
              obtain ⟨m, hm⟩ : ∃ m, n - i = m + 1 := ⟨n - i - 1, by omega⟩
              rw [hm] at this
              have e2 := fill_put (nbTo S i).1 m (cls (nbTo S i).1 k)
              rw [hlen] at e2
              rw [e2, show m = n - (i + 1) by omega] at this
              exact this)
            clear hq own fr hzi
            generalize cls (nbTo S i).1 k = x at *
            go_wp2_with (go_at_fn g; refine HC.out.mono ?_; rintro e w' ⟨rfl, hb'⟩; have qk := HQ.out _ hb'; have fr := HFR.out _ hb'; have qi' := bcell hb' qi)
            go_roundw
            case rel => exact ⟨i + 1, by omega, by go_num, by rw [HST.out], by rw [HST.out]; exact HPUT.out _ hb', Below.setCell (btrans hb hb') hG0 _⟩
            case measure => simp [intOf]; omega
        · obtain rfl : k = i := by omega
          have HST := Lib.hid (num_new hF.out)
          have hput := own.put k (nbTo S k).2
          obtain ⟨m, hm⟩ : ∃ m, n - k = m + 1 := ⟨n - k - 1, by omega⟩
          rw [hm] at hput
          have e2 := fill_put (nbTo S k).1 m (nbTo S k).2
          rw [hlen] at e2
          rw [e2, show m = n - (k + 1) by omega] at hput
          have HPUT := Lib.hid hput
          clear hput hm e2 hzi
          generalize (nbTo S k).2 = nx at *
          go_wp2
          go_roundw
          case rel => exact ⟨k + 1, by omega, by go_num, (by rw [HST.out]; try go_num), by rw [HST.out]; exact HPUT.out, Below.setCell hb hG0 _⟩
          case measure => simp [intOf]; omega
    · obtain rfl : i = n := by omega
      rw [Nat.sub_self, List.replicate_zero, List.append_nil] at own
      go_wp2
      go_returns
      exact ⟨_, rfl, OwnInts.mono own hG0, hb⟩
end Go.Proofs.YtjepmbjneccagaaGreat
