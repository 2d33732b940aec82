/- 'isWord' and 'l05Word': whether a list of numbers is a word; 'mapOf': the map of a word. No condition. -/
import Derived.Test.YtjepmbjneccagaaGreatFuncs
import Derived.Test.YtjepmbjneccagaaGreatMul
namespace Go.Proofs.YtjepmbjneccagaaGreat
set_option linter.unusedSimpArgs false
set_option linter.unusedVariables false
set_option linter.unusedSectionVars false
open Go.RowKit
theorem inL_any (l : Nat) (word : List Int) : (!word.any fun k => !inB k 0 ((l : Int) - 1)) = decide (InL l word) := by
  by_cases h : InL l word
  · rw [decide_eq_true h]
    have : word.any (fun k => !inB k 0 ((l : Int) - 1)) = false := List.any_eq_false.2 fun k hk => by simp [inB_true (h k hk).1 (h k hk).2]
    rw [this]; rfl
  · rw [decide_eq_false h]
    have : word.any (fun k => !inB k 0 ((l : Int) - 1)) = true := by
      unfold InL at h
      simp only [Classical.not_forall] at h
      obtain ⟨k, hk, hn⟩ := h
      exact List.any_eq_true.2 ⟨k, hk, by simp [inB_false hn]⟩
    rw [this]; rfl
/-- the product of a word's first maps -/
def mapTo (ms : List Mp) (word : List Int) (k : Nat) : Mp := (word.take k).foldl (fun f k => mulM f (nth ms k)) (idM (ms.headD Mp.z).p)
theorem mapTo_MpN {ms : List Mp} {n : Int} (h : RightL ms n) {word : List Int} (hw : InL ms.length word) (k : Nat) : MpN (mapTo ms word k) n := by
  unfold mapTo
  rw [h.head.1]
  exact (mapW_aux h _ _ (fun j hj => hw j (List.mem_of_mem_take hj)) (idM_MpN h.bounds.1 h.bounds.2)).1
theorem mapTo_succ {ms : List Mp} {word : List Int} {k : Nat} {x : Int} (hk : word[k]? = some x) : mapTo ms word (k + 1) = mulM (mapTo ms word k) (nth ms x) := by
  unfold mapTo
  rw [List.take_add_one, hk]
  simp [List.foldl_append]
theorem mapTo_all (ms : List Mp) (word : List Int) : mapTo ms word word.length = mapW ms word := by
  unfold mapTo mapW
  rw [List.take_length]
theorem SeeMaps.nthAt {w : World} {A : Option Addr} {ms : List Mp} (h : SeeMaps w A ms) {k : Int} (h0 : 0 ≤ k) (h1 : k < ms.length) : ∃ b o, A = some ⟨b, o, none⟩ ∧ MpAt w b (o + k.toNat * 6) (nth ms k) := by
  obtain ⟨b, o, x, e, hx, g⟩ := h.at_ (k := k.toNat) (by omega)
  have : nth ms k = x := by show ms.getD k.toNat Mp.z = x; rw [List.getD_eq_getElem?_getD, hx]; rfl
  exact ⟨b, o, e, by rw [this]; exact g⟩
/-! 'Index', 'Contains' at lists of numbers. -/
set_option maxHeartbeats 1000000 in
theorem IndexI_c (A : Option Addr) (c : Nat) (xs : List Int) (v : Int) (w : World) (h : SeeInts w A xs) (hn : xs.length ≤ 2097152) :
    Calls Tryz.prog 81 #[.slice A xs.length c, .int .i64 v] w fun e w' => e = .returned (.int .i64 (fidx (fun x => decide (v = x)) xs)) ∧ Below w.heap.size w w' := by
  go_enter Tryz.func81, Tryz.ntmps81
  go_wp2
  go_loopw [8] (fun i wr => ∃ k : Nat, k ≤ xs.length ∧ i = .int .i64 k ∧ AllTo (fun x => decide (v = x) = false) xs k ∧ Below w.heap.size w wr) (fun i _ => xs.length - (intOf i).toNat)
  case atStart => exact ⟨0, Nat.zero_le _, rfl, AllTo.zero _ _, Below.refl _ _⟩
  case round =>
    obtain ⟨k, hk, rfl, hj, hb⟩ := hrel
    by_cases hlt : k < xs.length
    · obtain ⟨b, o, x, rfl, hx, q⟩ := (h.below hb).at_ hlt
      have hl : (0 : Int) ≤ k := by omega
      have hl' : (k : Int) < xs.length := by omega
      have HJ := Lib.hid hj
      have HX := Lib.hid hx
      clear hj hx h
      by_cases e : v = x
      · have d : (v == x) = true := by simpa using e
        have HE := Lib.hid (show decide (v = x) = true by simpa using e)
        clear e
        go_wp2
        go_returns
        exact ⟨ret_int (fidx_hit HX.out HE.out HJ.out).symm, hb⟩
      · have d : (v == x) = false := by simpa using e
        have HE := Lib.hid (show decide (v = x) = false by simpa using e)
        go_wp2
        go_roundw
        case rel => exact ⟨k + 1, by omega, by go_num, HJ.out.snoc HX.out HE.out, hb⟩
        case measure => simp [intOf]; omega
    · obtain rfl : k = xs.length := by omega
      go_wp2
      go_returns
      exact ⟨ret_int (fidx_miss hj).symm, hb⟩
end Go.Proofs.YtjepmbjneccagaaGreat
