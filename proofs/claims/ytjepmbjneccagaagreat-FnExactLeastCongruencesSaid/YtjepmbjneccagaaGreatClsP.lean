/- Numbers of classes as they lie in memory. No condition. -/
import Derived.Test.YtjepmbjneccagaaGreatCgP
import Derived.Test.YtjepmbjneccagaaGreatBase
namespace Go.Proofs.YtjepmbjneccagaaGreat
set_option linter.unusedSimpArgs false
set_option linter.unusedVariables false
set_option linter.unusedSectionVars false
open Go.RowKit
theorem bwc {w wr : World} (hb : Below w.heap.size w wr) {p : Addr} {v : Value} (h : w.cell? p = some v) : ∀ x : BW wr, x.1.cell? p = some v := fun x => bcell (btrans hb x.2) h
theorem cls_get {cl : List Int} {i : Nat} (h : i < cl.length) : cl[i]? = some (cls cl i) := by
  unfold cls
  rw [List.getD_eq_getElem?_getD, List.getElem?_eq_getElem h]
  rfl
theorem SeeInts.cls {w : World} {A : Option Addr} {cl : List Int} (h : SeeInts w A cl) (h0 : 0 < cl.length) : ∃ b o, A = some ⟨b, o, none⟩ ∧ ∀ i, i < cl.length → w.cell? ⟨b, o + i, none⟩ = some (.int .i64 (cls cl i)) := by
  obtain ⟨b, o, e, g⟩ := h (List.length_pos_iff.1 h0)
  exact ⟨b, o, e, fun i hi => g i _ (cls_get hi)⟩
end Go.Proofs.YtjepmbjneccagaaGreat
