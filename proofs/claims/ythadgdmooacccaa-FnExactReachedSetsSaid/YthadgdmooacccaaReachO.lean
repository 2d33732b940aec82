/- 'reachedSets' hands back rows of the call's own. No condition. -/
import Derived.Test.YthadgdmooacccaaSearchO
import Derived.Test.YthadgdmooacccaaReachS
namespace Go.Proofs.Ythadgdmooacccaa
set_option linter.unusedSimpArgs false
set_option linter.unusedVariables false
set_option linter.unusedSectionVars false
open Go.RowKit
def Mt.sl (m : Mt) : Sl := ⟨m.A, m.c, m.pts⟩
set_option maxHeartbeats 2000000 in
theorem reachSO_c {A F : Option Addr} {c fc base : Nat} {ms : List Mp} {start : List Int} {n : Int} (w W : World) (b5 : Nat)
    (hb : Below w.heap.size w W) (h5 : VBox W b5 (.slice none 0 0)) (l5 : w.heap.size ≤ b5) (hbase : base ≤ w.heap.size)
    (hA : SeeMaps w A ms) (hAl : InS (fun k => k < w.heap.size) A) (hr : RightL ms n) (hs : AL n start) (hF : OwnInts W base (.slice F start.length fc) start) (hFl : InS (fun k => k < W.heap.size ∧ k ≠ b5) F) :
    Calls Try.prog 109 #[.slice A ms.length c, .slice F start.length fc, .func (.func 71) #[] #[], .func (.func 110) #[] #[.pointer (some ⟨b5, 0, none⟩)]] W fun e w' =>
      e = .returned (.tuple #[]) ∧ Below w.heap.size w w' ∧ ∃ vo, VBox w' b5 vo ∧ OwnSS w' base vo ((gF (stp imgL ms) ms.length start).map Prod.fst) := by
  have hz := hb.size
  have hlt5 := h5.lt
  have hbn := hr.bounds
  have h0 : 0 ≤ n := by omega
  have hU := univI hr hs
  refine (searchO_c (A := A) (F := F) (c := c) (fc := fc) (ms := ms) (start := start) (gB := 71) (gE := 110) (lbB := #[]) (lbE := #[.pointer (some ⟨b5, 0, none⟩)]) (U := subs n) (by_ := imgL)
    (I := fun past S W' => ∃ vo, S = (fun k => k = b5 ∨ vo.ownBlock = some k) ∧ VBox W' b5 vo ∧ OwnSls W' (b5 + 1) vo (past.map Mt.sl))
    (S0 := fun k => k = b5) (base0 := base) W (by omega) (hA.below hb) (hAl.mono fun k hk => ⟨by omega, by omega⟩) hr.six hF (hFl.mono fun k hk => hk) hU.start (univ_by hU) hU.len (fun p hp => by have := ((subs_mem h0 hbn.2).1 hp).short hbn.2; omega) imageEnters (enters_of Try.func110 (by kernel_rfl) rfl) (image_by n ms h0 hbn.2 hr.all)
    ⟨.slice none 0 0, funext fun k => by simp [Value.ownBlock], h5, World.ownsRow_nil _ _ _ _⟩ (fun k hk => by rw [hk]; assumption)
    (fun past S W1 W2 hI hK => ?_) (fun i past S W1 m hm hp hI hS hK hsee hown hSA hSB => ?_)).mono ?_
  · obtain ⟨vo, rfl, a5, ao⟩ := hI
    exact ⟨vo, rfl, a5.keepS hK (.inr hlt5), ao.keep (fun k hk => .inl (.inr hk)) hK⟩
  · obtain ⟨vo, rfl, a5, ao⟩ := hI
    have hln : (past.map Mt.sl).length ≤ 1000 := by
      rw [List.length_map, hp]
      have h1 : i < (gF (stp imgL ms) ms.length start).length := by
        rw [bfs_g] at hm
        exact (List.getElem?_eq_some_iff.1 (gF_get hU hm)).1
      have := gF_length hU
      omega
    refine (reachS1_c m W1 b5 vo (past.map Mt.sl) a5 ao hln).mono ?_
    rintro e w2 ⟨rfl, v', c5, co, cv, ck⟩
    refine ⟨rfl, ck.mono fun k _ hk => ⟨fun e => hk (.inl e), fun e => hk (.inr e)⟩, fun k => k = b5 ∨ v'.ownBlock = some k, ⟨v', rfl, c5, by rw [List.map_append]; exact co⟩, fun k hk => ?_⟩
    rcases hk with rfl | hk
    · exact ⟨c5.lt, .inl (.inl rfl)⟩
    · refine ⟨(co.lt k hk).2, ?_⟩
      rcases cv with h | ⟨g, h, hg⟩
      · exact .inl (.inr (h ▸ hk))
      · rw [h] at hk
        exact .inr (by have := Option.some.inj hk; omega)
  · rintro e w2 ⟨rfl, hend, hK⟩
    refine ⟨rfl, hb.trans (hK.below hz fun k hk => ⟨by omega, by omega⟩), ?_⟩
    obtain ⟨mts, S, e1, e2, ⟨vo, _, a5, ao⟩, _, hrows, hdis⟩ := hend
    have he := gF_of_end hU (N := mts.length) (by rw [← bfs_g]; exact e1)
    refine ⟨vo, a5, ⟨mts.map Mt.sl, ao.mono (by omega), fun s hs => ?_, by rw [List.map_map]; exact hdis, ?_⟩⟩
    · obtain ⟨m, hm, rfl⟩ := List.mem_map.1 hs
      exact hrows m hm
    · rw [he, ← bfs_g, ← e2, List.map_map, List.map_map]
      rfl
/-- what 'reachedSets' hands back, with its rows -/
def RoPost (base : Nat) (Q : List (List Int × List Int)) (w : World) (e : Ending) (w' : World) : Prop := ∃ v, e = .returned v ∧ OwnSS w' base v (Q.map Prod.fst) ∧ Below w.heap.size w w'
set_option maxHeartbeats 1000000 in
theorem reachedSetsO_c {A F : Option Addr} {c fc base : Nat} {ms : List Mp} {start : List Int} {n : Int} (w : World) (hbase : base ≤ w.heap.size) (hA : SeeMaps w A ms) (hr : RightL ms n) (hs : AL n start) (hF : OwnInts w base (.slice F start.length fc) start) (hFl : InS (fun k => k < w.heap.size) F) :
    Calls Try.prog 81 #[.slice A ms.length c, .slice F start.length fc] w (RoPost base (gF (stp imgL ms) ms.length start) w) := by
  have hS := fun W b5 hb h5 l5 hF hFl => reachSO_c (A := A) (c := c) (F := F) (fc := fc) (base := base) w W b5 hb h5 l5 hbase hA (hA.inS hr.pos) hr hs hF hFl
  generalize gF (stp imgL ms) ms.length start = Q at hS ⊢
  have HS := Lib.hid hS
  clear hS
  go_enter Try.func81, Try.ntmps81
  go_wp2_with fail
  have k0 : Below w.heap.size w (w.alloc (Obj.cells #[Value.slice none 0 0] 47)) := by go_grown
  refine (HS.out _ w.heap.size k0 (VBox.new _ _ rfl) (Nat.le_refl _) (hF.below k0) (hFl.mono fun k hk => ⟨by simp; omega, by omega⟩)).mono ?_
  rintro e w2 ⟨rfl, hb2, vo, q5, hown⟩
  have c5 := q5.cell
  obtain ⟨A', c', rfl, _⟩ := hown.see
  rw [List.length_map] at hown
  go_wp2
  go_returns
  exact ⟨_, rfl, hown, hb2⟩
end Go.Proofs.Ythadgdmooacccaa
