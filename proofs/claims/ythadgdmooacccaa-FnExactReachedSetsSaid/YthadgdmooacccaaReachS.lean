/- 'reachedSets' collects the sets that are reached. No condition. -/
import Derived.Test.YthadgdmooacccaaToRankI
import Derived.Test.YthadgdmooacccaaSls
namespace Go.Proofs.Ythadgdmooacccaa
set_option linter.unusedSimpArgs false
set_option linter.unusedVariables false
set_option linter.unusedSectionVars false
open Go.RowKit
theorem OwnSls.setBelow {w : World} {base : Nat} {v : Value} {xs : List Sl} (h : OwnSls w base v xs) {a : Addr} (ha : a.block < base) (u : Value) : OwnSls (w.setCell a u) base v xs :=
  h.keep (S := fun k => k ≠ a.block) (fun k hk => by have := (h.lt k hk).1; omega) ((Keep.refl _ w).set (fun h => h rfl) u)
/-- a variable that holds a list of the call's own, which has grown -/
def CollS (W : World) (b : Nat) (vo : Value) (ys : List Sl) (w' : World) : Prop :=
  ∃ v', VBox w' b v' ∧ OwnSls w' (b + 1) v' ys ∧ (v'.ownBlock = vo.ownBlock ∨ ∃ g, v'.ownBlock = some g ∧ W.heap.size ≤ g) ∧ Keep (fun k => k ≠ b ∧ vo.ownBlock ≠ some k) W w'
set_option maxHeartbeats 1000000 in
theorem reachS1_c (m : Mt) (W : World) (b5 : Nat) (vo : Value) (os : List Sl) (h5 : VBox W b5 vo) (ho : OwnSls W (b5 + 1) vo os) (hl : os.length ≤ 1000) :
    Calls Try.prog 110 (#[.agg #[.slice m.A m.pts.length m.c, .slice m.B m.word.length m.d]] ++ #[.pointer (some ⟨b5, 0, none⟩)]) W fun e w' => e = .returned (.bool true) ∧ CollS W b5 vo (os ++ [⟨m.A, m.c, m.pts⟩]) w' := by
  have k0 : Below W.heap.size W (W.alloc (.cells #[.slice m.A m.pts.length m.c, .slice m.B m.word.length m.d] 124)) := by go_grown
  have k1 : Below W.heap.size W ((W.alloc (.cells #[.slice m.A m.pts.length m.c, .slice m.B m.word.length m.d] 124)).alloc (.cells #[.slice m.A m.pts.length m.c] 23)) := by go_grown
  have Q5 := (h5.below k0).cell
  have o2 := ho.below k1
  have q5 := h5.below k1
  have l5 := h5.lt
  have HLT := Lib.hid ho.lt
  have K1 := Lib.hid k1
  obtain ⟨Ao, co, rfl, _⟩ := ho.at_
  show Calls Try.prog 110 #[.agg #[.slice m.A m.pts.length m.c, .slice m.B m.word.length m.d], .pointer (some ⟨b5, 0, none⟩)] W _
  clear ho h5 k0 k1
  go_enter Try.func110, Try.ntmps110
  go_wp2_with (at_builtin; refine wpList_push_sl _ rfl (.tmp 4) (.tmp 7) rfl (b5 + 1) _ os rfl o2 ⟨W.heap.size + 1, 0, none⟩ ⟨m.A, m.c, m.pts⟩ rfl (by simp [go_sem]) (by omega) (by simp; omega) ?_; intro v' w3 hown' hgrow hv'; obtain ⟨A', c', rfl, _⟩ := hown'.at_; have q5' := q5.grow hgrow (fun e => by have := (HLT.out b5 e).1; omega); have c5 := q5'.cell; have f5' := q5'.free)
  go_returns
  have hk : Keep (fun k => k ≠ b5 ∧ (Value.slice Ao os.length co).ownBlock ≠ some k) W w3 := (kb K1.out).trans (keep_grown hgrow fun k hk hs => hs.2 hk)
  rw [List.length_append] at hown' hv'
  refine ⟨rfl, _, q5'.set _, OwnSls.setBelow hown' (by simp) _, ?_, hk.set (fun h => h.1 rfl) _⟩
  rcases hv' with h | h
  · exact .inl h
  · exact .inr ⟨_, h, K1.out.size⟩
theorem gF_take {σ : Type} [DecidableEq σ] {st : Nat → σ → σ} {L : Nat} {start : σ} {U : List σ} (hU : Univ st L start U) {i : Nat} {m : σ × List Int} (h : (gb st L start i)[i]? = some m) : (gF st L start).take (i + 1) = (gF st L start).take i ++ [m] := by
  rw [List.take_add_one, gF_get hU h]; rfl
set_option maxHeartbeats 2000000 in
theorem reachSSearch_c {A F : Option Addr} {c fc : Nat} {ms : List Mp} {start : List Int} {n : Int} (w W : World) (b5 : Nat)
    (hb : Below w.heap.size w W) (h5 : VBox W b5 (.slice none 0 0)) (l5 : w.heap.size ≤ b5)
    (hA : SeeMaps w A ms) (hAl : InS (fun k => k < w.heap.size) A) (hr : RightL ms n) (hs : AL n start) (hF : SeeInts W F start) (hFl : InS (fun k => k < W.heap.size ∧ k ≠ b5) F) :
    Calls Try.prog 109 #[.slice A ms.length c, .slice F start.length fc, .func (.func 71) #[] #[], .func (.func 110) #[] #[.pointer (some ⟨b5, 0, none⟩)]] W fun e w' =>
      e = .returned (.tuple #[]) ∧ Below w.heap.size w w' ∧ ∃ vo ws, VBox w' b5 vo ∧ OwnSls w' w.heap.size vo ws ∧ ws.map Sl.xs = (gF (stp imgL ms) ms.length start).map Prod.fst := by
  have hz := hb.size
  have hlt5 := h5.lt
  have hbn := hr.bounds
  have h0 : 0 ≤ n := by omega
  have hU := univI hr hs
  refine (search_c (A := A) (F := F) (c := c) (fc := fc) (ms := ms) (start := start) (gB := 71) (gE := 110) (lbB := #[]) (lbE := #[.pointer (some ⟨b5, 0, none⟩)]) (U := subs n) (by_ := imgL) (cont := fun _ => true)
    (I := fun i S W' => ∃ vo ws, S = (fun k => k = b5 ∨ vo.ownBlock = some k) ∧ VBox W' b5 vo ∧ OwnSls W' (b5 + 1) vo ws ∧ ws.map Sl.xs = ((gF (stp imgL ms) ms.length start).take i).map Prod.fst)
    (Fin := fun _ _ => False)
    (S0 := fun k => k = b5) W (hA.below hb) (hAl.mono fun k hk => ⟨by omega, by omega⟩) hr.six hF (hFl.mono fun k hk => hk) hU.start (univ_by hU) hU.len (fun p hp => by have := ((subs_mem h0 hbn.2).1 hp).short hbn.2; omega) imageEnters (enters_of Try.func110 (by kernel_rfl) rfl) (image_by n ms h0 hbn.2 hr.all)
    ⟨.slice none 0 0, [], funext fun k => by simp [Value.ownBlock], h5, World.ownsRow_nil _ _ _ _, by simp⟩ (fun k hk => by rw [hk]; assumption)
    (fun i S W1 W2 hI hK => ?_) (fun i S W1 m hm hI hS hK hsee hown hSA hSB => ?_)).mono ?_
  · obtain ⟨vo, ws, rfl, a5, ao, aw⟩ := hI
    exact ⟨vo, ws, rfl, a5.keepS hK (.inr hlt5), ao.keep (fun k hk => .inl (.inr hk)) hK, aw⟩
  · obtain ⟨vo, ws, rfl, a5, ao, aw⟩ := hI
    have hln : ws.length ≤ 1000 := by
      have := congrArg List.length aw
      rw [List.length_map, List.length_map, List.length_take] at this
      have := gF_length hU
      omega
    refine (reachS1_c m W1 b5 vo ws a5 ao hln).mono ?_
    rintro e w2 ⟨rfl, v', c5, co, cv, ck⟩
    refine ⟨rfl, ck.mono fun k _ hk => ⟨fun e => hk (.inl e), fun e => hk (.inr e)⟩, fun _ => ⟨fun k => k = b5 ∨ v'.ownBlock = some k, ⟨v', _, rfl, c5, co, ?_⟩, fun k hk => ?_⟩, fun h => by cases h⟩
    · rw [gF_take hU (by rw [← bfs_g]; exact hm), List.map_append, List.map_append, aw]
      rfl
    · rcases hk with rfl | hk
      · exact ⟨c5.lt, .inl (.inl rfl)⟩
      · refine ⟨(co.lt k hk).2, ?_⟩
        rcases cv with h | ⟨g, h, hg⟩
        · exact .inl (.inr (h ▸ hk))
        · rw [h] at hk
          exact .inr (by have := Option.some.inj hk; omega)
  · rintro e w2 ⟨rfl, hend, hK⟩
    refine ⟨rfl, hb.trans (hK.below hz fun k hk => ⟨by omega, by omega⟩), ?_⟩
    rcases hend with ⟨N, S, e1, e2, ⟨vo, ws, _, a5, ao, aw⟩, _⟩ | ⟨N, m, _, _, h3, _⟩
    · have he := gF_of_end hU (N := N) (by rw [← bfs_g]; exact e1)
      have hle : (gF (stp imgL ms) ms.length start).length ≤ N := by
        rw [he]
        rw [bfs_g] at e1
        exact List.getElem?_eq_none_iff.1 e1
      rw [List.take_of_length_le hle] at aw
      exact ⟨vo, ws, a5, ao.mono (by omega), aw⟩
    · cases h3
/-- what 'reachedSets' hands back -/
def RsPost (Q : List (List Int × List Int)) (w : World) (e : Ending) (w' : World) : Prop := ∃ v ws, e = .returned v ∧ OwnSls w' w.heap.size v ws ∧ ws.map Sl.xs = Q.map Prod.fst ∧ Below w.heap.size w w'
set_option maxHeartbeats 1000000 in
theorem reachedSets_c {A F : Option Addr} {c fc : Nat} {ms : List Mp} {start : List Int} {n : Int} (w : World) (hA : SeeMaps w A ms) (hr : RightL ms n) (hs : AL n start) (hF : SeeInts w F start) (hFl : InS (fun k => k < w.heap.size) F) :
    Calls Try.prog 81 #[.slice A ms.length c, .slice F start.length fc] w (RsPost (gF (stp imgL ms) ms.length start) w) := by
  have hS := fun W b5 hb h5 l5 hF hFl => reachSSearch_c (A := A) (c := c) (F := F) (fc := fc) w W b5 hb h5 l5 hA (hA.inS hr.pos) hr hs hF hFl
  generalize gF (stp imgL ms) ms.length start = Q at hS ⊢
  have HS := Lib.hid hS
  clear hS
  go_enter Try.func81, Try.ntmps81
  go_wp2_with fail
  have k0 : Below w.heap.size w (w.alloc (Obj.cells #[Value.slice none 0 0] 47)) := by go_grown
  refine (HS.out _ w.heap.size k0 (VBox.new _ _ rfl) (Nat.le_refl _) (hF.below k0) (hFl.mono fun k hk => ⟨by simp; omega, by omega⟩)).mono ?_
  rintro e w2 ⟨rfl, hb2, vo, ws, q5, hown, hw⟩
  have c5 := q5.cell
  obtain ⟨A', c', rfl, _⟩ := hown.at_
  go_wp2
  go_returns
  exact ⟨_, ws, rfl, hown, hw, hb2⟩
end Go.Proofs.Ythadgdmooacccaa
