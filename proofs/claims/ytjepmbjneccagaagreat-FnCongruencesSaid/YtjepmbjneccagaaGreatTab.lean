/- Tables of products, on both sides: rows of rows of the call's own. No condition. -/
import Derived.Test.YtjepmbjneccagaaGreatRegular
import Derived.Test.YtjepmbjneccagaaGreatMany
import Derived.Test.YtjepmbjneccagaaGreatSS
import Derived.Test.YtjepmbjneccagaaGreatSpecE
import Derived.Test.YtjepmbjneccagaaGreatFuncs
namespace Go.Proofs.YtjepmbjneccagaaGreat
set_option linter.unusedSimpArgs false
set_option linter.unusedVariables false
set_option linter.unusedSectionVars false
open Go.RowKit
/-- a table as it is read -/
def SeeTab (w : World) (A : Option Addr) (rows : List (List Int)) : Prop := rows ≠ [] → ∃ b o, A = some ⟨b, o, none⟩ ∧ ∀ k xs, rows[k]? = some xs → ∃ A' c', w.cell? ⟨b, o + k, none⟩ = some (.slice A' xs.length c') ∧ SeeInts w A' xs ∧ NilOk A' c'
theorem SeeTab.below {w w1 : World} {A : Option Addr} {rows : List (List Int)} (h : SeeTab w A rows) (hb : Below w.heap.size w w1) : SeeTab w1 A rows := fun hn => by
  obtain ⟨b, o, e, g⟩ := h hn
  exact ⟨b, o, e, fun k xs hk => by
    obtain ⟨A', c', h1, h2, h3⟩ := g k xs hk
    exact ⟨A', c', bcell hb h1, h2.below hb, h3⟩⟩
theorem OwnInts.nilv {w : World} {base : Nat} {A : Option Addr} {n c : Nat} {xs : List Int} (h : OwnInts w base (.slice A n c) xs) : NilOk A c := fun e => by
  subst e
  rcases h.2 with ⟨h1, _⟩ | ⟨g, cap, cur, h1, _⟩
  · simp at h1; omega
  · simp at h1
theorem OwnSS.tab {w : World} {base : Nat} {A : Option Addr} {n c : Nat} {rows : List (List Int)} (h : OwnSS w base (.slice A n c) rows) : SeeTab w A rows := fun hn => by
  obtain ⟨ws, h1, h2, h3, h4⟩ := h.ex
  obtain ⟨A', c', e, g⟩ := h1.at_
  simp only [Value.slice.injEq] at e
  obtain ⟨rfl, _, _⟩ := e
  have get : ∀ k xs, rows[k]? = some xs → ∃ s : Sl, ws[k]? = some s ∧ s.xs = xs := fun k xs hk => by
    rw [← h4, List.getElem?_map] at hk
    cases hs : ws[k]? with
    | none => rw [hs] at hk; cases hk
    | some s => rw [hs] at hk; exact ⟨s, by first | rfl | exact hs, Option.some.inj hk⟩
  obtain ⟨x0, hx0⟩ := el (xs := rows) (k := 0) (List.length_pos_iff.2 hn)
  obtain ⟨s0, hs0, _⟩ := get 0 x0 hx0
  obtain ⟨b, rfl, _⟩ := g 0 s0 hs0
  refine ⟨b, 0, rfl, fun k xs hk => ?_⟩
  obtain ⟨s, hs, rfl⟩ := get k xs hk
  obtain ⟨b', e, q⟩ := g k s hs
  simp only [Option.some.injEq, Addr.mk.injEq, and_true] at e
  subst e
  have hm := h2 s (List.mem_of_getElem? hs)
  exact ⟨s.A, s.c, by rw [Nat.zero_add]; exact q, OwnInts.see' (show OwnInts w base (.slice s.A s.xs.length s.c) s.xs from hm), OwnInts.nilv (show OwnInts w base (.slice s.A s.xs.length s.c) s.xs from hm)⟩
theorem OwnSS.row {w : World} {base b n c : Nat} {rows : List (List Int)} (h : OwnSS w base (.slice (some ⟨b, 0, none⟩) n c) rows) {k : Nat} {xs : List Int} (hk : rows[k]? = some xs) : ∃ A' c', w.cell? ⟨b, k, none⟩ = some (.slice A' xs.length c') ∧ OwnInts w base (.slice A' xs.length c') xs := by
  obtain ⟨ws, h1, h2, h3, h4⟩ := h.ex
  rw [← h4, List.getElem?_map] at hk
  cases hs : ws[k]? with
  | none => rw [hs] at hk; cases hk
  | some s =>
    rw [hs] at hk
    obtain rfl := Option.some.inj hk
    exact ⟨s.A, s.c, h1.cell hs, h2 s (List.mem_of_getElem? hs)⟩
/-- one row more -/
theorem OwnSS.push {w w2 w3 : World} {base : Nat} {v v' : Value} {ws : List Sl} {s : Sl} {vals : List (List Int)} (h1 : OwnSls w base v ws) (h2 : ElsOk w base ws) (h3 : (ws.map Sl.v).Pairwise DisV) (h4 : ws.map Sl.xs = vals) (hb : Below w.heap.size w w2)
    (hs : OwnInts w2 base s.v s.xs) (hsb : ∀ k, s.v.ownBlock = some k → w.heap.size ≤ k) (hg : w2.grownBy w3 v.ownBlock) (ho : OwnSls w3 base v' (ws ++ [s])) : OwnSS w3 base v' (vals ++ [s.xs]) :=
  ⟨ws ++ [s], ho, ((h2.below hb).snoc hs).growSl (h1.below hb) hg, by
    rw [List.map_append]
    refine List.pairwise_append.2 ⟨h3, by simp, fun a ha b hb' k hk => ?_⟩
    obtain ⟨t, ht, rfl⟩ := List.mem_map.1 ha
    obtain rfl := List.mem_singleton.1 hb'
    intro e
    have := ((h2 t ht).lt k hk).2
    have := hsb k e
    omega, by rw [List.map_append, h4]; rfl⟩
def rowT (l : List Mp) (f : Mp) : List Int := l.map fun g => plc l (mulM f g)
def tabOf (l : List Mp) : List (List Int) := l.map (rowT l)
theorem rowT_length (l : List Mp) (f : Mp) : (rowT l f).length = l.length := List.length_map _
theorem tabOf_length (l : List Mp) : (tabOf l).length = l.length := List.length_map _
theorem tab_at {l : List Mp} {n : Int} (hc : Clo l n) {i k : Nat} (hi : i < l.length) (hk : k < l.length) : ∃ row, (tabOf l)[i]? = some row ∧ row.length = l.length ∧ row[k]? = some (mpl l i k : Int) ∧ mpl l i k < l.length := by
  obtain ⟨f, g, hf, hg, e, hlt⟩ := mpl_at hc hi hk
  refine ⟨rowT l f, by unfold tabOf; rw [List.getElem?_map, hf]; rfl, rowT_length l f, ?_, hlt⟩
  unfold rowT
  rw [List.getElem?_map, hg]
  exact congrArg some e
section
variable {l : List Mp} {n : Int} {M : Nat} {w : World}
set_option maxHeartbeats 4000000 in
set_option maxRecDepth 100000 in
theorem table_c (hc : Clo l n) (mon : MonAt w M l n) :
    Calls Tryz.prog 77 #[.pointer (some ⟨M, 0, none⟩)] w fun e w' => ∃ v, e = .returned v ∧ OwnSS w' w.heap.size v (tabOf l) ∧ Below w.heap.size w w' := by
  obtain ⟨A, c, c0, _⟩ := mon.cellsOf
  have hlen := hc.len
  have HPR := Lib.hid (fun W (hW : MonAt W M l n) i k f g hi hk => product_c M l n i k f g W hW hc.len hi hk (hc.get hi).2 (hc.get hk).2)
  clear hc
  go_enter Tryz.func77, Tryz.ntmps77
  go_wp2
  go_loopw [12, 3] (fun i v wr => ∃ k : Nat, k ≤ l.length ∧ i = .int .i64 k ∧ OwnSS wr w.heap.size v ((tabOf l).take k) ∧ Below w.heap.size w wr) (fun i _ _ => l.length - (intOf i).toNat)
  case atStart => exact ⟨0, Nat.zero_le _, rfl, OwnSS.nil _ _, Below.refl _ _⟩
  case round =>
    obtain ⟨k, hk, rfl, own, hb⟩ := hrel
    obtain ⟨ws, h1, h2, h3, h4⟩ := own.ex
    obtain ⟨Ao, co, rfl, _⟩ := h1.at_
    have l0 : (0 : Int) ≤ k := by omega
    by_cases hlt : k < l.length
    · have l1 : (k : Int) < l.length := by omega
      obtain ⟨f, hf⟩ := el hlt
      have c1 := bcell hb c0
      have HF := Lib.hid hf
      have hst : (tabOf l).take (k + 1) = (tabOf l).take k ++ [rowT l f] := by
        rw [List.take_add_one]
        unfold tabOf
        rw [List.getElem?_map, hf]
        rfl
      have hwl : ws.length ≤ 300 := by
        have := congrArg List.length h4
        rw [List.length_map, List.length_take] at this
        omega
      have HST := Lib.hid hst
      have HWS := Lib.hid (⟨h2, h3, h4⟩ : ElsOk wr w.heap.size ws ∧ (ws.map Sl.v).Pairwise DisV ∧ ws.map Sl.xs = (tabOf l).take k)
      clear hf hst h2 h3 h4 own
      obtain ⟨row, hrow⟩ : ∃ row, row = rowT l f := ⟨_, rfl⟩
      have hrl : row.length = l.length := by rw [hrow, rowT_length]
      have HRL := Lib.hid hrl
      rw [← hrow] at HST
      have HROW := Lib.hid hrow
      clear hrow hrl
      obtain ⟨W0, rfl⟩ : ∃ W0, W0 = wr := ⟨_, rfl⟩
      go_wp2
      go_loopw [20, 5] (fun i v wr2 => ∃ j : Nat, j ≤ l.length ∧ i = .int .i64 j ∧ OwnInts wr2 W0.heap.size v (row.take j) ∧ Below W0.heap.size W0 wr2) (fun i _ _ => l.length - (intOf i).toNat)
      case atStart => exact ⟨0, Nat.zero_le _, rfl, OwnInts.nil _ _, Below.refl _ _⟩
      case round =>
        obtain ⟨j, hj, rfl, ownr, hbj⟩ := hrel
        obtain ⟨Ar, cr, rfl, _⟩ := ownr.see
        have m0 : (0 : Int) ≤ j := by omega
        by_cases hltj : j < l.length
        · have m1 : (j : Int) < l.length := by omega
          obtain ⟨g, hg⟩ := el hltj
          have hbb := btrans hb hbj
          have h5 := HPR.out wr (mon.below hbb) k j f g HF.out hg
          have hsn : row.take (j + 1) = row.take j ++ [plc l (mulM f g)] := by
            rw [List.take_add_one, HROW.out]
            unfold rowT
            rw [List.getElem?_map, hg]
            rfl
          have HSN := Lib.hid hsn
          have hle : (row.take j).length ≤ 300 := by rw [List.length_take]; omega
          clear hsn hg c1
          generalize plc l (mulM f g) = pv at *
          generalize row.take j = xs at *
          have H5 := Lib.hid h5
          clear h5
          go_wp2_with fail
          refine H5.out.mono ?_
          rintro e w3 ⟨rfl, hb3⟩
          have own3 := ownr.below hb3
          have hb4 := btrans hbj hb3
          go_wp2_with (at_builtin; refine wpList_push_int _ rfl (.tmp 23) (.tmp 28) rfl W0.heap.size _ xs rfl (own3.below (kbelow _ _)) ⟨w3.heap.size, 0, none⟩ pv rfl (by simp [go_sem]) (by omega) (btrans hb4 (kbelow _ _)).size ?_; intro v6 w6 hown6 hg6 hv6)
          have hb6 : Below W0.heap.size W0 w6 := Below.grown (btrans hb4 (kbelow _ _)) hg6 (btrans hb4 (kbelow _ _)).size (fun q hq => (own3.lt q hq).1)
          go_wp2
          go_roundw
          case rel => exact ⟨j + 1, by omega, by go_num, by rw [HSN.out]; exact hown6, hb6⟩
          case measure => simp [intOf]; omega
        · obtain rfl : j = l.length := by omega
          rw [List.take_of_length_le (Nat.le_of_eq HRL.out)] at ownr ⊢
          have hbx := btrans hbj (kbelow wr (.cells #[.slice Ar row.length cr] 38))
          have h14 := h1.below hbx
          have hs2 := (OwnInts.mono ownr hb.size).below (kbelow wr (.cells #[.slice Ar row.length cr] 38))
          have hsb : ∀ q, (Sl.v ⟨Ar, cr, row⟩).ownBlock = some q → W0.heap.size ≤ q := fun q hq => (ownr.lt q hq).1
          go_wp2_with (at_builtin; refine wpList_push_sl _ rfl (.tmp 31) (.tmp 33) rfl w.heap.size _ ws rfl h14 ⟨wr.heap.size, 0, none⟩ ⟨Ar, cr, row⟩ rfl (by simp [go_sem]) (by omega) (btrans hb hbx).size ?_; intro v5 w5 hown5 hgrow5 hv5)
          have hss := OwnSS.push (s := ⟨Ar, cr, row⟩) h1 HWS.out.1 HWS.out.2.1 HWS.out.2.2 hbx hs2 hsb hgrow5 hown5
          have hb5 : Below w.heap.size w w5 := (btrans hb hbx).grown hgrow5 (btrans hb hbx).size (fun i hi => (h14.lt i hi).1)
          obtain ⟨A5, c5, rfl, _⟩ := hown5.at_
          go_wp2
          go_roundw
          case rel => exact ⟨k + 1, by omega, by go_num, by rw [HST.out]; exact hss, hb5⟩
          case measure => simp [intOf]; omega
    · obtain rfl : k = l.length := by omega
      rw [List.take_of_length_le (Nat.le_of_eq (tabOf_length l))] at own
      clear h1 h2 h3 h4
      go_wp2
      go_returns
      exact ⟨_, rfl, own, hb⟩
end
theorem see_tab1 {w : World} {b : Nat} {A : Option Addr} {c : Nat} {cl : List Int} (q : w.cell? ⟨b, 0, none⟩ = some (.slice A cl.length c)) (h : SeeInts w A cl) (hA : NilOk A c) : SeeTab w (some ⟨b, 0, none⟩) [cl] := fun _ => ⟨b, 0, rfl, fun k xs hk => by
  match k with
  | 0 => simp at hk; subst hk; exact ⟨A, c, q, h, hA⟩
  | k + 1 => simp at hk⟩
end Go.Proofs.YtjepmbjneccagaaGreat
