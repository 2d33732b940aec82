/- The lattice of congruences, plain: what joins with those of one pair reach. No condition. -/
import Derived.Test.YtjepmbjneccagaaGreatPairL
import Derived.Test.YtjepmbjneccagaaGreatJoinC
import Derived.Test.YtjepmbjneccagaaGreatRowsL
import Derived.Deep.Cut
namespace Go.Proofs.YtjepmbjneccagaaGreat
set_option linter.unusedSimpArgs false
set_option linter.unusedVariables false
set_option linter.unusedSectionVars false
open Go.RowKit
theorem canTo_idL (N : Nat) : ∀ k, k ≤ N → CanTo (idL N) k = some (k : Int)
  | 0, _ => rfl
  | k + 1, h => by
    have ih := canTo_idL N k (by omega)
    have e : cls (idL N) k = (k : Int) := idL_cls (by omega)
    unfold CanTo
    rw [ih]
    simp [e]
theorem idL_can (N : Nat) : IsCan (idL N) N := ⟨idL_length N, by rw [canTo_idL N N (Nat.le_refl _)]; rfl⟩
/-- the next one: own joined with one of a pair -/
noncomputable def nextC (N : Nat) (T : Nat → Nat → Nat) (a p : List Int) : List Int := genL N T true (orR a p)
inductive RchC (N : Nat) (T : Nat → Nat → Nat) : List Int → Prop where
  | start : RchC N T (idL N)
  | step {a p : List Int} : RchC N T a → p ∈ pairL N T → RchC N T (nextC N T a p)
section
variable {N : Nat} {T : Nat → Nat → Nat}
theorem RchC.can {a : List Int} (h : RchC N T a) : IsCan a N := by
  cases h with
  | start => exact idL_can N
  | step => exact genL_can _
open Classical in
noncomputable def allL (N : Nat) (T : Nat → Nat → Nat) : List (List Int) × Int :=
  if h : ∃ l : List (List Int), (∀ y, y ∈ l ↔ RchC N T y) ∧ l.Nodup ∧ l.length ≤ 300 then (sortC h.choose, 0) else ([], 3)
theorem allL_big {l : List (List Int)} (hn : l.Nodup) (hr : ∀ y ∈ l, RchC N T y) (hl : 300 < l.length) : allL N T = ([], 3) := by
  unfold allL
  rw [dif_neg]
  rintro ⟨m, h1, h2, h3⟩
  have := hn.length_le_of_subset (l₂ := m) fun y hy => (h1 y).2 (hr y hy)
  omega
theorem rch_in {l : List (List Int)} (h0 : idL N ∈ l) (hc : ∀ a ∈ l, ∀ p ∈ pairL N T, nextC N T a p ∈ l) {y : List Int} (h : RchC N T y) : y ∈ l := by
  induction h with
  | start => exact h0
  | step _ hp ih => exact hc _ ih _ hp
theorem allL_done {l : List (List Int)} (hn : l.Nodup) (hr : ∀ y ∈ l, RchC N T y) (hl : l.length ≤ 300) (h0 : idL N ∈ l) (hc : ∀ a ∈ l, ∀ p ∈ pairL N T, nextC N T a p ∈ l) : allL N T = (sortC l, 0) := by
  have hm : ∀ y, y ∈ l ↔ RchC N T y := fun y => ⟨hr y, fun h => rch_in h0 hc h⟩
  have hex : ∃ l : List (List Int), (∀ y, y ∈ l ↔ RchC N T y) ∧ l.Nodup ∧ l.length ≤ 300 := ⟨l, hm, hn, hl⟩
  unfold allL
  rw [dif_pos hex]
  have hs := hex.choose_spec
  have e : sortC hex.choose = sortC l := by
    have hlen : ∀ y ∈ l, y.length = N := fun y hy => (hr y hy).can.1
    have hlen' : ∀ y ∈ hex.choose, y.length = N := fun y hy => ((hs.1 y).1 hy).can.1
    exact sortC_uniq hlen (sortC_asc hlen') fun y => by rw [mem_sortC hlen', hs.1 y, hm y]
  rw [e]
theorem allL_asc {l : List (List Int)} (ha : l.Pairwise ltC) (hr : ∀ y ∈ l, RchC N T y) (hl : l.length ≤ 300) (h0 : idL N ∈ l) (hc : ∀ a ∈ l, ∀ p ∈ pairL N T, nextC N T a p ∈ l) : allL N T = (l, 0) := by
  have hlen : ∀ y ∈ l, y.length = N := fun y hy => (hr y hy).can.1
  rw [allL_done (asc_nodup hlen ha) hr hl h0 hc, ← sortC_uniq hlen ha fun y => Iff.rfl]
theorem allL_can : ∀ y ∈ (allL N T).1, y.length = N := by
  unfold allL
  split
  · rename_i h
    have hlen' : ∀ y ∈ h.choose, y.length = N := fun y hy => ((h.choose_spec.1 y).1 hy).can.1
    exact fun y hy => hlen' y ((mem_sortC hlen').1 hy)
  · exact fun y hy => by cases hy
theorem allL_len : (allL N T).1.length ≤ 300 := by
  unfold allL
  split
  · rename_i h
    have hs := h.choose_spec
    have hlen' : ∀ y ∈ h.choose, y.length = N := fun y hy => ((hs.1 y).1 hy).can.1
    have := (sortC_nodup hlen').length_le_of_subset (l₂ := h.choose) fun y hy => (mem_sortC hlen').1 hy
    show (sortC h.choose).length ≤ 300
    omega
  · exact Nat.zero_le _
end
noncomputable def RAllCongruences (ms : List Mp) : List (List Int) × Int := if pcC 12 ms = 0 then allL (elsOf ms).length (mpl (elsOf ms)) else ([], pcC 12 ms)
theorem RAllCongruences_len (ms : List Mp) : (RAllCongruences ms).1.length ≤ 1000 ∧ (∀ x ∈ (RAllCongruences ms).1, x.length ≤ 2097152) ∧ total (RAllCongruences ms).1 ≤ 4294967296 := by
  unfold RAllCongruences
  split
  · rename_i h
    have hle := (TabR.of h).le
    have := allL_len (N := (elsOf ms).length) (T := mpl (elsOf ms))
    exact rows_len (N := (elsOf ms).length) (by omega) (by omega) allL_can
  · exact ⟨by simp, fun x hx => by simp at hx, by simp [total]⟩
/-! 'AllCongruences' of the implementation: joins breadth first. -/
/-- joins, breadth first: so far -/
structure BfI (N : Nat) (T : Nat → Nat → Nat) (ps ys : List (List Int)) (i k : Nat) : Prop where
  nd : ys.Nodup
  r : ∀ y ∈ ys, RchC N T y
  st : idL N ∈ ys
  le : i ≤ ys.length
  done : ∀ j, j < i → ∀ a, ys[j]? = some a → ∀ p ∈ ps, nextC N T a p ∈ ys
  part : ∀ a, ys[i]? = some a → ∀ j, j < k → ∀ p, ps[j]? = some p → nextC N T a p ∈ ys
section
variable {N : Nat} {T : Nat → Nat → Nat} {ps ys : List (List Int)} {i k : Nat} {a p : List Int}
theorem BfI.start : BfI N T ps [idL N] 0 0 :=
  ⟨by simp, fun y hy => by rw [List.mem_singleton.1 hy]; exact .start, by simp, by simp, fun j hj => by omega, fun a _ j hj => by omega⟩
theorem BfI.keep (h : BfI N T ps ys i k) (ha : ys[i]? = some a) (hp : ps[k]? = some p) (hm : nextC N T a p ∈ ys) : BfI N T ps ys i (k + 1) :=
  ⟨h.nd, h.r, h.st, h.le, h.done, fun b hb j hj q hq => by
    rcases Nat.lt_or_ge j k with h1 | h1
    · exact h.part b hb j h1 q hq
    · obtain rfl : j = k := by omega
      rw [ha] at hb
      rw [hp] at hq
      obtain rfl := Option.some.inj hb
      obtain rfl := Option.some.inj hq
      exact hm⟩
theorem BfI.push (h : BfI N T (pairL N T) ys i k) (ha : ys[i]? = some a) (hp : (pairL N T)[k]? = some p) (hm : nextC N T a p ∉ ys) : BfI N T (pairL N T) (ys ++ [nextC N T a p]) i (k + 1) := by
  have hi : i < ys.length := (List.getElem?_eq_some_iff.1 ha).1
  have g : ∀ j b, j ≤ i → (ys ++ [nextC N T a p])[j]? = some b → ys[j]? = some b := fun j b hj hb => by rwa [List.getElem?_append_left (by omega)] at hb
  refine ⟨?_, fun y hy => ?_, List.mem_append_left _ h.st, by simp; omega, fun j hj b hb q hq => List.mem_append_left _ (h.done j hj b (g j b (by omega) hb) q hq), fun b hb j hj q hq => ?_⟩
  · rw [List.nodup_append]
    exact ⟨h.nd, by simp, fun x hx y hy e => hm (by rw [List.mem_singleton.1 hy] at e; rw [← e]; exact hx)⟩
  · rcases List.mem_append.1 hy with hy | hy
    · exact h.r y hy
    · rw [List.mem_singleton.1 hy]; exact .step (h.r a (List.mem_of_getElem? ha)) (List.mem_of_getElem? hp)
  · have hb' := g i b (Nat.le_refl _) hb
    rcases Nat.lt_or_ge j k with h1 | h1
    · exact List.mem_append_left _ (h.part b hb' j h1 q hq)
    · obtain rfl : j = k := by omega
      rw [ha] at hb'
      rw [hp] at hq
      obtain rfl := Option.some.inj hb'
      obtain rfl := Option.some.inj hq
      exact List.mem_append_right _ (by simp)
theorem BfI.next (h : BfI N T ps ys i ps.length) (hi : i < ys.length) : BfI N T ps ys (i + 1) 0 :=
  ⟨h.nd, h.r, h.st, hi, fun j hj b hb q hq => by
    rcases Nat.lt_or_ge j i with h1 | h1
    · exact h.done j h1 b hb q hq
    · obtain rfl : j = i := by omega
      obtain ⟨m, hm⟩ := List.getElem?_of_mem hq
      exact h.part b hb m (List.getElem?_eq_some_iff.1 hm).1 q hm, fun b _ j hj => by omega⟩
theorem BfI.fin (h : BfI N T (pairL N T) ys ys.length 0) (hl : ys.length ≤ 300) : allL N T = (sortC ys, 0) :=
  allL_done h.nd h.r hl h.st fun a ha p hp => by
    obtain ⟨j, hj⟩ := List.getElem?_of_mem ha
    exact h.done j (List.getElem?_eq_some_iff.1 hj).1 a hj p hp
theorem BfI.big (h : BfI N T ps ys i k) (hl : 300 < ys.length) : allL N T = ([], 3) := allL_big h.nd h.r hl
end
theorem any_eq (a : List Int) (ys : List (List Int)) : (ys.any fun b => decide (b = a)) = decide (a ∈ ys) := by
  rw [Bool.eq_iff_iff]
  simp
theorem pcC_up {ms : List Mp} (h : pcC 30 ms ≠ 0) : pcC 12 ms = pcC 30 ms := by
  unfold pcC at h ⊢
  split
  · rename_i h0
    rw [if_pos h0] at h
    split at h
    · rw [if_pos (by omega), if_pos (by omega)]
    · exact absurd rfl h
  · rfl
theorem pcC_le {ms : List Mp} (h : pcC 30 ms = 0) : pcC 12 ms = if 12 < (elsOf ms).length then 3 else 0 := by
  unfold pcC at h ⊢
  split
  · rfl
  · rename_i h0
    rw [if_neg h0] at h
    exact absurd h h0
set_option maxHeartbeats 4000000 in
/-- the closure -/
theorem AllCongruences1_p {bx N cA : Nat} {A : Option Addr} {a : List Int} {ws : List Sl} {w : World} (ha : SeeInts w A a) (la : a.length = N) (hN : N ≤ 300) (hws : ∀ s ∈ ws, SeeInts w s.A s.xs ∧ s.xs.length = N) (q : w.cell? ⟨bx, 0, none⟩ = some (.slice A N cA)) :
    PredR 56 #[.pointer (some ⟨bx, 0, none⟩)] (fun b => decide (b = a)) ws w := fun W s hsm hW => by
  obtain ⟨hs, hl⟩ := hws s hsm
  have q1 := bcell hW q
  have hb := hs.below hW
  have ha1 := ha.below hW
  obtain ⟨Ab, cb, b⟩ := s
  show Calls Tryz.prog 56 #[.slice Ab b.length cb, .pointer (some ⟨bx, 0, none⟩)] W fun e w' => e = .returned (.bool (decide (b = a))) ∧ Below W.heap.size W w'
  replace hb : SeeInts W Ab b := hb
  replace hl : b.length = N := hl
  clear hs hsm hws ha q
  have hEQ := EqualI_c Ab A cb cA b a W hb ha1 (by omega)
  rw [hl, la] at hEQ
  rw [hl]
  clear hl la hb ha1
  generalize decide (b = a) = r at *
  have HEQ := Lib.hid hEQ
  clear hEQ
  go_enter Tryz.func56, Tryz.ntmps56
  go_wp2_with fail
  refine HEQ.out.mono ?_
  rintro e w1 ⟨rfl, hb1⟩
  go_wp2
  go_returns
  exact ⟨rfl, hb1⟩
set_option maxHeartbeats 16000000 in
set_option maxRecDepth 100000 in
theorem implAllCongruences_l {A : Option Addr} {c : Nat} {ms : List Mp} {w : World} (h : SeeMaps w A ms) (hn : ms.length ≤ 2097152) (hA : NilOk A c) :
    Calls Tryz.prog 19 #[.slice A ms.length c] w fun e w' => ∃ v, e = .returned (.tuple #[v, .int .i64 (RAllCongruences ms).2]) ∧ OwnSS w' w.heap.size v (RAllCongruences ms).1 ∧ Below w.heap.size w w' := by
  have hpc := paired_c (c := c) h hn hA
  have HPC := Lib.hid hpc
  obtain ⟨r, hr⟩ : ∃ r, r = RAllCongruences ms := ⟨_, rfl⟩
  rw [← hr]
  have HR := Lib.hid hr
  clear hpc hr h hA
  go_enter Tryz.func19, Tryz.ntmps19
  go_wp2_with fail
  refine HPC.out.mono ?_
  rintro e w1 hpost
  rcases hpost with ⟨hc, rfl, hb1⟩ | ⟨hc, v, rfl, own, hb1⟩
  · have E1 := Lib.hid (show r = ([], pcC 30 ms) by rw [HR.out]; unfold RAllCongruences; rw [pcC_up hc, if_neg hc])
    have d : (pcC 30 ms != 0) = true := bne_iff_ne.2 hc
    clear hc
    go_wp2
    go_returns
    rw [E1.out]
    exact ⟨_, rfl, OwnSS.nil _ _, hb1⟩
  · have htr := TabR.of hc
    have hok := htr.tab
    have hpos := htr.pos
    have hpcl := pcC_le hc
    obtain ⟨A1, c1, rfl, _⟩ := own.see
    have htab := own.tab
    rw [tabOf_length]
    by_cases hle : 12 < (elsOf ms).length
    · rw [if_pos hle] at hpcl
      have E1 := Lib.hid (show r = ([], 3) by rw [HR.out]; unfold RAllCongruences; rw [hpcl, if_neg (by decide)])
      clear hc own HR htr hpcl hok htab
      generalize (elsOf ms).length = N at *
      have g0 : (12 : Int) < N := by omega
      go_wp2
      go_returns
      rw [E1.out]
      exact ⟨_, rfl, OwnSS.nil _ _, hb1⟩
    · rw [if_neg hle] at hpcl
      have E1 := Lib.hid (show r = allL (elsOf ms).length (mpl (elsOf ms)) by rw [HR.out]; unfold RAllCongruences; rw [hpcl, if_pos rfl])
      clear hc own HR htr hpcl
      generalize tabOf (elsOf ms) = rows at *
      generalize mpl (elsOf ms) = T at *
      generalize (elsOf ms).length = N at *
      have g0 : ¬ (12 : Int) < N := by omega
      have HBP := Lib.hid (byPairs_c (c := c1) hok hpos (by omega) htab)
      have HPT := Lib.hid (fun W => pointsN_c N W (by omega))
      have HJ := Lib.hid (fun (W : World) (hW : Below w1.heap.size w1 W) (B C : Option Addr) (d d' : Nat) (a b : List Int) (ha : SeeInts W B a) (la : a.length = N) (hb : SeeInts W C b) (lb : b.length = N) => join_c (c := c1) (d := d) (d' := d') hok hpos (by omega) (htab.below hW) ha la hb lb)
      have HPO := Lib.hid hpos
      have HLE := Lib.hid hle
      clear hok htab hpos hle
      go_wp2_with fail
      refine HBP.out.mono ?_
      rintro e w2 ⟨v2, rfl, own2, hb2⟩
      have hpl := pairL_le (N := N) (T := T) (by have := HLE.out; omega)
      have hpcan := pairL_can (N := N) (T := T)
      obtain ⟨ps, h1, h2, h3, h4⟩ := own2.ex
      obtain ⟨A2, c2, rfl, gat⟩ := h1.at_
      have hb12 := btrans hb1 hb2
      have hls : ∀ s ∈ ps, SeeInts w2 s.A s.xs ∧ s.xs.length = N := fun s hs => ⟨(h2 s hs).see', (hpcan _ (by rw [← h4]; exact List.mem_map.2 ⟨s, hs, rfl⟩)).1⟩
      have hwl : ps.length ≤ 900 := by rw [← h4, List.length_map] at hpl; exact hpl
      have HLS := Lib.hid hls
      have HS := Lib.hid gat
      have HP4 := Lib.hid h4
      clear hls gat h1 h2 h3 h4 own2 hpl hpcan HBP
      have HPT2 := Lib.hid (HPT.out w2)
      go_wp2_with fail
      refine HPT2.out.mono ?_
      rintro e w3 ⟨v3, rfl, own3, hb3⟩
      obtain ⟨g3, c3, rfl⟩ := own3.some_ (List.length_pos_iff.1 (by rw [idL_length]; exact HPO.out))
      rw [idL_length]
      have hb13 := btrans hb12 hb3
      have hb23 := hb3
      have k4 := kbelow w3 (.cells #[.slice (some ⟨g3, 0, none⟩) N c3] 38)
      have own0 : OwnSS (w3.alloc (.cells #[.slice (some ⟨g3, 0, none⟩) N c3] 38)) w2.heap.size (.slice (some ⟨w3.heap.size, 0, none⟩) 1 1) [idL N] :=
        ⟨[⟨some ⟨g3, 0, none⟩, c3, idL N⟩], by have := OwnSls.one w3 w2.heap.size hb3.size ⟨some ⟨g3, 0, none⟩, c3, idL N⟩; rw [show (Sl.mk (some ⟨g3, 0, none⟩) c3 (idL N)).xs.length = N from idL_length N] at this; exact this, fun s hs => by rw [List.mem_singleton.1 hs]; exact own3.below k4, by simp, rfl⟩
      clear own3
      obtain ⟨W4, hW4⟩ : ∃ W4, W4 = w3.alloc (.cells #[.slice (some ⟨g3, 0, none⟩) N c3] 38) := ⟨_, rfl⟩
      rw [← hW4] at k4 own0
      have hb24 := btrans hb23 k4
      have hb14 := btrans hb12 hb24
      have z12 := hb2.size
      have HB2 := Lib.hid hb2
      go_upto_region 8 with fail
      rw [← hW4]
      clear hW4
      go_wp2
      go_loopw [8, 7] (fun iv v wr => ∃ (i : Nat) (ys : List (List Int)), iv = .int .i64 i ∧ OwnSS wr w2.heap.size v ys ∧ Hid (BfI N T (pairL N T) ys i 0) ∧ ys.length ≤ 300 ∧ Below w2.heap.size w2 wr) (fun iv _ _ => 301 - (intOf iv).toNat)
      case atStart => exact ⟨0, _, rfl, own0, Lib.hid BfI.start, by simp, hb24⟩
      case round =>
        clear own0 hb3 hb13 hb23 k4 hb24 hb14
        obtain ⟨i, ys, rfl, own, bf, hyl, hb⟩ := hrel
        have i0 : (0 : Int) ≤ i := by omega
        obtain ⟨Ao, co, rfl, _⟩ := own.see
        by_cases hil : i < ys.length
        · have i1 : (i : Int) < ys.length := by omega
          go_wp2
          go_loopw [39, 7] (fun kv v wr => ∃ (k : Nat) (zs : List (List Int)), k ≤ ps.length ∧ kv = .int .i64 k ∧ OwnSS wr w2.heap.size v zs ∧ Hid (BfI N T (pairL N T) zs i k) ∧ i < zs.length ∧ zs.length ≤ 300 ∧ Below w2.heap.size w2 wr) (fun kv _ _ => ps.length - (intOf kv).toNat)
          case atStart => exact ⟨0, ys, Nat.zero_le _, rfl, own, bf, hil, hyl, hb⟩
          case round =>
            clear own bf hyl hb hil i1
            obtain ⟨k, zs, hk, rfl, own, bf, hil, hzl, hb⟩ := hrel
            have k0 : (0 : Int) ≤ k := by omega
            obtain ⟨ws, h1, h2, h3, h4⟩ := own.ex
            obtain ⟨Aw, cw, rfl, gw⟩ := h1.at_
            have hw1 : ws.length ≤ zs.length := by rw [← h4, List.length_map]; exact Nat.le_refl _
            have hw2 : zs.length ≤ ws.length := by rw [← h4, List.length_map]; exact Nat.le_refl _
            by_cases hlt : k < ps.length
            · have k1 : (k : Int) < ps.length := by omega
              obtain ⟨s, hs⟩ := el hlt
              obtain ⟨b2, rfl, gc⟩ := HS.out k s hs
              have q1 := bcell hb gc
              have hsm := List.mem_of_getElem? hs
              have hsl := (HLS.out s hsm).2
              unfold Sl.v at q1
              rw [hsl] at q1
              have i1 : (i : Int) < ws.length := by omega
              obtain ⟨t, htk⟩ := el (xs := ws) (k := i) (by omega)
              obtain ⟨b3, rfl, gt⟩ := gw i t htk
              have hti : zs[i]? = some t.xs := by rw [← h4, List.getElem?_map, htk]; rfl
              have htl : t.xs.length = N := (bf.out.r _ (List.mem_of_getElem? hti)).can.1
              unfold Sl.v at gt
              rw [htl] at gt
              have hpk : (pairL N T)[k]? = some s.xs := by rw [← HP4.out, List.getElem?_map, hs]; rfl
              have hjn := HJ.out wr (btrans HB2.out hb) t.A s.A t.c s.c t.xs s.xs (h2 t (List.mem_of_getElem? htk)).see' htl ((HLS.out s hsm).1.below hb) hsl
              obtain ⟨nx, hnx⟩ : ∃ nx, nx = nextC N T t.xs s.xs := ⟨_, rfl⟩
              rw [show genL N T true (orR t.xs s.xs) = nx from hnx.symm] at hjn
              have hnl : nx.length = N := by rw [hnx]; exact (genL_can _).1
              have HLT := Lib.hid (fun u (hu : u ∈ ws) => (bf.out.r _ (by rw [← h4]; exact List.mem_map.2 ⟨u, hu, rfl⟩)).can.1)
              have HI := Lib.hid (⟨hti, hpk, hnx⟩ : zs[i]? = some t.xs ∧ (pairL N T)[k]? = some s.xs ∧ nx = nextC N T t.xs s.xs)
              have HJN := Lib.hid hjn
              have HNL := Lib.hid hnl
              have H1 := Lib.hid h1
              have H2 := Lib.hid h2
              have H3 := Lib.hid h3
              have H4 := Lib.hid h4
              clear hjn hti hpk hnx hnl gw gc own hs htk h1 h2 h3 h4
              go_wp2_with fail
              refine HJN.out.mono ?_
              rintro e w5 ⟨v5, rfl, own5, hb5⟩
              clear HJN
              obtain ⟨A5, c5, rfl, _⟩ := own5.see
              rw [HNL.out]
              have k6 := kbelow w5 (.cells #[.slice A5 N c5] 38)
              have qb : (w5.alloc (.cells #[.slice A5 N c5] 38)).cell? ⟨w5.heap.size, 0, none⟩ = some (.slice A5 N c5) := by simp [go_sem]
              obtain ⟨W6, hW6⟩ : ∃ W6, W6 = w5.alloc (.cells #[.slice A5 N c5] 38) := ⟨_, rfl⟩
              rw [← hW6] at k6 qb
              have hb56 := btrans hb5 k6
              have h16 := H1.out.below hb56
              have hcf := ContainsFuncR_c 56 #[.pointer (some ⟨w5.heap.size, 0, none⟩)] (fun b => decide (b = nx)) (enters_of Tryz.func56 (by kernel_rfl) rfl) (some ⟨b3, 0, none⟩) cw ws W6 h16.seeA (by omega)
                (AllCongruences1_p (own5.see'.below k6) HNL.out (by have := HLE.out; omega) (fun u hu => ⟨(H2.out u hu).see'.below hb56, HLT.out u hu⟩) qb)
              rw [H4.out, any_eq] at hcf
              have own6 := own5.below k6
              go_upto_region 15 with fail
              rw [← hW6]
              clear hW6
              have k7' := k6.size
              by_cases hin : nx ∈ zs
              · rw [decide_eq_true hin] at hcf
                have HCF := Lib.hid hcf
                have HBF := Lib.hid (bf.out.keep HI.out.1 HI.out.2.1 (HI.out.2.2 ▸ hin))
                have g3 : ¬ (300 : Int) < ws.length := by omega
                clear hcf hin bf own6 qb
                go_wp2_with fail
                refine HCF.out.mono ?_
                rintro e w7 ⟨rfl, hb7⟩
                have hb57 := btrans hb56 hb7
                go_wp2
                go_roundw
                case rel => exact ⟨k + 1, zs, by omega, by go_num, ⟨ws, H1.out.below hb57, H2.out.below hb57, H3.out, H4.out⟩, HBF, hil, hzl, btrans hb hb57⟩
                case measure => simp [intOf]; omega
              · rw [decide_eq_false hin] at hcf
                have HCF := Lib.hid hcf
                have hbf := bf.out.push HI.out.1 HI.out.2.1 (by rw [← HI.out.2.2]; exact hin)
                rw [← HI.out.2.2] at hbf
                have HBF := Lib.hid hbf
                clear hcf hin bf hbf
                go_wp2_with fail
                refine HCF.out.mono ?_
                rintro e w7 ⟨rfl, hb7⟩
                have hb57 := btrans hb56 hb7
                have q7 := bcell hb7 qb
                have k8 := kbelow w7 (.cells #[.slice A5 N c5] 38)
                have hb58 := btrans hb57 k8
                have h18 := H1.out.below hb58
                have own8 := (own6.below hb7).below k8
                have hz8 := (btrans hb hb58).size
                have hbz := hb12.size
                clear HCF qb
                by_cases hbig : 300 < ws.length + 1
                · have hL9 : ∃ n9 : Nat, (ws ++ [(⟨A5, c5, nx⟩ : Sl)]).length = n9 ∧ (300 : Int) < n9 := ⟨_, rfl, by simp; omega⟩
                  have HLA := Lib.hid (HBF.out.big (by rw [List.length_append, List.length_singleton]; omega))
                  clear HBF
                  go_wp2_with (at_builtin; go_must (refine wpList_push_sl _ rfl (.tmp 54) (.tmp 56) rfl w2.heap.size (.slice (some ⟨b3, 0, none⟩) ws.length cw) ws rfl h18 ⟨w7.heap.size, 0, none⟩ ⟨A5, c5, nx⟩ rfl (by have := HNL.out; simp [go_sem, this]) (by omega) (by omega) ?_; intro v9 w9 hown9 hgrow9 hv9; have h9 := hown9.at_; obtain ⟨A9, c9, rfl, _⟩ := h9; obtain ⟨n9, hn9, g9⟩ := hL9; rw [hn9]))
                  have hb9 : Below w2.heap.size w2 w9 := (btrans hb hb58).grown hgrow9 hz8 (fun j hj => (h18.lt j hj).1)
                  go_returns
                  rw [E1.out, HLA.out]
                  exact ⟨_, rfl, OwnSS.nil _ _, btrans hb12 hb9⟩
                · have hL9 : ∃ n9 : Nat, (ws ++ [(⟨A5, c5, nx⟩ : Sl)]).length = n9 ∧ ¬ (300 : Int) < n9 := ⟨_, rfl, by simp; omega⟩
                  go_wp2_with (at_builtin; go_must (refine wpList_push_sl _ rfl (.tmp 54) (.tmp 56) rfl w2.heap.size (.slice (some ⟨b3, 0, none⟩) ws.length cw) ws rfl h18 ⟨w7.heap.size, 0, none⟩ ⟨A5, c5, nx⟩ rfl (by have := HNL.out; simp [go_sem, this]) (by omega) (by omega) ?_; intro v9 w9 hown9 hgrow9 hv9; have h9 := hown9.at_; obtain ⟨A9, c9, rfl, _⟩ := h9; obtain ⟨n9, hn9, g9⟩ := hL9; rw [hn9]))
                  have hb9 : Below w2.heap.size w2 w9 := (btrans hb hb58).grown hgrow9 hz8 (fun j hj => (h18.lt j hj).1)
                  have hss := OwnSS.push (s := ⟨A5, c5, nx⟩) H1.out H2.out H3.out H4.out hb58 (OwnInts.mono own8 hb.size) (fun q hq => (own5.lt q hq).1) hgrow9 hown9
                  go_roundw
                  case rel => exact ⟨k + 1, zs ++ [nx], by omega, by go_num, by rw [← hn9]; exact hss, HBF, by rw [List.length_append]; omega, by rw [List.length_append, List.length_singleton]; omega, hb9⟩
                  case measure => simp [intOf]; omega
            · have ek : k = ps.length := by omega
              subst ek
              have nlt : ¬ (ps.length : Int) < ps.length := by omega
              have HO := Lib.hid own
              have HBF := Lib.hid (show BfI N T (pairL N T) zs (i + 1) 0 from BfI.next (by have := bf.out; rw [show (pairL N T).length = ps.length by rw [← HP4.out, List.length_map]]; exact this) hil)
              clear own h1 h2 h3 h4 gw hlt
              go_wp2
              go_roundw
              case rel => exact ⟨i + 1, zs, by go_num, HO.out, HBF, hzl, hb⟩
              case measure => simp [intOf]; omega
        · have ei : i = ys.length := by have := bf.out.le; omega
          subst ei
          have nlt : ¬ (ys.length : Int) < ys.length := by omega
          have HLA := Lib.hid (bf.out.fin hyl)
          have hcn : ∀ y ∈ ys, IsCan y N := fun y hy => (bf.out.r y hy).can
          have hne : ys ≠ [] := by intro e; have := bf.out.st; rw [e] at this; cases this
          obtain ⟨ws, h1, h2, h3, h4⟩ := own.ex
          have hwl2 : ws.length ≤ ys.length := by rw [← h4, List.length_map]; exact Nat.le_refl _
          have hio := inOrder_c (N := N) wr w2.heap.size _ ws h1 h2 h3 (fun e => absurd (by rw [← h4, e]; rfl) hne) (by omega) (fun s hs => hcn _ (by rw [← h4]; exact List.mem_map.2 ⟨s, hs, rfl⟩)) HPO.out (by have := HLE.out; omega)
          rw [h4] at hio
          have HIO := Lib.hid hio
          clear hio h1 h2 h3 h4 own bf hcn hne
          go_wp2_with fail
          refine HIO.out.mono ?_
          rintro e w9 ⟨v9, rfl, own9, hk9⟩
          obtain ⟨A9, c9, rfl, _⟩ := own9.see
          have HO2 := Lib.hid own9
          clear own9
          go_wp2
          go_returns
          rw [E1.out, HLA.out]
          exact ⟨_, rfl, HO2.out.mono hb12.size, btrans hb12 (hb.trans (hk9.below hb.size (fun k hk => hk)))⟩
/-! 'AllCongruences' of the reference: joins from a stack, kept in order. -/
def valLen : Value → Nat
  | .slice _ n _ => n
  | _ => 0
/-- all joins of a are there -/
def ClosC (N : Nat) (T : Nat → Nat → Nat) (ys : List (List Int)) (a : List Int) : Prop := ∀ p ∈ pairL N T, nextC N T a p ∈ ys
/-- the list and the stack between the rounds -/
structure StO (N : Nat) (T : Nat → Nat → Nat) (ys ss : List (List Int)) : Prop where
  asc : ys.Pairwise ltC
  r : ∀ y ∈ ys, RchC N T y
  st : idL N ∈ ys
  sub : ∀ s ∈ ss, s ∈ ys
  done : ∀ a ∈ ys, a ∈ ss ∨ ClosC N T ys a
/-- while own is joined with the k-th one -/
structure StJ (N : Nat) (T : Nat → Nat → Nat) (own : List Int) (ys ss : List (List Int)) (k : Nat) : Prop where
  asc : ys.Pairwise ltC
  r : ∀ y ∈ ys, RchC N T y
  st : idL N ∈ ys
  sub : ∀ s ∈ ss, s ∈ ys
  o : own ∈ ys
  done : ∀ a ∈ ys, a ∈ ss ∨ a = own ∨ ClosC N T ys a
  part : ∀ j, j < k → ∀ p, (pairL N T)[j]? = some p → nextC N T own p ∈ ys
section
variable {N : Nat} {T : Nat → Nat → Nat} {ys ss : List (List Int)} {own p : List Int} {k : Nat}
theorem StO.start : StO N T [idL N] [idL N] :=
  ⟨by simp, fun y hy => by rw [List.mem_singleton.1 hy]; exact .start, by simp, fun s hs => hs, fun a ha => .inl ha⟩
theorem StO.pop (h : StO N T ys (ss ++ [own])) : StJ N T own ys ss 0 :=
  ⟨h.asc, h.r, h.st, fun s hs => h.sub s (List.mem_append_left _ hs), h.sub own (List.mem_append_right _ (by simp)), fun a ha => by
    rcases h.done a ha with h1 | h1
    · rcases List.mem_append.1 h1 with h2 | h2
      · exact .inl h2
      · exact .inr (.inl (List.mem_singleton.1 h2))
    · exact .inr (.inr h1), fun j hj => by omega⟩
theorem StJ.keep (h : StJ N T own ys ss k) (hp : (pairL N T)[k]? = some p) (hm : nextC N T own p ∈ ys) : StJ N T own ys ss (k + 1) :=
  ⟨h.asc, h.r, h.st, h.sub, h.o, h.done, fun j hj q hq => by
    rcases Nat.lt_or_ge j k with h1 | h1
    · exact h.part j h1 q hq
    · obtain rfl : j = k := by omega
      rw [hp] at hq
      obtain rfl := Option.some.inj hq
      exact hm⟩
theorem StJ.put (h : StJ N T own ys ss k) (hp : (pairL N T)[k]? = some p) (hm : nextC N T own p ∉ ys) : StJ N T own (insC ys (nextC N T own p)) (ss ++ [nextC N T own p]) (k + 1) := by
  have up : ∀ y ∈ ys, y ∈ insC ys (nextC N T own p) := fun y hy => mem_insC.2 (.inl hy)
  have hlen : ∀ y ∈ ys, y.length = N := fun y hy => (h.r y hy).can.1
  refine ⟨insC_asc hlen (genL_can _).1 h.asc, fun y hy => ?_, up _ h.st, fun s hs => ?_, up _ h.o, fun a ha => ?_, fun j hj q hq => ?_⟩
  · rcases mem_insC.1 hy with hy | rfl
    · exact h.r y hy
    · exact .step (h.r own h.o) (List.mem_of_getElem? hp)
  · rcases List.mem_append.1 hs with hs | hs
    · exact up _ (h.sub s hs)
    · exact mem_insC.2 (.inr (List.mem_singleton.1 hs))
  · rcases mem_insC.1 ha with ha | rfl
    · rcases h.done a ha with h1 | h1 | h1
      · exact .inl (List.mem_append_left _ h1)
      · exact .inr (.inl h1)
      · exact .inr (.inr fun q hq => up _ (h1 q hq))
    · exact .inl (List.mem_append_right _ (by simp))
  · rcases Nat.lt_or_ge j k with h1 | h1
    · exact up _ (h.part j h1 q hq)
    · obtain rfl : j = k := by omega
      rw [hp] at hq
      obtain rfl := Option.some.inj hq
      exact mem_insC.2 (.inr rfl)
theorem StJ.close (h : StJ N T own ys ss (pairL N T).length) : StO N T ys ss :=
  ⟨h.asc, h.r, h.st, h.sub, fun a ha => by
    rcases h.done a ha with h1 | rfl | h1
    · exact .inl h1
    · exact .inr fun q hq => by
        obtain ⟨m, hm⟩ := List.getElem?_of_mem hq
        exact h.part m (List.getElem?_eq_some_iff.1 hm).1 q hm
    · exact .inr h1⟩
theorem StO.fin (h : StO N T ys []) (hl : ys.length ≤ 300) : allL N T = (ys, 0) := allL_asc h.asc h.r hl h.st fun a ha => by
  rcases h.done a ha with h1 | h1
  · cases h1
  · exact h1
theorem StJ.big (h : StJ N T own ys ss k) (hl : 300 < ys.length) : allL N T = ([], 3) := allL_big (asc_nodup (N := N) (fun y hy => (h.r y hy).can.1) h.asc) h.r hl
theorem insC_len {l : List (List Int)} {x : List Int} (h : x ∉ l) : (insC l x).length = l.length + 1 := by
  unfold insC
  rw [if_neg h]
  have h1 : (l.filter fun y => decide (ltC y x)).length + (l.filter fun y => !decide (ltC y x)).length = l.length := by
    have : ∀ (p : List Int → Bool) (l : List (List Int)), (l.filter p).length + (l.filter fun y => !p y).length = l.length := fun p l => by
      induction l with
      | nil => rfl
      | cons y l ih => cases hp : p y <;> simp [hp] <;> omega
    exact this _ l
  rw [List.length_append, List.length_cons]
  omega
end
theorem OwnSS.growSl {w w' : World} {base base' g n c : Nat} {vals : List (List Int)} {v : Value} {ps : List Sl} (h : OwnSS w base (.slice (some ⟨g, 0, none⟩) n c) vals) (h' : OwnSls w base' v ps) (hg : w.grownBy w' v.ownBlock) (hne : v.ownBlock ≠ some g) : OwnSS w' base (.slice (some ⟨g, 0, none⟩) n c) vals := by
  obtain ⟨ws, h1, h2, h3, h4⟩ := h.ex
  exact ⟨ws, h1.grow hg (fun k hk => by
    simp [Value.ownBlock] at hk
    subst hk
    exact hne), h2.growSl h' hg, h3, h4⟩
set_option maxHeartbeats 16000000 in
set_option maxRecDepth 100000 in
theorem specAllCongruences_l {A : Option Addr} {c : Nat} {ms : List Mp} {w : World} (h : SeeMaps w A ms) (hn : ms.length ≤ 2097152) (hA : NilOk A c) :
    Calls Tryz.prog 18 #[.slice A ms.length c] w fun e w' => ∃ v, e = .returned (.tuple #[v, .int .i64 (RAllCongruences ms).2]) ∧ OwnSS w' w.heap.size v (RAllCongruences ms).1 ∧ Below w.heap.size w w' := by
  have hpc := l06Given_c (c := c) (most := 12) h hn (by omega)
  have HPC := Lib.hid hpc
  obtain ⟨r, hr⟩ : ∃ r, r = RAllCongruences ms := ⟨_, rfl⟩
  rw [← hr]
  have HR := Lib.hid hr
  clear hpc hr h hA
  go_enter Tryz.func18, Tryz.ntmps18
  go_wp2_with fail
  refine HPC.out.mono ?_
  rintro e w1 hpost
  rcases hpost with ⟨hc, rfl, hb1⟩ | ⟨hc, v, rfl, own, hb1⟩
  · have E1 := Lib.hid (show r = ([], pcC 12 ms) by rw [HR.out]; unfold RAllCongruences; rw [if_neg hc])
    have d : (pcC 12 ms != 0) = true := bne_iff_ne.2 hc
    clear hc
    go_wp2
    go_returns
    rw [E1.out]
    exact ⟨_, rfl, OwnSS.nil _ _, hb1⟩
  · have E1 := Lib.hid (show r = allL (elsOf ms).length (mpl (elsOf ms)) by rw [HR.out]; unfold RAllCongruences; rw [if_pos hc])
    have htr := TabR.of hc
    have hok := htr.tab
    have hpos := htr.pos
    have hle := htr.le
    obtain ⟨A1, c1, rfl, _⟩ := own.see
    have htab := own.tab
    rw [tabOf_length]
    clear hc own HR htr
    generalize tabOf (elsOf ms) = rows at *
    generalize mpl (elsOf ms) = T at *
    generalize (elsOf ms).length = N at *
    have HBP := Lib.hid (l06One_c (c := c1) hok hpos (by omega) htab)
    have HAP := Lib.hid (fun W => l06Apart_c N W (by omega))
    have HJ := Lib.hid (fun (W : World) (hW : Below w1.heap.size w1 W) (B C : Option Addr) (d d' : Nat) (a b : List Int) (ha : SeeInts W B a) (la : a.length = N) (hB : NilOk B d) (hb : SeeInts W C b) (lb : b.length = N) => l06Joined_c (c := c1) (d := d) (d' := d') hok hpos (by omega) (htab.below hW) ha la hB hb lb)
    have HPO := Lib.hid hpos
    have HLE := Lib.hid hle
    clear hok htab hpos hle
    go_wp2_with fail
    refine HBP.out.mono ?_
    rintro e w2 ⟨v2, rfl, own2, hb2⟩
    have hpl := pairL_le (N := N) (T := T) (by have := HLE.out; omega)
    have hpcan := pairL_can (N := N) (T := T)
    obtain ⟨ps, h1, h2, h3, h4⟩ := own2.ex
    obtain ⟨A2, c2, rfl, gat⟩ := h1.at_
    have hb12 := btrans hb1 hb2
    have hls : ∀ s ∈ ps, SeeInts w2 s.A s.xs ∧ s.xs.length = N := fun s hs => ⟨(h2 s hs).see', (hpcan _ (by rw [← h4]; exact List.mem_map.2 ⟨s, hs, rfl⟩)).1⟩
    have hwl : ps.length ≤ 900 := by rw [← h4, List.length_map] at hpl; exact hpl
    have HLS := Lib.hid hls
    have HS := Lib.hid gat
    have HP4 := Lib.hid h4
    clear hls gat h1 h2 h3 h4 own2 hpl hpcan HBP
    have HA2 := Lib.hid (HAP.out w2)
    go_wp2_with fail
    refine HA2.out.mono ?_
    rintro e w3 ⟨v3, rfl, own3, hb3⟩
    clear HA2
    obtain ⟨g3, c3, rfl⟩ := own3.some_ (List.length_pos_iff.1 (by rw [idL_length]; exact HPO.out))
    rw [idL_length]
    have hb13 := btrans hb12 hb3
    have k4 := kbelow w3 (.cells #[.slice (some ⟨g3, 0, none⟩) N c3] 38)
    have own0 : OwnSS (w3.alloc (.cells #[.slice (some ⟨g3, 0, none⟩) N c3] 38)) w2.heap.size (.slice (some ⟨w3.heap.size, 0, none⟩) 1 1) [idL N] :=
      ⟨[⟨some ⟨g3, 0, none⟩, c3, idL N⟩], by have := OwnSls.one w3 w2.heap.size hb3.size ⟨some ⟨g3, 0, none⟩, c3, idL N⟩; rw [show (Sl.mk (some ⟨g3, 0, none⟩) c3 (idL N)).xs.length = N from idL_length N] at this; exact this, fun s hs => by rw [List.mem_singleton.1 hs]; exact own3.below k4, by simp, rfl⟩
    clear own3
    obtain ⟨W4, hW4⟩ : ∃ W4, W4 = w3.alloc (.cells #[.slice (some ⟨g3, 0, none⟩) N c3] 38) := ⟨_, rfl⟩
    have zW4 : W4.heap.size = w3.heap.size + 1 := by rw [hW4, World.size_alloc]
    rw [← hW4] at k4 own0
    have hb14 := btrans hb13 k4
    have hb24 := btrans hb3 k4
    have HA3 := Lib.hid (HAP.out W4)
    go_upto_region 5 with fail
    rw [← hW4]
    clear hW4
    go_wp2_with fail
    refine HA3.out.mono ?_
    rintro e w5 ⟨v5, rfl, own5, hb5⟩
    clear HA3
    obtain ⟨g5, c5, rfl⟩ := own5.some_ (List.length_pos_iff.1 (by rw [idL_length]; exact HPO.out))
    rw [idL_length]
    have hb15 := btrans hb14 hb5
    have k6 := kbelow w5 (.cells #[.slice (some ⟨g5, 0, none⟩) N c5] 38)
    have st0 : OwnSls (w5.alloc (.cells #[.slice (some ⟨g5, 0, none⟩) N c5] 38)) w2.heap.size (.slice (some ⟨w5.heap.size, 0, none⟩) 1 1) [⟨some ⟨g5, 0, none⟩, c5, idL N⟩] := by
      have := OwnSls.one w5 w2.heap.size (btrans hb24 hb5).size ⟨some ⟨g5, 0, none⟩, c5, idL N⟩
      rw [show (Sl.mk (some ⟨g5, 0, none⟩) c5 (idL N)).xs.length = N from idL_length N] at this
      exact this
    have es0 : ElsOk (w5.alloc (.cells #[.slice (some ⟨g5, 0, none⟩) N c5] 38)) w2.heap.size [⟨some ⟨g5, 0, none⟩, c5, idL N⟩] := fun s hs => by rw [List.mem_singleton.1 hs]; exact (OwnInts.mono own5 hb24.size).below k6
    obtain ⟨W6, hW6⟩ : ∃ W6, W6 = w5.alloc (.cells #[.slice (some ⟨g5, 0, none⟩) N c5] 38) := ⟨_, rfl⟩
    rw [← hW6] at k6 st0 es0
    have hb46 := btrans hb5 k6
    have hb26 := btrans hb24 hb46
    have own6 := own0.below hb46
    have hne0 : w3.heap.size ≠ w5.heap.size := by have := hb5.size; omega
    have HB2 := Lib.hid hb2
    go_wp2
    rw [← hW6]
    clear hW6
    clear own5 own0
    go_loopw [7, 8] (fun ov sv wr => ∃ (go co gs n cs : Nat) (ys : List (List Int)) (ss : List Sl), ov = .slice (some ⟨go, 0, none⟩) ys.length co ∧ sv = .slice (some ⟨gs, 0, none⟩) n cs ∧ go ≠ gs ∧ OwnSS wr w2.heap.size (.slice (some ⟨go, 0, none⟩) ys.length co) ys ∧ OwnSls wr w2.heap.size (.slice (some ⟨gs, 0, none⟩) n cs) ss ∧ ElsOk wr w2.heap.size ss ∧ Hid (StO N T ys (ss.map Sl.xs)) ∧ ys.length ≤ 300 ∧ n + 2 * (301 - ys.length) ≤ 602 ∧ Below w2.heap.size w2 wr) (fun ov sv _ => valLen sv + 2 * (301 - valLen ov))
    case atStart => exact ⟨_, _, _, _, _, [idL N], _, rfl, rfl, hne0, own6, st0, es0, Lib.hid StO.start, by simp, by simp, hb26⟩
    case round =>
      clear own6 st0 es0 hne0 hb26 hb46 k6 hb15 hb5 hb24 hb14 k4 hb13 hb3
      obtain ⟨go, co, gs, n, cs, ys, ss, rfl, rfl, hne, own, os, es, so, hyl, hme, hb⟩ := hrel
      have hnl : n = ss.length := own_slice_len (show World.ownsRow _ _ _ _ (.slice (some ⟨gs, 0, none⟩) n cs) _ _ from os)
      rcases Nat.eq_zero_or_pos n with rfl | hn0
      · have hss : ss = [] := List.eq_nil_of_length_eq_zero hnl.symm
        subst hss
        have HLA := Lib.hid (so.out.fin hyl)
        have HO := Lib.hid own
        clear own os es so hnl
        go_wp2
        go_returns
        rw [E1.out, HLA.out]
        exact ⟨_, rfl, HO.out.mono hb12.size, btrans hb12 hb⟩
      · obtain ⟨m, rfl⟩ : ∃ m, n = m + 1 := ⟨n - 1, by omega⟩
        obtain ⟨nn, hnn⟩ : ∃ nn, nn = m + 1 := ⟨_, rfl⟩
        rw [← hnn] at os hnl ⊢
        have hcap : nn ≤ cs := by
          rcases os.2 with ⟨h2', _⟩ | ⟨g', cap, cur, h2', _, _, h3', _⟩
          · cases h2'
          · simp only [Value.slice.injEq] at h2'
            omega
        obtain ⟨t, htk⟩ := el (xs := ss) (k := m) (by omega)
        have hsp : ss = ss.take m ++ [t] := by
          have := List.take_append_drop m ss
          rw [List.drop_eq_getElem_cons (by omega), List.drop_eq_nil_of_le (by omega)] at this
          rw [List.getElem?_eq_getElem (by omega)] at htk
          rw [← Option.some.inj htk]
          exact this.symm
        have qt := os.cell htk
        have htm := List.mem_of_getElem? htk
        have hty : t.xs ∈ ys := so.out.sub _ (List.mem_map.2 ⟨t, htm, rfl⟩)
        have htl : t.xs.length = N := (so.out.r _ hty).can.1
        rw [htl] at qt
        have ost := own_takeS os (k := m) (by omega)
        have sj : StJ N T t.xs ys ((ss.take m).map Sl.xs) 0 := by
          have := so.out
          rw [hsp, List.map_append] at this
          exact this.pop
        have est : ElsOk wr w2.heap.size (t :: ss.take m) := fun s hs => by
          rcases List.mem_cons.1 hs with rfl | hs
          · exact es _ htm
          · exact es _ (List.mem_of_mem_take hs)
        have SJ := Lib.hid sj
        have m0 : (0 : Int) ≤ m := by omega
        have m1 : (m : Int) < nn := by omega
        have m2 : (m : Int) ≤ cs := by omega
        have m3 : (0 : Int) < nn := by omega
        have m4 : (m : Int) ≤ nn := by omega
        have m5 : 0 < nn := by omega
        have wm : IntKind.i64.wrap ((nn : Int) - 1) = (m : Int) := by rw [IntKind.wrap_i64]; omega
        have HSP := Lib.hid hsp
        clear sj so hsp es htk htm hty os
        obtain ⟨M0, hM0⟩ : ∃ M0, M0 = nn + 2 * (301 - ys.length) := ⟨_, rfl⟩
        have HM0 := Lib.hid hM0
        have HNN := Lib.hid hnn
        have HM6 := Lib.hid (show M0 ≤ 602 by omega)
        have HTL := Lib.hid htl
        generalize ss.take m = ss0 at *
        clear hnl hnn hM0 htl
        go_wp2
        go_loopw [10, 7, 8] (fun kv ov sv wr => ∃ (k go co gs m cs : Nat) (zs : List (List Int)) (qs : List Sl), k ≤ ps.length ∧ kv = .int .i64 k ∧ ov = .slice (some ⟨go, 0, none⟩) zs.length co ∧ sv = .slice (some ⟨gs, 0, none⟩) m cs ∧ go ≠ gs ∧ OwnSS wr w2.heap.size (.slice (some ⟨go, 0, none⟩) zs.length co) zs ∧ OwnSls wr w2.heap.size (.slice (some ⟨gs, 0, none⟩) m cs) qs ∧ ElsOk wr w2.heap.size (t :: qs) ∧ Hid (StJ N T t.xs zs (qs.map Sl.xs) k) ∧ zs.length ≤ 300 ∧ m + 2 * (301 - zs.length) < M0 ∧ Below w2.heap.size w2 wr) (fun kv _ _ _ => ps.length - (intOf kv).toNat)
        case atStart => exact ⟨0, go, co, gs, m, cs, ys, ss0, Nat.zero_le _, rfl, rfl, rfl, hne, own, ost, est, SJ, hyl, by have := HM0.out; have := HNN.out; omega, hb⟩
        case round =>
          clear own ost est SJ hyl hb hne qt hme m0 m1 m2 m3 m4 wm hcap hn0
          obtain ⟨k, go', co', gs', m', cs', zs, qs, hk, rfl, rfl, rfl, hne, own, ost, est, sj, hzl, hme, hb⟩ := hrel
          have k0 : (0 : Int) ≤ k := by omega
          by_cases hlt : k < ps.length
          · have k1 : (k : Int) < ps.length := by omega
            obtain ⟨s, hs⟩ := el hlt
            obtain ⟨b2, rfl, gc⟩ := HS.out k s hs
            have q1 := bcell hb gc
            have hsm := List.mem_of_getElem? hs
            have hsl := (HLS.out s hsm).2
            unfold Sl.v at q1
            rw [hsl] at q1
            have hpk : (pairL N T)[k]? = some s.xs := by rw [← HP4.out, List.getElem?_map, hs]; rfl
            have ot : OwnInts wr w2.heap.size (.slice t.A t.xs.length t.c) t.xs := est t (List.mem_cons_self ..)
            have hjn := HJ.out wr (btrans HB2.out hb) t.A s.A t.c s.c t.xs s.xs ot.see' HTL.out ot.nilok ((HLS.out s hsm).1.below hb) hsl
            obtain ⟨nx, hnx⟩ : ∃ nx, nx = nextC N T t.xs s.xs := ⟨_, rfl⟩
            rw [show genL N T true (orR t.xs s.xs) = nx from hnx.symm] at hjn
            have HNC := Lib.hid (show IsCan nx N by rw [hnx]; exact genL_can _)
            have HI := Lib.hid (⟨hpk, hnx⟩ : (pairL N T)[k]? = some s.xs ∧ nx = nextC N T t.xs s.xs)
            have HJN := Lib.hid hjn
            clear hjn hpk hnx gc hs ot hsl
            go_wp2_with fail
            refine HJN.out.mono ?_
            rintro e w4 ⟨v4, rfl, own4, hb4⟩
            clear HJN
            obtain ⟨A4, c4, rfl, _⟩ := own4.see
            rw [HNC.out.1]
            obtain ⟨ws, h1, h2, h3, h4⟩ := own.ex
            have hnl : zs.length = ws.length := by rw [← h4, List.length_map]
            have h1' : OwnSls w4 w2.heap.size (.slice (some ⟨go', 0, none⟩) ws.length co') ws := by
              have := h1.below hb4
              rw [hnl] at this
              exact this
            have hzn : ∀ y ∈ zs, IsCan y N := fun y hy => (sj.out.r y hy).can
            have hpt := l06Put_c (N := N) (base := w2.heap.size) (g := go') (c := co') (ws := ws) (s := ⟨A4, c4, nx⟩) w4 h1' (h2.below hb4) h3 (OwnInts.mono own4 hb.size) (fun u hu q hq hq' => by
              have x1 := (h2 u hu).lt q hq
              have x2 := own4.lt q hq'
              omega) (fun u hu => hzn _ (by rw [← h4]; exact List.mem_map.2 ⟨u, hu, rfl⟩)) HNC.out (by rw [h4]; exact sj.out.asc) (by omega) (btrans hb hb4).size HPO.out (by have := HLE.out; omega)
            rw [h4, ← hnl] at hpt
            have hgl := ost.lt gs' rfl
            have hzz := hb4.size
            by_cases hin : nx ∈ zs
            · simp only [decide_eq_true hin, Bool.not_true] at hpt
              have HPT := Lib.hid hpt
              have HSJ := Lib.hid (sj.out.keep HI.out.1 (HI.out.2 ▸ hin))
              have HO := Lib.hid own
              clear hpt hin sj h1 h1' h2 h3 h4 hnl hzn own4 own
              go_wp2_with fail
              refine HPT.out.mono ?_
              rintro e w5 ⟨g5, n5, c5, rfl, pr5, hb5⟩
              have hb45 := btrans hb4 hb5
              clear pr5 HPT
              go_wp2
              go_roundw
              case rel =>
                exact ⟨k + 1, go', co', gs', m', cs', zs, qs, by omega, by go_num, rfl, rfl, hne, HO.out.below hb45, ost.below hb45, est.below hb45, HSJ, hzl, hme, btrans hb hb45⟩
              case measure => simp [intOf]; omega
            · simp only [decide_eq_false hin, Bool.not_false] at hpt
              have HPT := Lib.hid hpt
              have hsj := sj.out.put HI.out.1 (by rw [← HI.out.2]; exact hin)
              rw [← HI.out.2] at hsj
              have HSJ := Lib.hid hsj
              have HIL := Lib.hid (insC_len hin)
              have HML := Lib.hid (own_slice_len (show World.ownsRow _ _ _ _ (.slice (some ⟨gs', 0, none⟩) m' cs') _ _ from ost))
              clear hpt hin sj hsj h1 h1' h2 h3 h4 hnl hzn own
              go_wp2_with fail
              refine HPT.out.mono ?_
              rintro e w5 ⟨g5, n5, c5, rfl, ⟨us, u1, u2, u3, u4, u5, u6⟩, hb5⟩
              clear HPT
              have hb45 := btrans hb4 hb5
              have hn5 : n5 = us.length := own_slice_len (show World.ownsRow _ _ _ _ (.slice (some ⟨g5, 0, none⟩) n5 c5) _ _ from u1)
              have hnu : us.length = (insC zs nx).length := by rw [← u4, List.length_map]
              have HN5 := Lib.hid (show n5 = (insC zs nx).length by omega)
              have hil := HIL.out
              have hn6 : n5 ≤ zs.length + 1 := by omega
              have hn7 : zs.length + 1 ≤ n5 := by omega
              have hg5 := u1.lt g5 rfl
              have hne5 : g5 ≠ gs' := by omega
              by_cases hbig : 300 < n5
              · have g9 : (300 : Int) < n5 := by omega
                have HLA := Lib.hid (HSJ.out.big (by have := HN5.out; omega))
                clear hn5 hnu hil u1 u2 u3 u4 u5 u6 own4
                go_wp2
                go_returns
                rw [E1.out, HLA.out]
                exact ⟨_, rfl, OwnSS.nil _ _, btrans hb12 (btrans hb hb45)⟩
              · have g9 : ¬ (300 : Int) < n5 := by omega
                have k6 := kbelow w5 (.cells #[.slice A4 N c4] 38)
                have hb46 := btrans hb45 k6
                have os6 := ost.below hb46
                have hz6 := (btrans hb hb46).size
                have own6 : OwnSS (w5.alloc (.cells #[.slice A4 N c4] 38)) w2.heap.size (.slice (some ⟨g5, 0, none⟩) n5 c5) (insC zs nx) := OwnSS.below ⟨us, u1, u2, u3, u4⟩ k6
                have es6 : ElsOk (w5.alloc (.cells #[.slice A4 N c4] 38)) w2.heap.size (t :: (qs ++ [⟨A4, c4, nx⟩])) := ElsOk.snoc (est.below hb46) (OwnInts.mono ((own4.below hb5).below k6) hb.size)
                have hz5 : w5.heap.size ≤ (w5.alloc (.cells #[.slice A4 N c4] 38)).heap.size := k6.size
                have hqs : qs.length ≤ 1000 := by have := HM6.out; have := HML.out; omega
                have HO6 := Lib.hid own6
                clear hn5 hnu hil u1 u2 u3 u4 u5 u6 own4 own6
                go_wp2_with (at_builtin; go_must (refine wpList_push_sl _ rfl (.tmp 71) (.tmp 73) rfl w2.heap.size (.slice (some ⟨gs', 0, none⟩) m' cs') qs rfl os6 ⟨w5.heap.size, 0, none⟩ ⟨A4, c4, nx⟩ rfl (by have := HNC.out.1; simp [go_sem, this]) (by omega) (by omega) ?_; intro v9 w9 hown9 hgrow9 hv9; have h9 := hown9.some_ (by simp); obtain ⟨g9', c9, rfl⟩ := h9))
                have hb9 : Below w2.heap.size w2 w9 := (btrans hb hb46).grown hgrow9 hz6 (fun j hj => (os6.lt j hj).1)
                have ho9 := HO6.out.growSl os6 hgrow9 (by simp [Value.ownBlock]; exact Ne.symm hne5)
                have es9 := es6.growSl os6 hgrow9
                have hne9 : g5 ≠ g9' := by
                  simp [Value.ownBlock] at hv9
                  omega
                go_roundw
                case rel =>
                  refine ⟨k + 1, g5, c5, g9', _, c9, insC zs nx, qs ++ [⟨A4, c4, nx⟩], by omega, by go_num, by rw [HN5.out], rfl, hne9, by rw [← HN5.out]; exact ho9, by simpa only [List.length_append, List.length_singleton] using hown9, es9, Lib.hid (by have := HSJ.out; rw [List.map_append]; exact this), by have := HN5.out; omega, ?_, hb9⟩
                  have := HN5.out
                  have := HML.out
                  omega
                case measure => simp [intOf]; omega
          · have ek : k = ps.length := by omega
            subst ek
            have nlt : ¬ (ps.length : Int) < ps.length := by omega
            have HO := Lib.hid own
            have HSO := Lib.hid (show StO N T zs (qs.map Sl.xs) from StJ.close (by have := sj.out; rw [show (pairL N T).length = ps.length by rw [← HP4.out, List.length_map]]; exact this))
            clear own sj hlt
            go_wp2
            go_roundw
            case rel => exact ⟨go', co', gs', m', cs', zs, qs, rfl, rfl, hne, HO.out, ost, fun s hs => est s (List.mem_cons_of_mem _ hs), HSO, hzl, by have := HM6.out; omega, hb⟩
            case measure => simp [valLen]; have := HM0.out; omega
end Go.Proofs.YtjepmbjneccagaaGreat
