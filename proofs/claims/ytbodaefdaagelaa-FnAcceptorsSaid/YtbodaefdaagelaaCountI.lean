/- 'CountAccepted', the reference's. No condition. -/
import Derived.Test.YtbodaefdaagelaaWordsC
import Derived.Test.YtbodaefdaagelaaSls
import Derived.Test.YtbodaefdaagelaaMul
import Derived.StillTailTactics
namespace Go.Proofs.Ytbodaefdaagelaa
set_option linter.unusedSimpArgs false
set_option linter.unusedVariables false
set_option linter.unusedSectionVars false
open Go.RowKit
theorem OwnInts.zrow (w : World) (base : Nat) (hb : base ≤ w.heap.size) : OwnInts (w.alloc (.cells #[] 2)) base (.slice (some ⟨w.heap.size, 0, none⟩) 0 0) [] := own_mono (World.ownsRow_made w #[] 0 (Nat.le_refl _) (by decide) rfl) hb
/-- the variables of the loop over lengths -/
structure CntI (base : Nat) (now out : Value) (xs ys : List Int) (n : Nat) (w : World) : Prop where
  now_ : ∃ g, now = .slice (some ⟨g, 0, none⟩) n n ∧ OwnInts w base now xs ∧ out.ownBlock ≠ some g
  out_ : OwnInts w base out ys
set_option maxHeartbeats 8000000 in
set_option maxRecDepth 100000 in
theorem specCountAccepted_l {A A' : Option Addr} {c c' : Nat} {ms : List Mp} {f : Int} {ls : List Int} {k : Int} {w : World} (h : SeeMaps w A ms) (hn : ms.length ≤ 2097152) (_ : NilOk A c) (h' : SeeInts w A' ls) (hn' : ls.length ≤ 2097152) (_ : NilOk A' c') :
    Calls Try.prog 24 #[.agg #[.slice A ms.length c, .int .i64 f, .slice A' ls.length c'], .int .i64 k] w fun e w' => ∃ v, e = .returned (.tuple #[v, .int .i64 (RCountAccepted ms f ls k).2]) ∧ OwnInts w' w.heap.size v (RCountAccepted ms f ls k).1 ∧ Below w.heap.size w w' := by
  have k0 : Below w.heap.size w (w.alloc (Obj.cells #[Value.slice A ms.length c, .int .i64 f, Value.slice A' ls.length c'] 30)) := by go_grown
  obtain ⟨b0, b1, b2⟩ := AccBox w A A' ms.length c ls.length c' f 30
  obtain ⟨r, hr⟩ : ∃ r, r = RCountAccepted ms f ls k := ⟨_, rfl⟩
  rw [← hr]
  cases hacc : accB ms f ls
  · have e1 : r = ([], 1) := by rw [hr]; unfold RCountAccepted; rw [hacc]; rfl
    rw [e1]
    clear e1 hr
    go_enter Try.func24, Try.ntmps24
    go_wp2_with (go_at_call 58; go_must (refine (valB (l07Is_c _ _ _ _ ms f ls _ (h.below k0) hn (h'.below k0) hn') hacc).mono ?_); rintro e w2 ⟨rfl, hb2⟩)
    go_returns
    exact ⟨_, rfl, OwnInts.nil _ _, btrans k0 hb2⟩
  by_cases hk : ¬ (0 ≤ k ∧ k ≤ 20)
  · have e1 : r = ([], 2) := by rw [hr]; unfold RCountAccepted; rw [if_pos hacc, if_neg hk]
    rw [e1]
    have hin := inB_false hk
    clear e1 hr
    go_enter Try.func24, Try.ntmps24
    go_wp2_with (first | (go_at_call 58; go_must (refine (valB (l07Is_c _ _ _ _ ms f ls _ (h.below k0) hn (h'.below k0) hn') hacc).mono ?_); rintro e w2 ⟨rfl, hb2⟩) | (go_at_call 69; go_must (refine (valB (l01In_c _ _ _ _) hin).mono ?_); rintro e w3 ⟨rfl, hb3⟩))
    go_returns
    exact ⟨_, rfl, OwnInts.nil _ _, btrans k0 (btrans hb2 hb3)⟩
  replace hk := Decidable.not_not.1 hk
  have e1 : r = (countL ms f ls (ms.headD Mp.z).p (k.toNat + 1), 0) := by rw [hr]; unfold RCountAccepted; rw [if_pos hacc, if_pos hk]
  have ra := RightA.of hacc
  have hin := inB_true hk.1 hk.2
  obtain ⟨nN, hnN⟩ : ∃ nN : Nat, (ms.headD Mp.z).p = (nN : Int) := ⟨(ms.headD Mp.z).p.toNat, by have := ra.f0; have := ra.f1; omega⟩
  rw [hnN] at ra e1
  obtain ⟨K, rfl⟩ : ∃ K : Nat, k = (K : Int) := ⟨k.toNat, by omega⟩
  rw [Int.toNat_natCast] at e1
  have E1 := Lib.hid e1
  have K20 : K ≤ 20 := by omega
  have n5 := ra.list.bounds.2
  have f0 := ra.f0
  have f1 := ra.f1
  have hall := ra.list.all
  have hlr : ∀ x ∈ ls, 0 ≤ x ∧ x < (nN : Int) := fun x hx => by
    obtain ⟨j, hj, rfl⟩ := List.mem_iff_getElem.1 hx
    have := ra.set.range (List.getElem?_eq_getElem hj)
    omega
  obtain ⟨b, o, m0, rfl, hm0, g0⟩ := h.at_ ra.list.pos
  have hp0 : m0.p = (nN : Int) := (ra.list.all m0 (List.mem_of_getElem? hm0)).2
  have lpos : (0 : Int) < ms.length := by have := ra.list.pos; omega
  have q0 : w.cell? ⟨b, o, none⟩ = some (.int .i64 (nN : Int)) := by have := g0.h0; rw [hp0] at this; simpa using this
  have hs1 := h.below k0
  have hs2 := h'.below k0
  have HIS := Lib.hid (fun W hs hs' => valB (l07Is_c (some ⟨b, o, none⟩) A' c c' ms f ls W hs hn hs' hn') hacc)
  have HALL := Lib.hid hall
  have HLR := Lib.hid hlr
  have HSET := Lib.hid ra.set
  obtain ⟨ii, hii, hz0, hz1, hz2⟩ := info_parts info_int
  clear hr e1 hacc hk hnN hm0 g0 hp0 hall ra hlr
  go_enter Try.func24, Try.ntmps24
  go_wp2_with (first | (go_at_call 58; go_must (refine (HIS.out _ hs1 hs2).mono ?_); rintro e w1 ⟨rfl, hb1⟩) | (go_at_call 69; go_must (refine (valB (l01In_c _ _ _ _) hin).mono ?_); rintro e w2 ⟨rfl, hb2⟩; have hb := btrans hb1 hb2; have p0 := b0 ⟨w2, hb⟩; have p1 := b1 ⟨w2, hb⟩; have p2 := b2 ⟨w2, hb⟩; have q1 := bcell (btrans k0 hb) q0) | (at_make; refine wpList_make_full _ rfl _ _ 23 rfl w2.heap.size 2 ii _ 1 Try.underlying23 hii hz0 hz1 _ _ _ _ nN rfl rfl rfl rfl (by rw [hz2]; omega) (by unfold maxLen; omega) (Nat.le_refl _) ?_))
  intro w3 hown hg
  have hkb := btrans k0 (btrans hb1 hb2)
  have see := h.below hkb
  have see' := h'.below hkb
  have own3 : OwnInts w3 w2.heap.size (.slice (some ⟨w2.heap.size, 0, none⟩) nN nN) (List.replicate nN 0) := OwnInts.made (n := nN) (by rw [Nat.mul_one]; exact hown)
  have hb3 : Below w2.heap.size w2 w3 := (Below.refl _ _).grown hg (Nat.le_refl _) (fun k h => by cases h)
  have k3 := kbelow w3 (.cells #[] 2)
  have own4 := own3.below k3
  have hz3 : w2.heap.size < w3.heap.size := (own3.lt _ rfl).2
  have c4 := own4.at_ (k := f.toNat) (x := 0) (by rw [List.getElem?_replicate, if_pos (by omega)])
  have fr4 := own4.free
  have hb4 := btrans hb3 k3
  have P0 := bcell hb4 p0
  have P1 := bcell hb4 p1
  have own30 := own3.put f.toNat 1
  rw [← vl_z, vl_set _ (by omega) (by omega)] at own30
  have hb30 : Below w2.heap.size w2 (w3.setCell ⟨w2.heap.size, f.toNat, none⟩ (.int .i64 1)) := Below.setCell hb3 (Nat.le_refl _) _
  have own5 : OwnInts ((w3.setCell ⟨w2.heap.size, f.toNat, none⟩ (.int .i64 1)).alloc (.cells #[] 2)) w2.heap.size (.slice (some ⟨w2.heap.size, 0, none⟩) nN nN) (vl (nowV ms f nN 0) nN) := own30.below (kbelow _ _)
  have out5 := OwnInts.zrow (w3.setCell ⟨w2.heap.size, f.toNat, none⟩ (.int .i64 1)) w2.heap.size hb30.size
  have hb5 := btrans hb30 (kbelow _ (.cells #[] 2))
  have cnt5 : CntI w2.heap.size (.slice (some ⟨w2.heap.size, 0, none⟩) nN nN) (.slice (some ⟨w3.heap.size, 0, none⟩) 0 0) (vl (nowV ms f nN 0) nN) (countL ms f ls nN 0) nN ((w3.setCell ⟨w2.heap.size, f.toNat, none⟩ (.int .i64 1)).alloc (.cells #[] 2)) := ⟨⟨_, rfl, own5, by simp [Value.ownBlock]; omega⟩, by show OwnInts _ _ _ []; simpa using out5⟩
  clear hown hg own3 hs1 hs2 HIS b0 b1 b2 q0 own30 hb30
  clear own4 own5 out5 k3
  go_wp2
  clear c4 fr4 P0 P1
  go_loopw [8, 6, 7] (fun kv nowv outv wr => ∃ j : Nat, j ≤ K + 1 ∧ kv = .int .i64 j ∧ CntI w2.heap.size nowv outv (vl (nowV ms f nN j) nN) (countL ms f ls nN j) nN wr ∧ Below w2.heap.size w2 wr) (fun kv _ _ _ => K + 1 - (intOf kv).toNat)
  case atStart => exact ⟨0, by omega, rfl, cnt5, hb5⟩
  case round =>
    clear cnt5 hb5 hb4 hb3 hz3
    obtain ⟨j, hj, rfl, ⟨⟨g, rfl, own, hne⟩, out⟩, hb⟩ := hrel
    have hsn := countL_succ ms f ls nN j
    have HSN := Lib.hid hsn
    have hlen := countL_length ms f ls nN j
    have hnx : nowV ms f nN (j + 1) = nxtV ms (nowV ms f nN j) nN := rfl
    have HNX := Lib.hid hnx
    obtain ⟨ys, hys⟩ : ∃ ys, ys = countL ms f ls nN j := ⟨_, rfl⟩
    rw [← hys] at out HSN hlen
    have HYS := Lib.hid hys
    have HLEN := Lib.hid hlen
    clear hys hlen
    generalize nowV ms f nN j = now at *
    clear hsn hnx
    by_cases hlt : j ≤ K
    · obtain ⟨Ao, co, rfl, _⟩ := out.see
      have l1 : (j : Int) ≤ K := by omega
      go_wp2
      go_loopw [10, 9] (fun i s wr2 => ∃ t : Nat, t ≤ ls.length ∧ i = .int .i64 t ∧ s = .int .i64 (sumV now (ls.take t)) ∧ Below wr.heap.size wr wr2) (fun i _ _ => ls.length - (intOf i).toNat)
      case atStart => exact ⟨0, Nat.zero_le _, rfl, rfl, Below.refl _ _⟩
      case round =>
        obtain ⟨t, ht, rfl, rfl, hb6⟩ := hrel
        have own6 := own.below hb6
        have hb26 := btrans hb hb6
        have P2 := bcell hb26 p2
        by_cases hlt2 : t < ls.length
        · obtain ⟨b', o', x, rfl, hx, gx⟩ := (see'.below hb26).at_ hlt2
          have hxr := HLR.out x (List.mem_of_getElem? hx)
          have x0 := hxr.1
          have x1 := hxr.2
          have cx := own6.at_ (vl_at now (q := x.toNat) (n := nN) (by omega))
          have l2 : (0 : Int) ≤ t := by omega
          have l3 : (t : Int) < ls.length := by omega
          have hss := sumV_snoc hx now
          have HSS := Lib.hid hss
          clear hss hx hxr
          generalize sumV now (ls.take t) = s0 at *
          go_wp2
          go_roundw
          case rel => exact ⟨t + 1, by omega, by go_num, by rw [HSS.out]; rfl, hb6⟩
          case measure => simp [intOf]; omega
        · obtain rfl : t = ls.length := by omega
          rw [List.take_length] at *
          have out6 := out.below hb6
          have l2 : ¬ ((ls.length : Int) < ls.length) := by omega
          generalize sumV now ls = s0 at *
          go_wp2_with (first | (at_builtin; refine wpList_push_int _ rfl (.tmp 56) (.tmp 58) rfl w2.heap.size _ ys rfl (out6.below (kbelow _ _)) ⟨wr.heap.size, 0, none⟩ s0 rfl (by simp [go_sem]) (by have := HLEN.out; omega) (btrans hb26 (kbelow _ _)).size ?_; intro v7 w7 hown7 hg7 hv7) | (at_make; refine wpList_make_full _ rfl _ _ 23 rfl w7.heap.size 2 ii _ 1 Try.underlying23 hii hz0 hz1 _ _ _ _ nN rfl rfl rfl rfl (by rw [hz2]; omega) (by unfold maxLen; omega) (Nat.le_refl _) ?_))
          intro w8 hown8 hg8
          have hb7 : Below w2.heap.size w2 w7 := Below.grown (btrans hb26 (kbelow _ _)) hg7 (btrans hb26 (kbelow _ _)).size (fun q hq => (out6.lt q hq).1)
          have own7 := (own6.below (kbelow _ (.cells #[.int .i64 s0] 2))).grow hg7 (fun kk hk e => hne (by have e' : (Value.slice Ao ys.length co).ownBlock = some kk := e; rw [e']; exact (show some g = some kk from hk).symm))
          have nx8 : OwnInts w8 w7.heap.size (.slice (some ⟨w7.heap.size, 0, none⟩) nN nN) (vl (nxtV ms now 0) nN) := by
            show OwnInts w8 w7.heap.size (.slice (some ⟨w7.heap.size, 0, none⟩) nN nN) (vl Mp.z nN)
            rw [vl_z]
            exact OwnInts.made (n := nN) (by rw [Nat.mul_one]; exact hown8)
          have hb8 : Below w7.heap.size w7 w8 := (Below.refl _ _).grown hg8 (Nat.le_refl _) (fun k h => by cases h)
          clear hown8 hg8 hg7 own6 out6 own out hb6 hb26 hb P2
          obtain ⟨zs, hzs⟩ : ∃ zs, zs = ys ++ [s0] := ⟨_, rfl⟩
          rw [← hzs] at hown7 HSN
          clear hzs
          obtain ⟨A7, c7, rfl, _⟩ := hown7.see
          go_wp2
          go_loopw [12] (fun pv wr9 => ∃ p : Nat, p ≤ nN ∧ pv = .int .i64 p ∧ OwnInts wr9 w7.heap.size (.slice (some ⟨w7.heap.size, 0, none⟩) nN nN) (vl (nxtV ms now p) nN) ∧ Below w7.heap.size w7 wr9) (fun pv _ => nN - (intOf pv).toNat)
          case atStart => exact ⟨0, Nat.zero_le _, rfl, nx8, hb8⟩
          case round =>
            clear nx8 hb8
            obtain ⟨p, hp, rfl, nx9, hb9⟩ := hrel
            by_cases hlt3 : p < nN
            · have l4 : (p : Int) < nN := by omega
              have l5 : (0 : Int) ≤ p := by omega
              have hns := nxtV_succ ms now p
              have HNS := Lib.hid hns
              clear hns
              go_wp2
              go_loopw [13] (fun iv wr10 => ∃ i : Nat, i ≤ ms.length ∧ iv = .int .i64 i ∧ OwnInts wr10 w7.heap.size (.slice (some ⟨w7.heap.size, 0, none⟩) nN nN) (vl (rowV (ms.take i) p (now.to p) (nxtV ms now p)) nN) ∧ Below w7.heap.size w7 wr10) (fun iv _ => ms.length - (intOf iv).toNat)
              case atStart => exact ⟨0, Nat.zero_le _, rfl, nx9, hb9⟩
              case round =>
                clear nx9 hb9
                obtain ⟨i, hi, rfl, nx10, hb10⟩ := hrel
                have P0 := bcell (btrans hb7 hb10) p0
                by_cases hlt4 : i < ms.length
                · obtain ⟨b', o', m, e, hm, gm⟩ := (see.below (btrans hb7 hb10)).at_ hlt4
                  simp only [Option.some.injEq, Addr.mk.injEq, and_true] at e
                  obtain ⟨rfl, rfl⟩ := e
                  have hmt := (HALL.out m (List.mem_of_getElem? hm)).toR l4
                  have tm := gm.to (i := p) (by omega)
                  have hrs := rowV_snoc hm p (now.to p) (nxtV ms now p)
                  have HRS := Lib.hid hrs
                  have m0 := hmt.1
                  have m1 := hmt.2.1
                  have mq : (m.to p).toNat < nN := by omega
                  have l6 : (0 : Int) ≤ i := by omega
                  have l7 : (i : Int) < ms.length := by omega
                  have l8 : (p : Int) < 5 := by omega
                  generalize rowV (ms.take i) p (now.to p) (nxtV ms now p) = v at *
                  have cn := nx10.at_ (vl_at v mq)
                  have fn := nx10.free
                  have co_ := (own7.below hb10).at_ (vl_at now hlt3)
                  clear hrs hm gm hmt
                  go_wp2
                  go_still_tail 12, (by kernel_rfl)
                  change wpList _ _ _ _ _ wr.drew
                  have own10 : OwnInts ((wr.setCell ⟨w7.heap.size, (m.to p).toNat, none⟩ (.int .i64 (wrap64 (v.to (m.to p).toNat + now.to p)))).drew) w7.heap.size (.slice (some ⟨w7.heap.size, 0, none⟩) nN nN) (vl (addV v (m.to p).toNat (now.to p)) nN) := by
                    have := nx10.put (m.to p).toNat (wrap64 (v.to (m.to p).toNat + now.to p))
                    rw [vl_set _ mq (by omega)] at this
                    exact this
                  have hb11 : Below w7.heap.size w7 ((wr.setCell ⟨w7.heap.size, (m.to p).toNat, none⟩ (.int .i64 (wrap64 (v.to (m.to p).toNat + now.to p)))).drew) := Below.drew (Below.setCell hb10 (Nat.le_refl _) _)
                  go_wp2
                  go_roundw
                  case rel => exact ⟨i + 1, by omega, by go_num, by rw [HRS.out]; exact own10, hb11⟩
                  case measure => simp [intOf]; omega
                · obtain rfl : i = ms.length := by omega
                  rw [List.take_length] at nx10
                  go_wp2
                  go_roundw
                  case rel => exact ⟨p + 1, by omega, by go_num, by rw [HNS.out]; exact nx10, hb10⟩
                  case measure => simp [intOf]; omega
            · obtain rfl : p = nN := by omega
              have l4 : ¬ ((p : Int) < p) := by omega
              have out11 := hown7.below hb9
              have nz : w7.heap.size < wr.heap.size := (nx9.lt _ rfl).2
              have hno := fun q hq => (hown7.lt q hq).2
              go_wp2
              go_roundw
              case rel =>
                refine ⟨j + 1, by omega, by go_num, ⟨⟨w7.heap.size, rfl, ?_, fun e => absurd (hno _ e) (Nat.lt_irrefl _)⟩, ?_⟩, btrans hb7 hb9⟩
                · rw [HNX.out]; exact nx9.mono hb7.size
                · rw [HSN.out]; exact out11
              case measure => simp [intOf]; omega
    · obtain rfl : j = K + 1 := by omega
      have l1 : ¬ (((K + 1 : Nat) : Int) ≤ K) := by omega
      obtain ⟨Ao, co, rfl, _⟩ := out.see
      have e2 : r = (ys, 0) := by rw [E1.out, HYS.out]
      have E2 := Lib.hid e2
      clear e2
      go_wp2
      go_returns
      rw [E2.out]
      exact ⟨_, rfl, out.mono hkb.size, btrans hkb hb⟩
/-! 'CountAccepted', the program's. -/
/-- a variable in memory that holds five numbers -/
def ArrBox (w : World) (b : Nat) (m : Mp) : Prop := ∃ t, w.heap[b]? = some (.cells #[.int .i64 m.a, .int .i64 m.b, .int .i64 m.c, .int .i64 m.d, .int .i64 m.e] t (0, 0))
theorem ArrBox.lt {w : World} {b : Nat} {m : Mp} (h : ArrBox w b m) : b < w.heap.size := by
  obtain ⟨t, h⟩ := h
  exact (Array.getElem?_eq_some_iff.1 h).1
theorem ArrBox.below {w w1 : World} {b : Nat} {m : Mp} (h : ArrBox w b m) (hb : Below w.heap.size w w1) : ArrBox w1 b m := by
  have hl := h.lt
  obtain ⟨t, h⟩ := h
  exact ⟨t, (hb.block b hl).trans h⟩
theorem ArrBox.to {w : World} {b : Nat} {m : Mp} (h : ArrBox w b m) {i : Nat} (hi : i < 5) : w.cell? ⟨b, i, none⟩ = some (.int .i64 (m.to i)) := by
  obtain ⟨t, h⟩ := h
  rcases (by omega : i = 0 ∨ i = 1 ∨ i = 2 ∨ i = 3 ∨ i = 4) with rfl | rfl | rfl | rfl | rfl <;> (rw [cell_of_row w b _ _ t (0, 0) h]; rfl)
theorem ArrBox.cells {w : World} {b : Nat} {m : Mp} (h : ArrBox w b m) : w.cell? ⟨b, 0, none⟩ = some (.int .i64 m.a) ∧ w.cell? ⟨b, 1, none⟩ = some (.int .i64 m.b) ∧ w.cell? ⟨b, 2, none⟩ = some (.int .i64 m.c) ∧ w.cell? ⟨b, 3, none⟩ = some (.int .i64 m.d) ∧ w.cell? ⟨b, 4, none⟩ = some (.int .i64 m.e) :=
  ⟨h.to (i := 0) (by decide), h.to (i := 1) (by decide), h.to (i := 2) (by decide), h.to (i := 3) (by decide), h.to (i := 4) (by decide)⟩
theorem ArrBox.free {w : World} {b : Nat} {m : Mp} (h : ArrBox w b m) : ∀ j, w.frozen? ⟨b, j, none⟩ = false := fun j => by
  obtain ⟨t, h⟩ := h
  exact frozen_of_row w b j _ t h
theorem ArrBox.new {w : World} {b : Nat} (m : Mp) (t : TypeId) (hb : b = w.heap.size) : ArrBox (w.alloc (.cells #[.int .i64 m.a, .int .i64 m.b, .int .i64 m.c, .int .i64 m.d, .int .i64 m.e] t)) b m := by
  subst hb
  exact ⟨t, heap_alloc_new w _⟩
theorem ArrBox.set {w : World} {b : Nat} {m : Mp} (h : ArrBox w b m) {i : Nat} (hi : i < 5) (v : Int) : ArrBox (w.setCell ⟨b, i, none⟩ (.int .i64 v)) b (m.set i v) := by
  obtain ⟨t, h⟩ := h
  refine ⟨t, ?_⟩
  rw [heap_setCell_same w b i _ t _ h]
  rcases (by omega : i = 0 ∨ i = 1 ∨ i = 2 ∨ i = 3 ∨ i = 4) with rfl | rfl | rfl | rfl | rfl <;> rfl
theorem ArrBox.store {w : World} {b : Nat} {m : Mp} (h : ArrBox w b m) (n : Mp) : ArrBox (((((w.setCell ⟨b, 0, none⟩ (.int .i64 n.a)).setCell ⟨b, 1, none⟩ (.int .i64 n.b)).setCell ⟨b, 2, none⟩ (.int .i64 n.c)).setCell ⟨b, 3, none⟩ (.int .i64 n.d)).setCell ⟨b, 4, none⟩ (.int .i64 n.e)) b n := by
  obtain ⟨t, h⟩ := h
  have h0 := heap_setCell_same w b 0 _ t (.int .i64 n.a) h
  have h1 := heap_setCell_same _ b 1 _ t (.int .i64 n.b) h0
  have h2 := heap_setCell_same _ b 2 _ t (.int .i64 n.c) h1
  have h3 := heap_setCell_same _ b 3 _ t (.int .i64 n.d) h2
  have h4 := heap_setCell_same _ b 4 _ t (.int .i64 n.e) h3
  exact ⟨t, h4⟩
theorem ArrBox.newSet (w : World) (t : TypeId) {i : Nat} (hi : i < 5) (v : Int) : ArrBox (w.alloc (.cells (([.int .i64 0, .int .i64 0, .int .i64 0, .int .i64 0, .int .i64 0] : List Value).set i (.int .i64 v)).toArray t)) w.heap.size (Mp.z.set i v) := by
  rcases (by omega : i = 0 ∨ i = 1 ∨ i = 2 ∨ i = 3 ∨ i = 4) with rfl | rfl | rfl | rfl | rfl <;> exact ⟨t, heap_alloc_new w _⟩
theorem ArrBox.keep {S : Nat → Prop} {w w' : World} {b : Nat} {m : Mp} (h : ArrBox w b m) (hs : S b) (hk : Keep S w w') : ArrBox w' b m := by
  have hl := h.lt
  obtain ⟨t, h⟩ := h
  exact ⟨t, (hk.block b hl hs).trans h⟩
theorem MpN.to5 {m : Mp} {n : Int} (h : MpN m n) {p : Nat} (hp : p < 5) : 0 ≤ m.to p ∧ m.to p < 5 := by
  by_cases e : (p : Int) < n
  · have := h.toR e; omega
  · have h2 := h.2
    have := (h.1.2.2 p hp).2 (by omega)
    omega
set_option maxHeartbeats 8000000 in
set_option maxRecDepth 100000 in
theorem implCountAccepted_l {A A' : Option Addr} {c c' : Nat} {ms : List Mp} {f : Int} {ls : List Int} {k : Int} {w : World} (h : SeeMaps w A ms) (hn : ms.length ≤ 2097152) (hA : NilOk A c) (h' : SeeInts w A' ls) (hn' : ls.length ≤ 2097152) (_ : NilOk A' c') :
    Calls Try.prog 25 #[.agg #[.slice A ms.length c, .int .i64 f, .slice A' ls.length c'], .int .i64 k] w fun e w' => ∃ v, e = .returned (.tuple #[v, .int .i64 (RCountAccepted ms f ls k).2]) ∧ OwnInts w' w.heap.size v (RCountAccepted ms f ls k).1 ∧ Below w.heap.size w w' := by
  have k0 : Below w.heap.size w (w.alloc (Obj.cells #[Value.slice A ms.length c, .int .i64 f, Value.slice A' ls.length c'] 30)) := by go_grown
  obtain ⟨b0, b1, b2⟩ := AccBox w A A' ms.length c ls.length c' f 30
  obtain ⟨r, hr⟩ : ∃ r, r = RCountAccepted ms f ls k := ⟨_, rfl⟩
  rw [← hr]
  cases hacc : accB ms f ls
  · have e1 : r = ([], 1) := by rw [hr]; unfold RCountAccepted; rw [hacc]; rfl
    rw [e1]
    clear e1 hr
    go_enter Try.func25, Try.ntmps25
    go_wp2_with (go_at_call 18; go_must (refine (valB (IsAcceptor_c _ _ _ _ ms f ls _ (h.below k0) hn hA (h'.below k0) hn') hacc).mono ?_); rintro e w2 ⟨rfl, hb2⟩)
    go_returns
    exact ⟨_, rfl, OwnInts.nil _ _, btrans k0 hb2⟩
  by_cases hk : ¬ (0 ≤ k ∧ k ≤ 20)
  · have e1 : r = ([], 2) := by rw [hr]; unfold RCountAccepted; rw [if_pos hacc, if_neg hk]
    rw [e1]
    have hin := inB_false hk
    clear e1 hr
    go_enter Try.func25, Try.ntmps25
    go_wp2_with (first | (go_at_call 18; go_must (refine (valB (IsAcceptor_c _ _ _ _ ms f ls _ (h.below k0) hn hA (h'.below k0) hn') hacc).mono ?_); rintro e w2 ⟨rfl, hb2⟩) | (go_at_call 70; go_must (refine (valB (within_c _ _ _ _) hin).mono ?_); rintro e w3 ⟨rfl, hb3⟩))
    go_returns
    exact ⟨_, rfl, OwnInts.nil _ _, btrans k0 (btrans hb2 hb3)⟩
  replace hk := Decidable.not_not.1 hk
  have e1 : r = (countL ms f ls (ms.headD Mp.z).p (k.toNat + 1), 0) := by rw [hr]; unfold RCountAccepted; rw [if_pos hacc, if_pos hk]
  have ra := RightA.of hacc
  have hin := inB_true hk.1 hk.2
  obtain ⟨nN, hnN⟩ : ∃ nN : Nat, (ms.headD Mp.z).p = (nN : Int) := ⟨(ms.headD Mp.z).p.toNat, by have := ra.f0; have := ra.f1; omega⟩
  rw [hnN] at ra e1
  obtain ⟨K, rfl⟩ : ∃ K : Nat, k = (K : Int) := ⟨k.toNat, by omega⟩
  rw [Int.toNat_natCast] at e1
  have E1 := Lib.hid e1
  have K20 : K ≤ 20 := by omega
  have n5 := ra.list.bounds.2
  have f0 := ra.f0
  have f1 := ra.f1
  have f5 : f < 5 := by omega
  have hall := ra.list.all
  have hok := nowV_ok (ms := ms) hall f0 f1 n5
  have hfive := fun i => nxtV_five (ms := ms) (by omega) n5 hall (hok i)
  have hsum := fun i => sumI_all (nowV ms f nN i) ra.set n5
  have hs1 := h.below k0
  have hs2 := h'.below k0
  have HIS := Lib.hid (fun W hs hs' => valB (IsAcceptor_c A A' c c' ms f ls W hs hn hA hs' hn') hacc)
  have HALL := Lib.hid hall
  have HFIVE := Lib.hid hfive
  have HSUM := Lib.hid hsum
  have z2 : ∀ w2 : World, ArrBox (w2.alloc (.cells #[.int .i64 0, .int .i64 0, .int .i64 0, .int .i64 0, .int .i64 0] 65)) w2.heap.size Mp.z := fun w2 => ArrBox.new (w := w2) Mp.z 65 rfl
  have Z2 := Lib.hid z2
  clear hr e1 hacc hk hnN hall ra hok hfive hsum z2
  go_enter Try.func25, Try.ntmps25
  go_wp2_with (first | (go_at_call 18; go_must (refine (HIS.out _ hs1 hs2).mono ?_); rintro e w1 ⟨rfl, hb1⟩) | (go_at_call 70; go_must (refine (valB (within_c _ _ _ _) hin).mono ?_); rintro e w2 ⟨rfl, hb2⟩; have hb := btrans hb1 hb2; have p0 := b0 ⟨w2, hb⟩; have p1 := b1 ⟨w2, hb⟩; have p2 := b2 ⟨w2, hb⟩; have P1 := acell p1 (.cells #[.int .i64 0, .int .i64 0, .int .i64 0, .int .i64 0, .int .i64 0] 65); have c4 := (Z2.out w2).to (i := f.toNat) (by omega); have fr4 := (Z2.out w2).free))
  have hkb := btrans k0 (btrans hb1 hb2)
  have see := h.below hkb
  have see' := h'.below hkb
  have nw4 := ArrBox.newSet w2 65 (i := f.toNat) (by omega) 1
  have hb4 := kbelow w2 (.cells (([.int .i64 0, .int .i64 0, .int .i64 0, .int .i64 0, .int .i64 0] : List Value).set f.toNat (.int .i64 1)).toArray 65)
  clear hs1 hs2 HIS b0 b1 b2 P1 c4 fr4 h h' p1
  go_loopw [25, 7] (fun kv outv wr => ∃ j : Nat, j ≤ K + 1 ∧ kv = .int .i64 j ∧ ArrBox wr w2.heap.size (nowV ms f nN j) ∧ OwnInts wr (w2.heap.size + 1) outv (countL ms f ls nN j) ∧ Below w2.heap.size w2 wr) (fun kv _ _ => K + 1 - (intOf kv).toNat)
  case atStart => exact ⟨0, by omega, rfl, nw4, OwnInts.nil _ _, hb4⟩
  case round =>
    clear nw4 hb4
    obtain ⟨j, hj, rfl, hnow, out, hb⟩ := hrel
    rename World => wa
    have hsn := countL_succ ms f ls nN j
    have hlen := countL_length ms f ls nN j
    have hnx : nowV ms f nN (j + 1) = nxtV ms (nowV ms f nN j) 5 := (HFIVE.out j).symm
    have hss := HSUM.out j
    obtain ⟨ys, hys⟩ : ∃ ys, ys = countL ms f ls nN j := ⟨_, rfl⟩
    rw [← hys] at out hsn hlen
    generalize nowV ms f nN j = now at *
    have HSN := Lib.hid hsn
    have HLEN := Lib.hid hlen
    have HNX := Lib.hid hnx
    have HSS := Lib.hid hss
    have HYS := Lib.hid hys
    clear hsn hnx hys hss hlen
    obtain ⟨Ao, co, rfl, _⟩ := out.see
    by_cases hlt : j ≤ K
    · have l1 : (j : Int) < (K : Int) + 1 := by omega
      have ka := kbelow wa (.cells #[.int .i64 0, .int .i64 0, .int .i64 0, .int .i64 0, .int .i64 0] 65)
      have now1 := hnow.below ka
      obtain ⟨a0, a1, a2, a3, a4⟩ := now1.cells
      have nx1 := Z2.out wa
      go_wp2
      go_loopw [28, 8] (fun pv sv wr2 => ∃ p : Nat, p ≤ 5 ∧ pv = .int .i64 p ∧ sv = .int .i64 (sumI now ls p) ∧ ArrBox wr2 wa.heap.size (nxtV ms now p) ∧ Below wa.heap.size wa wr2) (fun pv _ _ => 5 - (intOf pv).toNat)
      case atStart => exact ⟨0, by omega, rfl, rfl, nx1, ka⟩
      case round =>
        clear nx1 ka now1 a0 a1 a2 a3 a4
        obtain ⟨p, hp, rfl, rfl, nx, hb5⟩ := hrel
        rename World => wb
        have hbb := btrans hb hb5
        by_cases hlt2 : p < 5
        · have gi := index_arr now hlt2
          have l2 : (p : Int) < 5 := by omega
          have l3 : (0 : Int) ≤ p := by omega
          have P2 := bcell hbb p2
          have hlast := isLast_c w.heap.size A' c' ls p wb P2 (see'.below hbb) hn'
          have hns := nxtV_succ ms now p
          have his := sumI_succ now ls p
          have HNS := Lib.hid hns
          generalize sumI now ls p = s0 at *
          cases e : decide ((p : Int) ∈ ls)
          all_goals
            have HL := Lib.hid (valB hlast e)
            have HIS := Lib.hid (his.trans (by first | rw [if_pos (of_decide_eq_true e)] | rw [if_neg (of_decide_eq_false e)]))
            clear hlast hns his e
            go_wp2_with (go_at_call 67; go_must (refine HL.out.mono ?_); rintro e wc ⟨rfl, hb6⟩; have P0 := bcell (btrans hbb hb6) p0; have nx6 := nx.below hb6)
            have hb56 := btrans hb5 hb6
            clear nx P2
            go_loopw [40] (fun iv wr3 => ∃ i : Nat, i ≤ ms.length ∧ iv = .int .i64 i ∧ ArrBox wr3 wa.heap.size (rowV (ms.take i) p (now.to p) (nxtV ms now p)) ∧ Below wa.heap.size wa wr3) (fun iv _ => ms.length - (intOf iv).toNat)
            case atStart => exact ⟨0, Nat.zero_le _, rfl, nx6, hb56⟩
            case round =>
              clear nx6 P0
              obtain ⟨i, hi, rfl, nx, hb7⟩ := hrel
              rename World => wd
              by_cases hlt3 : i < ms.length
              · obtain ⟨b', o', m, rfl, hm, gm⟩ := (see.below (btrans hb hb7)).at_ hlt3
                have hmt := (HALL.out m (List.mem_of_getElem? hm)).to5 hlt2
                have hrs := rowV_snoc hm p (now.to p) (nxtV ms now p)
                have HRS := Lib.hid hrs
                have m0 := hmt.1
                have m1 := hmt.2
                have l6 : (0 : Int) ≤ i := by omega
                have l7 : (i : Int) < ms.length := by omega
                generalize rowV (ms.take i) p (now.to p) (nxtV ms now p) = v at *
                have kd := kbelow wd (.cells #[.int .i64 m.p, .int .i64 m.a, .int .i64 m.b, .int .i64 m.c, .int .i64 m.d, .int .i64 m.e] 67)
                have tm := (MpBox.new (w := wd) m 67 rfl).at.to' hlt2
                have nx8 := nx.below kd
                have cn := nx8.to (i := (m.to p).toNat) (by omega)
                have fn := nx8.free
                obtain ⟨g0, g1, g2, g3, g4, g5⟩ := gm
                clear hrs hm hmt nx
                go_wp2
                go_roundw
                case rel => exact ⟨i + 1, by omega, by go_num, by rw [HRS.out]; exact nx8.set (by omega) _, Below.setCell (btrans hb7 kd) (Nat.le_refl _) _⟩
                case measure => simp [intOf]; omega
              · obtain rfl : i = ms.length := by omega
                rw [List.take_length] at nx
                go_wp2
                go_roundw
                case rel => exact ⟨p + 1, by omega, by go_num, by rw [HIS.out], by rw [HNS.out]; exact nx, hb7⟩
                case measure => simp [intOf]; omega
        · obtain rfl : p = 5 := by omega
          have out6 := out.below hb5
          have hoz := fun q hq => (out.lt q hq).2
          have hol := fun q hq => (out.lt q hq).1
          rw [← HNX.out] at nx
          have now6 := hnow.below hb5
          rw [HSS.out]
          have hz5 := hb5.size
          have hna := hnow.lt
          clear hnow out
          generalize sumV now ls = s0 at *
          obtain ⟨nw, hnw⟩ : ∃ nw, nw = nowV ms f nN (j + 1) := ⟨_, rfl⟩
          rw [← hnw] at nx
          have HNW := Lib.hid hnw
          clear hnw
          obtain ⟨zs, hzs⟩ : ∃ zs, zs = ys ++ [s0] := ⟨_, rfl⟩
          rw [← hzs] at HSN
          have HZS := Lib.hid hzs
          clear hzs
          go_wp2_with (at_builtin; refine wpList_push_int _ rfl (.tmp 55) (.tmp 57) rfl (w2.heap.size + 1) _ ys rfl (out6.below (kbelow _ _)) ⟨wb.heap.size, 0, none⟩ s0 rfl (by simp [go_sem]) (by have := HLEN.out; omega) (by have := hbb.size; simp; omega) ?_; intro v7 w7 hown7 hg7 hv7; rw [← HZS.out] at hown7; obtain ⟨A7, c7, rfl, _⟩ := hown7.see; have hg7' : (wb.alloc (.cells #[.int .i64 s0] 2)).grownBy w7 (Value.slice Ao ys.length co).ownBlock := hg7; have nx7 := (nx.below (kbelow wb (.cells #[.int .i64 s0] 2))).keep (S := fun q => (Value.slice Ao ys.length co).ownBlock ≠ some q) (fun e => absurd (hoz _ e) (Nat.lt_irrefl _)) (keep_grown hg7' fun q hq hs => hs hq); have now7 := (now6.below (kbelow wb (.cells #[.int .i64 s0] 2))).keep (S := fun q => (Value.slice Ao ys.length co).ownBlock ≠ some q) (fun e => absurd (hol _ e) (by omega)) (keep_grown hg7' fun q hq hs => hs hq); obtain ⟨x0, x1, x2, x3, x4⟩ := nx7.cells; obtain ⟨y0, y1, y2, y3, y4⟩ := now7.cells; have fr7 := now7.free)
          have hb7 : Below w2.heap.size w2 w7 := Below.grown (btrans hbb (kbelow _ _)) hg7 (btrans hbb (kbelow _ _)).size (fun q hq => by have := hol q hq; omega)
          go_roundw
          case rel =>
            refine ⟨j + 1, by omega, by go_num, by rw [← HNW.out]; exact now7.store nw, ?_, ?_⟩
            · rw [HSN.out]
              exact ((((hown7.setBelow (by simp) _).setBelow (by simp) _).setBelow (by simp) _).setBelow (by simp) _).setBelow (by simp) _
            · exact Below.setCell (Below.setCell (Below.setCell (Below.setCell (Below.setCell hb7 (Nat.le_refl _) _) (Nat.le_refl _) _) (Nat.le_refl _) _) (Nat.le_refl _) _) (Nat.le_refl _) _
          case measure => simp [intOf]; omega
    · obtain rfl : j = K + 1 := by omega
      have l1 : ¬ (((K + 1 : Nat) : Int) < (K : Int) + 1) := by omega
      have e2 : r = (ys, 0) := by rw [E1.out, HYS.out]
      have E2 := Lib.hid e2
      clear e2
      go_wp2
      go_returns
      rw [E2.out]
      exact ⟨_, rfl, out.mono (by have := hkb.size; omega), btrans hkb hb⟩
end Go.Proofs.Ytbodaefdaagelaa
