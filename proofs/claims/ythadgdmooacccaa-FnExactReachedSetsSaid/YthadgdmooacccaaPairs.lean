/- 'MeetingPairs', on both sides. No condition. -/
import Derived.Test.YthadgdmooacccaaMeetB
import Derived.Test.YthadgdmooacccaaSS
namespace Go.Proofs.Ythadgdmooacccaa
set_option linter.unusedSimpArgs false
set_option linter.unusedVariables false
set_option linter.unusedSectionVars false
open Go.RowKit
theorem ss_push {w w2 w3 : World} {base : Nat} {v v' : Value} {ws : List Sl} {s : Sl} {vals : List (List Int)} (h1 : OwnSls w base v ws) (h2 : ElsOk w base ws) (h3 : (ws.map Sl.v).Pairwise DisV) (h4 : ws.map Sl.xs = vals) (hb : Below w.heap.size w w2)
    (hs : OwnInts w2 base s.v s.xs) (hsb : ∀ k, s.v.ownBlock = some k → w.heap.size ≤ k) (hg : w2.grownBy w3 v.ownBlock) (ho : OwnSls w3 base v' (ws ++ [s])) : OwnSS w3 base v' (vals ++ [s.xs]) :=
  ⟨ws ++ [s], ho, ((h2.below hb).snoc hs).growSl (h1.below hb) hg, by
    rw [List.map_append]
    refine List.pairwise_append.2 ⟨h3, by simp, fun a ha b hb' k hk => ?_⟩
    obtain ⟨t, ht, rfl⟩ := List.mem_map.1 ha
    obtain rfl := List.mem_singleton.1 hb'
    intro e
    have := ((h2 t ht).lt k hk).2
    have := hsb k e
    omega, by rw [List.map_append, h4]; rfl⟩
def meets (ms : List Mp) (p q : Nat) : Bool := (fmeet ms p q).2 == 0
def rowTo (ms : List Mp) (p k : Nat) : List (List Int) := ((List.range k).filter fun q => decide (p < q) && meets ms p q).map fun (q : Nat) => [(p : Int), (q : Int)]
def allTo (ms : List Mp) (n k : Nat) : List (List Int) := (List.range k).flatMap fun p => rowTo ms p n
theorem rowTo_zero (ms : List Mp) (p : Nat) : rowTo ms p (p + 1) = [] := by
  unfold rowTo
  rw [List.filter_eq_nil_iff.2]
  · rfl
  · intro q hq
    have := List.mem_range.1 hq
    simp [show ¬ p < q by omega]
theorem rowTo_succ (ms : List Mp) {p k : Nat} (h : p < k) : rowTo ms p (k + 1) = rowTo ms p k ++ (if meets ms p k = true then [[(p : Int), (k : Int)]] else []) := by
  unfold rowTo
  rw [List.range_succ, List.filter_append, List.map_append]
  congr 1
  cases hm : meets ms p k <;> simp [h, hm]
theorem allTo_succ (ms : List Mp) (n k : Nat) : allTo ms n (k + 1) = allTo ms n k ++ rowTo ms k n := by
  unfold allTo
  rw [List.range_succ, List.flatMap_append]
  simp
theorem rowTo_len (ms : List Mp) (p k : Nat) : (rowTo ms p k).length ≤ k := by
  unfold rowTo
  rw [List.length_map]
  exact Nat.le_trans (List.length_filter_le _ _) (by simp)
theorem allTo_len (ms : List Mp) (n : Nat) : ∀ k, (allTo ms n k).length ≤ k * n
  | 0 => by simp [allTo]
  | k + 1 => by
    rw [allTo_succ, List.length_append]
    have h1 := allTo_len ms n k
    have h2 := rowTo_len ms k n
    rw [Nat.succ_mul]
    omega
theorem allTo_two (ms : List Mp) (n k : Nat) : ∀ x ∈ allTo ms n k, x.length = 2 := fun x hx => by
  unfold allTo at hx
  obtain ⟨p, _, hx⟩ := List.mem_flatMap.1 hx
  unfold rowTo at hx
  obtain ⟨q, _, rfl⟩ := List.mem_map.1 hx
  rfl
def RMeetingPairs (ms : List Mp) : List (List Int) × Int := if lcode ms [] = 0 then (allTo ms (ms.headD Mp.z).p.toNat (ms.headD Mp.z).p.toNat, 0) else ([], lcode ms [])
theorem total_two : ∀ {xs : List (List Int)}, (∀ x ∈ xs, x.length = 2) → total xs = 2 * xs.length
  | [], _ => rfl
  | x :: xs, h => by
    rw [total_cons, total_two (fun y hy => h y (by simp [hy])), h x (by simp), List.length_cons]
    omega
theorem RMeetingPairs_len (ms : List Mp) : (RMeetingPairs ms).1.length ≤ 1000 ∧ (∀ x ∈ (RMeetingPairs ms).1, x.length ≤ 2097152) ∧ total (RMeetingPairs ms).1 ≤ 4294967296 := by
  unfold RMeetingPairs
  split
  · rename_i hc
    have hb := (rightL_of hc).bounds
    have h1 := allTo_len ms (ms.headD Mp.z).p.toNat (ms.headD Mp.z).p.toNat
    have h2 := allTo_two ms (ms.headD Mp.z).p.toNat (ms.headD Mp.z).p.toNat
    have h25 : (ms.headD Mp.z).p.toNat * (ms.headD Mp.z).p.toNat ≤ 5 * 5 := Nat.mul_le_mul (by omega) (by omega)
    have ht := total_two h2
    refine ⟨?_, fun x hx => by rw [h2 x hx]; decide, ?_⟩
    · show (allTo ms _ _).length ≤ _
      omega
    · show total (allTo ms _ _) ≤ _
      omega
  · simp [total]
/-- rows of rows that are handed back -/
def SSPost (r : List (List Int) × Int) (w : World) (e : Ending) (w' : World) : Prop := ∃ v, e = .returned (.tuple #[v, .int .i64 r.2]) ∧ OwnSS w' w.heap.size v r.1 ∧ Below w.heap.size w w'
theorem SSPost.nil {w w' : World} {k : Int} (hb : Below w.heap.size w w') : SSPost ([], k) w (.returned (.tuple #[.slice none 0 0, .int .i64 k])) w' := ⟨_, rfl, OwnSS.nil _ _, hb⟩
set_option maxHeartbeats 2000000 in
theorem implMeetingPairs_l {A : Option Addr} {c : Nat} {ms : List Mp} {w : World} (h : SeeMaps w A ms) (hn : ms.length ≤ 2097152) (hA : NilOk A c) :
    Calls Try.prog 38 #[.slice A ms.length c] w (SSPost (RMeetingPairs ms) w) := by
  have L := listCode_c A none c 0 ms [] w hn (by simp) h (fun h => absurd rfl h) hA (fun _ => rfl)
  by_cases hc : lcode ms [] = 0
  · have e1 : RMeetingPairs ms = (allTo ms (ms.headD Mp.z).p.toNat (ms.headD Mp.z).p.toNat, 0) := by unfold RMeetingPairs; rw [if_pos hc]
    rw [e1]
    have hr := rightL_of hc
    generalize (ms.headD Mp.z).p = n at *
    have hb := hr.bounds
    obtain ⟨nn, rfl⟩ : ∃ nn : Nat, n = (nn : Int) := ⟨n.toNat, by omega⟩
    rw [Int.toNat_natCast]
    obtain ⟨b0, o0, m0, rfl, hm0, g0⟩ := h.at_ hr.pos
    have hmp : m0.p = (nn : Int) := (hr.all m0 (List.mem_of_getElem? hm0)).2
    have p0 := g0.h0
    rw [hmp, Nat.zero_mul, Nat.add_zero] at p0
    have lpos := hr.pos
    have hmt : ∀ W (p q : Nat), Below w.heap.size w W → p < nn → q < nn → Calls Try.prog 83 #[.slice (some ⟨b0, o0, none⟩) ms.length c, .int .i64 (p : Int), .int .i64 (q : Int)] W (WPost (fmeet ms p q) W) := fun W p q hW hp hq => meeting_c (some ⟨b0, o0, none⟩) c ms nn p q W (h.below hW) hr ⟨by omega, by omega⟩ ⟨by omega, by omega⟩
    have HMT := Lib.hid hmt
    clear e1 h hr hmt hm0 g0 hmp
    go_enter Try.func38, Try.ntmps38
    go_wp2_with fail
    refine (valI L hc).mono ?_
    rintro e w2 ⟨rfl, hb2⟩
    have p2 := bcell hb2 p0
    clear L
    go_wp2
    go_loopw [19, 5] (fun i out wr => ∃ k : Nat, k ≤ nn ∧ i = .int .i64 k ∧ OwnSS wr w.heap.size out (allTo ms nn k) ∧ Below w.heap.size w wr) (fun i _ _ => nn - (intOf i).toNat)
    case atStart => exact ⟨0, Nat.zero_le _, rfl, by simpa [allTo] using OwnSS.nil w2 w.heap.size, hb2⟩
    case round =>
      clear hb2 p2
      obtain ⟨k, hk, rfl, ho, hb2⟩ := hrel
      obtain ⟨Ao, co, rfl, _⟩ := ho.see
      by_cases hlt : k < nn
      · have l0 : (k : Int) < nn := by omega
        have hal := allTo_len ms nn k
        have h25 : k * nn ≤ 5 * 5 := Nat.mul_le_mul (by omega) (by omega)
        have HAS := Lib.hid (allTo_succ ms nn k)
        have hl25 : (allTo ms nn k).length ≤ 25 := by omega
        generalize allTo ms nn k = rows at *
        clear hal h25
        go_wp2
        go_loopw [7, 5] (fun i out wr => ∃ j : Nat, k < j ∧ j ≤ nn ∧ i = .int .i64 j ∧ OwnSS wr w.heap.size out (rows ++ rowTo ms k j) ∧ Below w.heap.size w wr) (fun i _ _ => nn - (intOf i).toNat)
        case atStart => exact ⟨k + 1, by omega, by omega, by go_num, by rw [rowTo_zero, List.append_nil]; exact ho, hb2⟩
        case round =>
          clear ho hb2
          obtain ⟨j, hkj, hj, rfl, ho, hbr⟩ := hrel
          have p3 := bcell hbr p0
          have hrl := rowTo_len ms k j
          obtain ⟨ws, h1, h2, h3, h4⟩ := ho.ex
          obtain ⟨Ao, co, rfl, _⟩ := h1.at_
          by_cases hjl : j < nn
          · have l1 : (j : Int) < nn := by omega
            have HRS := Lib.hid (rowTo_succ ms hkj)
            have hwl : ws.length ≤ 30 := by
              have := congrArg List.length h4
              rw [List.length_map, List.length_append] at this
              omega
            have hcall := HMT.out wr k j hbr (by omega) hjl
            have hfb := fmeet_bool (ms := ms) (p := k) (q := j) rfl
            have hmm : meets ms k j = ((fmeet ms k j).2 == 0) := rfl
            generalize fmeet ms k j = r at hcall hfb hmm
            have HC := Lib.hid hcall
            have HMM := Lib.hid hmm
            have H4 := Lib.hid h4
            have HW := Lib.hid hwl
            clear hcall hmm h4 ho hrl
            go_wp2_with fail
            refine HC.out.mono ?_
            rintro e w4 ⟨v4, rfl, hown4, hb4⟩
            obtain ⟨A4, c4, rfl, _⟩ := hown4.see
            have hbr4 := btrans hbr hb4
            have hz4 := hbr4.size
            rcases hfb with hz | rfl
            · have hmt : meets ms k j = true := by rw [HMM.out, hz]; rfl
              rw [hmt, if_pos rfl] at HRS
              rw [hz]
              have h14 := h1.below hb4
              have hbx : Below w4.heap.size w4 ((w4.alloc (.cells #[.int .i64 (k : Int), .int .i64 (j : Int)] 2)).alloc (.cells #[.slice (some ⟨w4.heap.size, 0, none⟩) 2 2] 23)) := by go_grown
              have hs2 := (OwnInts.two w4 w.heap.size hz4 (k : Int) (j : Int)).below (kbelow _ (.cells #[.slice (some ⟨w4.heap.size, 0, none⟩) 2 2] 23))
              clear hmt hz
              go_wp2_with (at_builtin; refine wpList_push_sl _ rfl (.tmp 41) (.tmp 45) rfl w.heap.size _ ws rfl (h14.below hbx) ⟨w4.heap.size + 1, 0, none⟩ ⟨some ⟨w4.heap.size, 0, none⟩, 2, [(k : Int), (j : Int)]⟩ rfl (by simp [go_sem]) (by have := HW.out; omega) (by simp; omega) ?_; intro v5 w5 hown5 hgrow5 hv5; have hss := ss_push (s := ⟨some ⟨w4.heap.size, 0, none⟩, 2, [(k : Int), (j : Int)]⟩) h14 (h2.below hb4) h3 H4.out hbx hs2 (fun i hi => by simp [Sl.v, Value.ownBlock] at hi; omega) hgrow5 hown5; obtain ⟨A5, c5, rfl, _⟩ := hown5.at_)
              go_roundw
              case rel =>
                refine ⟨j + 1, by omega, by omega, by go_num, ?_, (btrans hbr4 hbx).grown hgrow5 (by simp; omega) (fun i hi => (h14.lt i hi).1)⟩
                rw [HRS.out, ← List.append_assoc]
                simp only [List.length_append, List.length_cons, List.length_nil, Nat.zero_add] at hss
                exact hss
              case measure => simp [intOf]; omega
            · have hmt : meets ms k j = false := by rw [HMM.out]; rfl
              rw [hmt, if_neg (by decide), List.append_nil] at HRS
              clear hmt
              go_wp2
              go_roundw
              case rel => exact ⟨j + 1, by omega, by omega, by go_num, by rw [HRS.out]; exact (OwnSS.mk ⟨ws, h1, h2, h3, H4.out⟩).below hb4, hbr4⟩
              case measure => simp [intOf]; omega
          · obtain rfl : j = nn := by omega
            clear h1 h2 h3 h4
            go_wp2
            go_roundw
            case rel => exact ⟨k + 1, by omega, by go_num, by rw [HAS.out]; exact ho, hbr⟩
            case measure => simp [intOf]; omega
      · obtain rfl : k = nn := by omega
        go_wp2
        go_returns
        exact ⟨_, rfl, ho, hb2⟩
  · have e1 : RMeetingPairs ms = ([], lcode ms []) := by unfold RMeetingPairs; rw [if_neg hc]
    rw [e1]
    have d : (lcode ms [] != 0) = true := by simpa using hc
    clear e1 h
    go_enter Try.func38, Try.ntmps38
    go_wp2_with (go_at_call 75; go_must (refine L.mono ?_); rintro e w2 ⟨rfl, hb2⟩)
    go_returns
    exact SSPost.nil hb2
set_option maxHeartbeats 2000000 in
theorem specMeetingPairs_l {A : Option Addr} {c : Nat} {ms : List Mp} {w : World} (h : SeeMaps w A ms) (hn : ms.length ≤ 2097152) (_ : NilOk A c) :
    Calls Try.prog 37 #[.slice A ms.length c] w (SSPost (RMeetingPairs ms) w) := by
  have L := l02Given_c A none c 0 ms [] w hn (by simp) h (fun h => absurd rfl h)
  by_cases hc : lcode ms [] = 0
  · have e1 : RMeetingPairs ms = (allTo ms (ms.headD Mp.z).p.toNat (ms.headD Mp.z).p.toNat, 0) := by unfold RMeetingPairs; rw [if_pos hc]
    rw [e1]
    have hr := rightL_of hc
    generalize (ms.headD Mp.z).p = n at *
    have hb := hr.bounds
    obtain ⟨nn, rfl⟩ : ∃ nn : Nat, n = (nn : Int) := ⟨n.toNat, by omega⟩
    rw [Int.toNat_natCast]
    obtain ⟨b0, o0, m0, rfl, hm0, g0⟩ := h.at_ hr.pos
    have hmp : m0.p = (nn : Int) := (hr.all m0 (List.mem_of_getElem? hm0)).2
    have p0 := g0.h0
    rw [hmp, Nat.zero_mul, Nat.add_zero] at p0
    have lpos := hr.pos
    have hmt : ∀ W (p q : Nat), Below w.heap.size w W → p < nn → q < nn → Calls Try.prog 73 #[.slice (some ⟨b0, o0, none⟩) ms.length c, .int .i64 (bitsN [(p : Int), (q : Int)] : Int), .int .i64 1] W (TrPost (fmeet ms p q) W) := fun W p q hW hp hq => l05ToRank_c (some ⟨b0, o0, none⟩) c ms nn 1 (bitsN [(p : Int), (q : Int)]) W (h.below hW) hr (bits2_lt hb ⟨by omega, by omega⟩ ⟨by omega, by omega⟩)
    have hbt : ∀ W F fc (p q : Nat), p < nn → q < nn → SeeInts W F [(p : Int), (q : Int)] → Calls Try.prog 69 #[.slice F 2 fc] W fun e w' => e = .returned (.int .i64 (bitsN [(p : Int), (q : Int)] : Int)) ∧ Below W.heap.size W w' := fun W F fc p q hp hq hs => l01Bits_c F fc [(p : Int), (q : Int)] W hs (fun x hx => by
      rcases List.mem_cons.1 hx with rfl | hx
      · omega
      · rw [List.mem_singleton.1 hx]; omega) (by simp)
    have HBT := Lib.hid hbt
    clear hbt
    have HMT := Lib.hid hmt
    clear e1 h hr hmt hm0 g0 hmp
    go_enter Try.func37, Try.ntmps37
    go_wp2_with fail
    refine (valI L hc).mono ?_
    rintro e w2 ⟨rfl, hb2⟩
    have p2 := bcell hb2 p0
    clear L
    go_wp2
    go_loopw [6, 5] (fun i out wr => ∃ k : Nat, k ≤ nn ∧ i = .int .i64 k ∧ OwnSS wr w.heap.size out (allTo ms nn k) ∧ Below w.heap.size w wr) (fun i _ _ => nn - (intOf i).toNat)
    case atStart => exact ⟨0, Nat.zero_le _, rfl, by simpa [allTo] using (⟨[], ⟨rfl, .inr ⟨w2.heap.size, 0, #[], rfl, hb2.size, heap_alloc_new w2 _, Nat.le_refl _, by decide, rfl, rfl⟩⟩, ElsOk.nil _ _, List.Pairwise.nil, rfl⟩ : OwnSS (w2.alloc (.cells #[] 23)) w.heap.size (.slice (some ⟨w2.heap.size, 0, none⟩) 0 0) []), btrans hb2 (kbelow _ _)⟩
    case round =>
      clear hb2 p2
      obtain ⟨k, hk, rfl, ho, hb2⟩ := hrel
      obtain ⟨Ao, co, rfl, _⟩ := ho.see
      have p2 := bcell hb2 p0
      by_cases hlt : k < nn
      · have l0 : (k : Int) < nn := by omega
        have hal := allTo_len ms nn k
        have h25 : k * nn ≤ 5 * 5 := Nat.mul_le_mul (by omega) (by omega)
        have HAS := Lib.hid (allTo_succ ms nn k)
        have hl25 : (allTo ms nn k).length ≤ 25 := by omega
        generalize allTo ms nn k = rows at *
        clear hal h25
        go_wp2
        go_loopw [7, 5] (fun i out wr => ∃ j : Nat, k < j ∧ j ≤ nn ∧ i = .int .i64 j ∧ OwnSS wr w.heap.size out (rows ++ rowTo ms k j) ∧ Below w.heap.size w wr) (fun i _ _ => nn - (intOf i).toNat)
        case atStart => exact ⟨k + 1, by omega, by omega, by go_num, by rw [rowTo_zero, List.append_nil]; exact ho, hb2⟩
        case round =>
          clear ho hb2
          obtain ⟨j, hkj, hj, rfl, ho, hbr⟩ := hrel
          have p3 := bcell hbr p0
          have hrl := rowTo_len ms k j
          obtain ⟨ws, h1, h2, h3, h4⟩ := ho.ex
          obtain ⟨Ao, co, rfl, _⟩ := h1.at_
          by_cases hjl : j < nn
          · have l1 : (j : Int) < nn := by omega
            have HRS := Lib.hid (rowTo_succ ms hkj)
            have hwl : ws.length ≤ 30 := by
              have := congrArg List.length h4
              rw [List.length_map, List.length_append] at this
              omega
            have hcall := fun W hW => HMT.out W k j hW (by omega) hjl
            have HBC := Lib.hid (fun W F fc hs => HBT.out W F fc k j (by omega) hjl hs)
            have hfb := fmeet_bool (ms := ms) (p := k) (q := j) rfl
            have hmm : meets ms k j = ((fmeet ms k j).2 == 0) := rfl
            generalize fmeet ms k j = r at hcall hfb hmm
            have HC := Lib.hid hcall
            have HMM := Lib.hid hmm
            have H4 := Lib.hid h4
            have HW := Lib.hid hwl
            clear hcall hmm h4 ho hrl
            generalize bitsN [(k : Int), (j : Int)] = S at HC HBC
            have hby : Below wr.heap.size wr (wr.alloc (.cells #[.int .i64 (k : Int), .int .i64 (j : Int)] 2)) := by go_grown
            have hsy := (OwnInts.two wr 0 (Nat.zero_le _) (k : Int) (j : Int)).see'
            go_wp2_with fail
            refine (HBC.out _ (some ⟨wr.heap.size, 0, none⟩) 2 hsy).mono ?_
            rintro e w3 ⟨rfl, hb3⟩
            replace hb3 := btrans hby hb3
            clear hsy
            go_wp2_with fail
            refine (HC.out _ (btrans hbr hb3)).mono ?_
            rintro e w4 ⟨v4, rfl, hown4, hb4⟩
            replace hb4 := btrans hb3 hb4
            obtain ⟨A4, c4, rfl, _⟩ := hown4.see
            have hbr4 := btrans hbr hb4
            have hz4 := hbr4.size
            rcases hfb with hz | rfl
            · have hmt : meets ms k j = true := by rw [HMM.out, hz]; rfl
              rw [hmt, if_pos rfl] at HRS
              rw [hz]
              have h14 := h1.below hb4
              have hbx : Below w4.heap.size w4 ((w4.alloc (.cells #[.int .i64 (k : Int), .int .i64 (j : Int)] 2)).alloc (.cells #[.slice (some ⟨w4.heap.size, 0, none⟩) 2 2] 23)) := by go_grown
              have hs2 := (OwnInts.two w4 w.heap.size hz4 (k : Int) (j : Int)).below (kbelow _ (.cells #[.slice (some ⟨w4.heap.size, 0, none⟩) 2 2] 23))
              clear hmt hz
              go_wp2_with (at_builtin; refine wpList_push_sl _ rfl (.tmp 44) (.tmp 48) rfl w.heap.size _ ws rfl (h14.below hbx) ⟨w4.heap.size + 1, 0, none⟩ ⟨some ⟨w4.heap.size, 0, none⟩, 2, [(k : Int), (j : Int)]⟩ rfl (by simp [go_sem]) (by have := HW.out; omega) (by simp; omega) ?_; intro v5 w5 hown5 hgrow5 hv5; have hss := ss_push (s := ⟨some ⟨w4.heap.size, 0, none⟩, 2, [(k : Int), (j : Int)]⟩) h14 (h2.below hb4) h3 H4.out hbx hs2 (fun i hi => by simp [Sl.v, Value.ownBlock] at hi; omega) hgrow5 hown5; obtain ⟨A5, c5, rfl, _⟩ := hown5.at_)
              go_roundw
              case rel =>
                refine ⟨j + 1, by omega, by omega, by go_num, ?_, (btrans hbr4 hbx).grown hgrow5 (by simp; omega) (fun i hi => (h14.lt i hi).1)⟩
                rw [HRS.out, ← List.append_assoc]
                simp only [List.length_append, List.length_cons, List.length_nil, Nat.zero_add] at hss
                exact hss
              case measure => simp [intOf]; omega
            · have hmt : meets ms k j = false := by rw [HMM.out]; rfl
              rw [hmt, if_neg (by decide), List.append_nil] at HRS
              clear hmt
              go_wp2
              go_roundw
              case rel => exact ⟨j + 1, by omega, by omega, by go_num, by rw [HRS.out]; exact (OwnSS.mk ⟨ws, h1, h2, h3, H4.out⟩).below hb4, hbr4⟩
              case measure => simp [intOf]; omega
          · obtain rfl : j = nn := by omega
            clear h1 h2 h3 h4
            go_wp2
            go_roundw
            case rel => exact ⟨k + 1, by omega, by go_num, by rw [HAS.out]; exact ho, hbr⟩
            case measure => simp [intOf]; omega
      · obtain rfl : k = nn := by omega
        go_wp2
        go_returns
        exact ⟨_, rfl, ho, hb2⟩
  · have e1 : RMeetingPairs ms = ([], lcode ms []) := by unfold RMeetingPairs; rw [if_neg hc]
    rw [e1]
    have d : (lcode ms [] != 0) = true := by simpa using hc
    clear e1 h
    go_enter Try.func37, Try.ntmps37
    go_wp2_with (go_at_call 72; go_must (refine L.mono ?_); rintro e w2 ⟨rfl, hb2⟩)
    go_returns
    exact SSPost.nil hb2
end Go.Proofs.Ythadgdmooacccaa
