/- 'wordCode', 'l05Code': the code of a list, a word, points. No condition. -/
import Derived.Test.YthadgdmooacccaaGiven
import Derived.Test.YthadgdmooacccaaWord
import Derived.Test.YthadgdmooacccaaBase
namespace Go.Proofs.Ythadgdmooacccaa
set_option linter.unusedSimpArgs false
set_option linter.unusedVariables false
set_option linter.unusedSectionVars false
open Go.RowKit
def wcode (ms : List Mp) (word : List Int) : Int := if lcode ms [] = 0 then (if isWordB ms.length word 40 = true then 0 else 2) else lcode ms []
theorem rightL_of {ms : List Mp} (h : lcode ms [] = 0) : RightL ms (ms.headD Mp.z).p := by
  have hs : sameB ms = true := by simp [sameB, h]
  have hl := sameB_len' hs
  refine ⟨by omega, hl.2, fun m hm => ⟨?_, sameB_points hs m hm⟩⟩
  refine Classical.byContradiction fun hn => ?_
  rw [lcode_bad (fun H => hn (H m (by simpa using hm)))] at h
  cases h
theorem wcode_ok {ms : List Mp} {word : List Int} (h : wcode ms word = 0) : RightL ms (ms.headD Mp.z).p ∧ InL ms.length word ∧ (word.length : Int) ≤ 40 := by
  unfold wcode at h
  split at h
  · rename_i h1
    split at h
    · rename_i h2
      have := of_decide_eq_true h2
      exact ⟨rightL_of h1, this.2, this.1⟩
    · cases h
  · rename_i h1; exact absurd h h1
theorem isWordB_in {l : Nat} {word : List Int} {most : Int} (h : isWordB l word most = true) : InL l word ∧ (word.length : Int) ≤ most := by
  have := of_decide_eq_true h
  exact ⟨this.2, this.1⟩
set_option maxHeartbeats 1000000 in
theorem wordCode_c (A A' : Option Addr) (c c' : Nat) (ms : List Mp) (word : List Int) (w : World) (hn : ms.length ≤ 2097152) (h : SeeMaps w A ms) (hA : NilOk A c) (h' : SeeInts w A' word) (hn' : word.length ≤ 2097152) :
    Calls Try.prog 59 #[.slice A ms.length c, .slice A' word.length c'] w fun e w' => e = .returned (.int .i64 (wcode ms word)) ∧ Below w.heap.size w w' := by
  have L := listCode_c A none c 0 ms [] w hn (by simp) h (fun h => absurd rfl h) hA (fun _ => rfl)
  by_cases hc : lcode ms [] = 0
  · have d : (lcode ms [] != 0) = false := by simpa using hc
    have e : wcode ms word = if isWordB ms.length word 40 = true then 0 else 2 := by simp [wcode, hc]
    have E := Lib.hid e
    clear e
    cases hw : isWordB ms.length word 40
    · go_enter Try.func59, Try.ntmps59
      go_wp2_with (first | (go_at_call 75; go_must (refine (valI L hc).mono ?_); rintro e w2 ⟨rfl, hb2⟩) | (go_at_call 93; go_must (refine (valB (isWord_c A A' c c' ms word 40 _ hn (h'.below hb2) hn' (by decide) (by decide)) hw).mono ?_); rintro e w3 ⟨rfl, hb3⟩))
      go_returns
      exact ⟨ret_int (by rw [E.out, hw]; rfl), btrans hb2 hb3⟩
    · go_enter Try.func59, Try.ntmps59
      go_wp2_with (first | (go_at_call 75; go_must (refine (valI L hc).mono ?_); rintro e w2 ⟨rfl, hb2⟩) | (go_at_call 93; go_must (refine (valB (isWord_c A A' c c' ms word 40 _ hn (h'.below hb2) hn' (by decide) (by decide)) hw).mono ?_); rintro e w3 ⟨rfl, hb3⟩))
      go_returns
      exact ⟨ret_int (by rw [E.out, hw]; rfl), btrans hb2 hb3⟩
  · have d : (lcode ms [] != 0) = true := by simpa using hc
    have e : wcode ms word = lcode ms [] := by simp [wcode, hc]
    rw [e]
    clear e
    go_enter Try.func59, Try.ntmps59
    go_wp2_with (go_at_call 75; go_must (refine L.mono ?_); rintro e w2 ⟨rfl, hb2⟩)
    go_returns
    exact ⟨rfl, hb2⟩
/-- the code of a list, a word, points -/
def pcode (ms : List Mp) (word pts : List Int) : Int := if wcode ms word = 0 then (if ∀ p ∈ pts, 0 ≤ p ∧ p ≤ (ms.headD Mp.z).p - 1 then 0 else 2) else wcode ms word
set_option maxHeartbeats 2000000 in
theorem l05Code_c (A A' D : Option Addr) (c c' d : Nat) (ms : List Mp) (word pts : List Int) (w : World) (hn : ms.length ≤ 2097152) (h : SeeMaps w A ms) (h' : SeeInts w A' word) (hn' : word.length ≤ 2097152) (k' : SeeInts w D pts) (kn' : pts.length ≤ 2097152) :
    Calls Try.prog 57 #[.slice A ms.length c, .slice A' word.length c', .slice D pts.length d] w fun e w' => e = .returned (.int .i64 (pcode ms word pts)) ∧ Below w.heap.size w w' := by
  have L := l02Given_c A none c 0 ms [] w hn (by simp) h (fun h => absurd rfl h)
  by_cases hc : lcode ms [] = 0
  · have dc : (lcode ms [] != 0) = false := by simpa using hc
    cases hw : isWordB ms.length word 40
    · have e : pcode ms word pts = 2 := by simp [pcode, wcode, hc, hw]
      rw [e]
      clear e
      go_enter Try.func57, Try.ntmps57
      go_wp2_with (first | (go_at_call 72; go_must (refine (valI L hc).mono ?_); rintro e w2 ⟨rfl, hb2⟩) | (go_at_call 94; go_must (refine (valB (l05Word_c A A' c c' ms word _ hn (h'.below hb2) hn') hw).mono ?_); rintro e w3 ⟨rfl, hb3⟩))
      go_returns
      exact ⟨rfl, btrans hb2 hb3⟩
    · have e : pcode ms word pts = if ∀ p ∈ pts, 0 ≤ p ∧ p ≤ (ms.headD Mp.z).p - 1 then 0 else 2 := by simp [pcode, wcode, hc, hw]
      have HR := rightL_of hc
      obtain ⟨b0, o0, m0, rfl, hm0, g0⟩ := h.at_ HR.pos
      have hd : ms.headD Mp.z = m0 := by
        cases ms with
        | nil => simp at hm0
        | cons x xs => simp at hm0; simp [hm0]
      rw [hd] at HR e
      have E := Lib.hid e
      clear e
      have hl0 := HR.pos
      have n1 := HR.bounds.1
      have n5 := HR.bounds.2
      have p0 : w.cell? ⟨b0, o0, none⟩ = some (.int .i64 m0.p) := by simpa using g0.h0
      clear hd hm0 g0 HR
      go_enter Try.func57, Try.ntmps57
      go_wp2_with (first | (go_at_call 72; go_must (refine (valI L hc).mono ?_); rintro e w2 ⟨rfl, hb2⟩) | (go_at_call 94; go_must (refine (valB (l05Word_c _ A' c c' ms word _ hn (h'.below hb2) hn') hw).mono ?_); rintro e w3 ⟨rfl, hb3⟩))
      replace hb3 := btrans hb2 hb3
      clear L h h' hw hc dc hb2
      go_loopw [8] (fun i wr => ∃ k : Nat, k ≤ pts.length ∧ i = .int .i64 k ∧ AllTo (fun p => 0 ≤ p ∧ p ≤ m0.p - 1) pts k ∧ Below w.heap.size w wr) (fun i _ => pts.length - (intOf i).toNat)
      case atStart => exact ⟨0, Nat.zero_le _, rfl, AllTo.zero _ _, hb3⟩
      case round =>
        clear hb3
        obtain ⟨k, hk, rfl, hj, hb⟩ := hrel
        by_cases hlt : k < pts.length
        · obtain ⟨b, o, x, rfl, hx, g⟩ := (k'.below hb).at_ hlt
          have gx := bwcell g
          have q0 := bwcell (bcell hb p0)
          have HJ := Lib.hid hj
          have HX := Lib.hid hx
          have hl : (0 : Int) ≤ k := by omega
          have hl' : (k : Int) < pts.length := by omega
          clear hj hx g p0 k'
          by_cases hi : 0 ≤ x ∧ x ≤ m0.p - 1
          · have hin := inB_true hi.1 hi.2
            go_wp2
            refine wp_region_bw (by kernel_rfl) (by kernel_rfl) ?_
            repeat go_big_quiet_step (((go_at_call 77; exact Calls.bw _ (valB (l01In_c _ _ _ _) hin))))
            refine wpQuiet_nil ?_
            rintro _ ⟨⟨w2, hb2⟩, rfl⟩
            go_wp2
            go_roundw
            case rel => exact ⟨k + 1, by omega, by go_num, HJ.out.snoc HX.out hi, btrans hb hb2⟩
            case measure => simp [intOf]; omega
          · have hin := inB_false hi
            go_wp2
            refine wp_region_bw (by kernel_rfl) (by kernel_rfl) ?_
            repeat go_big_quiet_step (((go_at_call 77; exact Calls.bw _ (valB (l01In_c _ _ _ _) hin))))
            refine wpQuiet_nil ?_
            rintro _ ⟨⟨w2, hb2⟩, rfl⟩
            go_wp2
            go_returns
            exact ⟨ret_int (by rw [E.out, if_neg (AllTo.not HX.out hi)]), btrans hb hb2⟩
        · obtain rfl : k = pts.length := by omega
          have ha := Lib.hid hj.all
          clear hj
          go_wp2
          go_returns
          exact ⟨ret_int (by rw [E.out, if_pos ha.out]), hb⟩
  · have dc : (lcode ms [] != 0) = true := by simpa using hc
    have e : pcode ms word pts = lcode ms [] := by simp [pcode, wcode, hc]
    rw [e]
    clear e
    go_enter Try.func57, Try.ntmps57
    go_wp2_with (go_at_call 72; go_must (refine L.mono ?_); rintro e w2 ⟨rfl, hb2⟩)
    go_returns
    exact ⟨rfl, hb2⟩
/-! 'LeadPoint', on both sides. -/
/-- the points through which a word leads a point, up to k letters -/
def leadTo (ms : List Mp) (word : List Int) (p : Int) (k : Nat) : List Int := (List.range (k + 1)).map fun i => runW ms (word.take i) p
theorem leadTo_length (ms : List Mp) (word : List Int) (p : Int) (k : Nat) : (leadTo ms word p k).length = k + 1 := by simp [leadTo]
theorem leadTo_succ (ms : List Mp) (word : List Int) (p : Int) (k : Nat) : leadTo ms word p (k + 1) = leadTo ms word p k ++ [runW ms (word.take (k + 1)) p] := by
  unfold leadTo
  rw [List.range_succ, List.map_append]
  rfl
def RLeadPoint (ms : List Mp) (word : List Int) (p : Int) : List Int × Int := if pcode ms word [p] = 0 then (leadTo ms word p word.length, 0) else ([], pcode ms word [p])
theorem pcode_ok {ms : List Mp} {word pts : List Int} (h : pcode ms word pts = 0) : RightL ms (ms.headD Mp.z).p ∧ InL ms.length word ∧ (word.length : Int) ≤ 40 ∧ ∀ p ∈ pts, 0 ≤ p ∧ p ≤ (ms.headD Mp.z).p - 1 := by
  unfold pcode at h
  split at h
  · rename_i h1
    have := wcode_ok h1
    split at h
    · rename_i h2; exact ⟨this.1, this.2.1, this.2.2, h2⟩
    · cases h
  · rename_i h1; exact absurd h h1
theorem RLeadPoint_len (ms : List Mp) (word : List Int) (p : Int) : (RLeadPoint ms word p).1.length ≤ 1048576 := by
  unfold RLeadPoint
  split
  · rename_i h
    have := (pcode_ok h).2.2.1
    show (leadTo ms word p word.length).length ≤ _
    rw [leadTo_length]
    omega
  · simp
theorem runW_take {ms : List Mp} {word : List Int} {k : Nat} {x : Int} (hk : word[k]? = some x) (p : Int) : runW ms (word.take (k + 1)) p = (nth ms x).at (runW ms (word.take k) p) := by
  unfold runW
  rw [List.take_add_one, hk]
  simp [List.foldl_append]
theorem InL.take {l : Nat} {word : List Int} (h : InL l word) (k : Nat) : InL l (word.take k) := fun x hx => h x (List.mem_of_mem_take hx)
theorem leadTo_last {ms : List Mp} {n : Int} (hr : RightL ms n) {word : List Int} (hw : InL ms.length word) {p : Int} (p0 : 0 ≤ p) (p1 : p < n) (k : Nat) : 0 ≤ runW ms (word.take k) p ∧ runW ms (word.take k) p < n := runW_lt hr _ p (hw.take k) p0 p1
set_option maxHeartbeats 2000000 in
theorem specLeadPoint_l {A A' : Option Addr} {c c' : Nat} {ms : List Mp} {word : List Int} {p : Int} {w : World} (h : SeeMaps w A ms) (hn : ms.length ≤ 2097152) (_ : NilOk A c) (h' : SeeInts w A' word) (hn' : word.length ≤ 2097152) (_ : NilOk A' c') :
    Calls Try.prog 16 #[.slice A ms.length c, .slice A' word.length c', .int .i64 p] w fun e w' => ∃ v, e = .returned (.tuple #[v, .int .i64 (RLeadPoint ms word p).2]) ∧ OwnInts w' w.heap.size v (RLeadPoint ms word p).1 ∧ Below w.heap.size w w' := by
  have k0 : Below w.heap.size w (w.alloc (.cells #[.int .i64 p] 2)) := by go_grown
  have L := l05Code_c A A' (some ⟨w.heap.size, 0, none⟩) c c' 1 ms word [p] _ hn (h.below k0) (h'.below k0) hn' (OwnInts.one w w.heap.size (Nat.le_refl _) p).see' (by simp)
  by_cases hc : pcode ms word [p] = 0
  · have e : RLeadPoint ms word p = (leadTo ms word p word.length, 0) := by simp [RLeadPoint, hc]
    rw [e]
    clear e
    obtain ⟨hr, hw, hw40, hp⟩ := pcode_ok hc
    have hp0 := hp p (by simp)
    have HR := Lib.hid hr
    have HW := Lib.hid hw
    have p0 := hp0.1
    have p1 : p < (ms.headD Mp.z).p := by omega
    have hn5 := hr.bounds.2
    generalize (ms.headD Mp.z).p = n at *
    clear hr hw hp hp0
    go_enter Try.func16, Try.ntmps16
    go_wp2_with (go_at_call 57; go_must (refine (valI L hc).mono ?_); rintro e w1 ⟨rfl, hb1⟩)
    replace hb1 := btrans k0 hb1
    have hz1 := hb1.size
    clear L k0 hc
    go_loopw [10, 9, 2] (fun i out q wr => ∃ k : Nat, k ≤ word.length ∧ i = .int .i64 k ∧ q = .int .i64 (runW ms (word.take k) p) ∧ OwnInts wr w.heap.size out (leadTo ms word p k) ∧ Below w.heap.size w wr) (fun i _ _ _ => word.length - (intOf i).toNat)
    case atStart => exact ⟨0, Nat.zero_le _, rfl, rfl, OwnInts.one w1 w.heap.size hb1.size p, (by repeat' (first | (with_reducible exact Below.refl _ _) | (with_reducible assumption) | (with_reducible refine bdrewN ?_ _) | (with_reducible refine Below.alloc ?_ ?_ _) | (with_reducible refine Below.drew ?_) | (with_reducible refine Below.setCell ?_ ?_ _) | go_size))⟩
    case round =>
      clear hb1 hz1
      obtain ⟨k, hk, rfl, rfl, hown, hb⟩ := hrel
      by_cases hlt : k < word.length
      · obtain ⟨bw, ow, x, rfl, hx, q⟩ := (h'.below hb).at_ hlt
        have hxr := HW.out x (List.mem_of_getElem? hx)
        obtain ⟨b, o, rfl, g⟩ := (h.below hb).nthAt hxr.1 (by omega)
        obtain ⟨r0, r1⟩ := leadTo_last HR.out HW.out p0 p1 k
        have gx := g.to (i := (runW ms (word.take k) p).toNat) (by omega)
        have e : (nth ms x).to (runW ms (word.take k) p).toNat = (nth ms x).at (runW ms (word.take k) p) := rfl
        rw [e, ← runW_take hx] at gx
        have x0 := hxr.1
        have x1 : x < ms.length := by omega
        have x5 : runW ms (word.take k) p < 5 := by omega
        have hl : (0 : Int) ≤ k := by omega
        have hl' : (k : Int) < word.length := by omega
        have hln := leadTo_length ms word p k
        have HO := Lib.hid (leadTo_succ ms word p k)
        generalize runW ms (word.take k) p = p' at *
        generalize he : runW ms (word.take (k + 1)) p = p'' at gx HO
        have HE := Lib.hid he
        clear he
        have hsz := hb.size
        clear hx hxr e g h h'
        go_wp2_with (at_builtin; refine wpList_push_int _ rfl (.tmp 37) (.tmp 39) rfl w.heap.size _ _ rfl (hown.below (by go_grown)) ⟨wr.heap.size, 0, none⟩ p'' rfl (by simp [go_sem]) (by omega) (by go_size) ?_; intro v' w3 hown' hgrow hv')
        go_roundw
        case rel => exact ⟨k + 1, by omega, by go_num, by rw [HE.out], by rw [HO.out]; exact hown', Below.grown (w := wr.alloc (.cells #[.int .i64 p''] 2)) (by go_grown) hgrow (by simp; omega) (fun j hj => (hown.lt j hj).1)⟩
        case measure => simp [intOf]; omega
      · obtain rfl : k = word.length := by omega
        go_wp2
        go_returns
        exact ⟨_, rfl, hown, hb⟩
  · have e : RLeadPoint ms word p = ([], pcode ms word [p]) := by simp [RLeadPoint, hc]
    rw [e]
    clear e
    have d : (pcode ms word [p] != 0) = true := by simpa using hc
    go_enter Try.func16, Try.ntmps16
    go_wp2_with (go_at_call 57; go_must (refine L.mono ?_); rintro e w1 ⟨rfl, hb1⟩)
    go_returns
    exact ⟨_, rfl, OwnInts.nil _ _, btrans k0 hb1⟩
theorem pcode_w {ms : List Mp} {word : List Int} {p : Int} (h : wcode ms word = 0) : pcode ms word [p] = if inB p 0 ((ms.headD Mp.z).p - 1) = true then 0 else 2 := by
  unfold pcode
  rw [if_pos h]
  by_cases hi : 0 ≤ p ∧ p ≤ (ms.headD Mp.z).p - 1
  · rw [inB_true hi.1 hi.2, if_pos (by simpa using hi)]; rfl
  · rw [inB_false hi, if_neg (by simpa using hi)]; rfl
theorem head_at {ms : List Mp} {n : Int} (hr : RightL ms n) : ∃ m0, ms[0]? = some m0 ∧ IsMp m0 ∧ m0.p = n := by
  cases ms with
  | nil => exact absurd hr.pos (by simp)
  | cons m ms => have := hr.all m (by simp); exact ⟨m, rfl, this.1, this.2⟩
set_option maxHeartbeats 2000000 in
theorem implLeadPoint_l {A A' : Option Addr} {c c' : Nat} {ms : List Mp} {word : List Int} {p : Int} {w : World} (h : SeeMaps w A ms) (hn : ms.length ≤ 2097152) (hA : NilOk A c) (h' : SeeInts w A' word) (hn' : word.length ≤ 2097152) (_ : NilOk A' c') :
    Calls Try.prog 19 #[.slice A ms.length c, .slice A' word.length c', .int .i64 p] w fun e w' => ∃ v, e = .returned (.tuple #[v, .int .i64 (RLeadPoint ms word p).2]) ∧ OwnInts w' w.heap.size v (RLeadPoint ms word p).1 ∧ Below w.heap.size w w' := by
  have L := wordCode_c A A' c c' ms word _ hn h hA h' hn'
  by_cases hc : wcode ms word = 0
  · have ep := pcode_w (p := p) hc
    obtain ⟨hr, hw, hw40⟩ := wcode_ok hc
    obtain ⟨m0, h0, hm0, hp0⟩ := head_at hr
    have HR := Lib.hid hr
    have HW := Lib.hid hw
    have H0 := Lib.hid h0
    have HP0 := Lib.hid hp0
    have HM0 := Lib.hid hm0
    have hn5 := hr.bounds.2
    generalize (ms.headD Mp.z).p = n at *
    cases hi : inB p 0 (n - 1)
    · have e : RLeadPoint ms word p = ([], 2) := by simp [RLeadPoint, ep, hi]
      rw [e]
      clear e ep hr hw h0 hp0 hm0
      go_enter Try.func19, Try.ntmps19
      go_wp2_with (first | (go_at_call 59; go_must (refine (valI L hc).mono ?_); rintro e w1 ⟨rfl, hb1⟩) | (go_at_call 60; go_must (refine (valB (isPoint_c A c ms m0 p _ (h.below hb1) H0.out HM0.out) (show inB p 0 (m0.p - 1) = false by rw [HP0.out]; exact hi)).mono ?_); rintro e w2 ⟨rfl, hb2⟩))
      go_returns
      exact ⟨_, rfl, OwnInts.nil _ _, btrans hb1 hb2⟩
    · have e : RLeadPoint ms word p = (leadTo ms word p word.length, 0) := by simp [RLeadPoint, ep, hi]
      rw [e]
      have hin : 0 ≤ p ∧ p ≤ n - 1 := Classical.byContradiction fun hn => by rw [inB_false hn] at hi; cases hi
      have p0 := hin.1
      have p1 : p < n := by omega
      clear e ep hr hw h0 hp0 hm0
      go_enter Try.func19, Try.ntmps19
      go_wp2_with (first | (go_at_call 59; go_must (refine (valI L hc).mono ?_); rintro e w1 ⟨rfl, hb1⟩) | (go_at_call 60; go_must (refine (valB (isPoint_c A c ms m0 p _ (h.below hb1) H0.out HM0.out) (show inB p 0 (m0.p - 1) = true by rw [HP0.out]; exact hi)).mono ?_); rintro e w2 ⟨rfl, hb2⟩))
      replace hb2 := btrans hb1 hb2
      have hz1 := hb2.size
      clear L hc hb1
      go_loopw [26, 9, 2] (fun i out q wr => ∃ k : Nat, k ≤ word.length ∧ i = .int .i64 k ∧ q = .int .i64 (runW ms (word.take k) p) ∧ OwnInts wr w.heap.size out (leadTo ms word p k) ∧ Below w.heap.size w wr) (fun i _ _ _ => word.length - (intOf i).toNat)
      case atStart => exact ⟨0, Nat.zero_le _, rfl, rfl, OwnInts.one w2 w.heap.size hb2.size p, (by repeat' (first | (with_reducible exact Below.refl _ _) | (with_reducible assumption) | (with_reducible refine bdrewN ?_ _) | (with_reducible refine Below.alloc ?_ ?_ _) | (with_reducible refine Below.drew ?_) | (with_reducible refine Below.setCell ?_ ?_ _) | go_size))⟩
      case round =>
        clear hb2 hz1
        obtain ⟨k, hk, rfl, rfl, hown, hb⟩ := hrel
        by_cases hlt : k < word.length
        · obtain ⟨bw, ow, x, rfl, hx, q⟩ := (h'.below hb).at_ hlt
          have hxr := HW.out x (List.mem_of_getElem? hx)
          obtain ⟨b, o, rfl, g⟩ := (h.below hb).nthAt hxr.1 (by omega)
          obtain ⟨r0, r1⟩ := leadTo_last HR.out HW.out p0 p1 k
          have gx := g.to (i := (runW ms (word.take k) p).toNat) (by omega)
          have e : (nth ms x).to (runW ms (word.take k) p).toNat = (nth ms x).at (runW ms (word.take k) p) := rfl
          rw [e, ← runW_take hx] at gx
          have x0 := hxr.1
          have x1 : x < ms.length := by omega
          have x5 : runW ms (word.take k) p < 5 := by omega
          have hl : (0 : Int) ≤ k := by omega
          have hl' : (k : Int) < word.length := by omega
          have hln := leadTo_length ms word p k
          have HO := Lib.hid (leadTo_succ ms word p k)
          generalize runW ms (word.take k) p = p' at *
          generalize he : runW ms (word.take (k + 1)) p = p'' at gx HO
          have HE := Lib.hid he
          clear he
          have hsz := hb.size
          clear hx hxr e g h h'
          go_wp2_with (at_builtin; refine wpList_push_int _ rfl (.tmp 37) (.tmp 39) rfl w.heap.size _ _ rfl (hown.below (by go_grown)) ⟨wr.heap.size, 0, none⟩ p'' rfl (by simp [go_sem]) (by omega) (by go_size) ?_; intro v' w3 hown' hgrow hv')
          go_roundw
          case rel => exact ⟨k + 1, by omega, by go_num, by rw [HE.out], by rw [HO.out]; exact hown', Below.grown (w := wr.alloc (.cells #[.int .i64 p''] 2)) (by go_grown) hgrow (by simp; omega) (fun j hj => (hown.lt j hj).1)⟩
          case measure => simp [intOf]; omega
        · obtain rfl : k = word.length := by omega
          go_wp2
          go_returns
          exact ⟨_, rfl, hown, hb⟩
  · have e : RLeadPoint ms word p = ([], wcode ms word) := by simp [RLeadPoint, pcode, hc]
    rw [e]
    clear e
    have d : (wcode ms word != 0) = true := by simpa using hc
    go_enter Try.func19, Try.ntmps19
    go_wp2_with (go_at_call 59; go_must (refine L.mono ?_); rintro e w1 ⟨rfl, hb1⟩)
    go_returns
    exact ⟨_, rfl, OwnInts.nil _ _, hb1⟩
end Go.Proofs.Ythadgdmooacccaa
