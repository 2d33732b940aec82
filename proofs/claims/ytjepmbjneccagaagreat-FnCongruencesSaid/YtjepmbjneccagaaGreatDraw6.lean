/- Draws of lists and pairs for congruences: 'l06Draw', 'l06DrawPairs'. No condition. -/
import Derived.Test.YtjepmbjneccagaaGreatDraw2
import Derived.Test.YtjepmbjneccagaaGreatJoinC
import Derived.Deep.Cut
namespace Go.Proofs.YtjepmbjneccagaaGreat
set_option linter.unusedSimpArgs false
set_option linter.unusedVariables false
set_option linter.unusedSectionVars false
open Go.RowKit
set_option maxHeartbeats 8000000 in
set_option maxRecDepth 100000 in
theorem l06Draw_c {b c : Nat} {A : Option Addr} {code : List Int} (w : World) (h : SrcAt w b A c code) :
    Calls Tryz.prog 92 #[.pointer (some ⟨b, 0, none⟩)] w (MqPost 7 w b A c code) := by
  unfold MqPost
  have hlt := h.lt
  have HNX := Lib.hid (l01Next_c 16 w h (by omega))
  go_enter Tryz.func92, Tryz.ntmps92
  go_wp2_with fail
  refine HNX.out.mono ?_
  rintro e w2 ⟨x, rfl, hx, _, hd⟩
  obtain ⟨x0, x16⟩ := hx (by omega)
  clear HNX hx
  by_cases hz : x = 0
  · subst hz
    have HLD := Lib.hid (l02Draw_c w2 hd.src)
    unfold MqPost at HLD
    go_wp2_with fail
    refine HLD.out.mono ?_
    rintro e w3 ⟨A3, c3, ms3, rfl, sm, nm, hin0, h7, hd3⟩
    have hin : InS (fun k => k ≠ b ∧ w.heap.size ≤ k) A3 := hin0.mono fun k hk => ⟨hk.1, Nat.le_trans hd.keep.size hk.2⟩
    have hd3' := hd.trans hd3
    have HF := Lib.hid (⟨sm, nm, hin, h7, hd3'⟩ : SeeMaps w3 A3 ms3 ∧ NilOk A3 c3 ∧ InS (fun k => k ≠ b ∧ w.heap.size ≤ k) A3 ∧ ms3.length ≤ 7 ∧ Drawn w w3 b A c code)
    clear HLD sm nm hin hin0 hd3 hd3'
    go_wp2
    go_returns
    exact ⟨A3, c3, ms3, rfl, HF.out⟩
  · have dx : (x == 0) = false := by simpa using hz
    have HPK := Lib.hid (pick_any [1, 2, 2, 3] 4 rfl (by omega) (by omega) hd.src w2.heap.size rfl _ rfl)
    clear hz
    go_wp2_with fail
    obtain ⟨W2, hW2⟩ : ∃ W2, W2 = w2.alloc (.cells ([1, 2, 2, 3].map (Value.int .i64)).toArray 2) := ⟨_, rfl⟩
    have hW3 : W2 = w2.alloc (.cells #[.int .i64 1, .int .i64 2, .int .i64 2, .int .i64 3] 2) := hW2
    rw [← hW2] at HPK
    rw [← hW3]
    clear hW2 hW3
    refine HPK.out.mono ?_
    rintro e w3 ⟨y, rfl, hy, hd3⟩
    obtain ⟨n, rfl, n1, n5⟩ : ∃ n : Nat, y = (n : Int) ∧ 1 ≤ n ∧ n ≤ 5 := by
      simp at hy
      refine ⟨y.toNat, ?_, ?_, ?_⟩ <;> omega
    have hd3' := hd.trans hd3
    have HDL := Lib.hid (l01DrawList_c n w3 hd3'.src n1 n5)
    unfold MlPost at HDL
    clear hy HPK hd hd3
    go_wp2_with fail
    refine HDL.out.mono ?_
    rintro e w4 ⟨v, ms, rfl, own, hr, hd4⟩
    have hd4' := hd3'.trans hd4
    have hlt3 := hd3'.src.lt
    obtain ⟨A4, c4, rfl, _⟩ := own.see
    have see4 := own.see'
    have nil4 := own.nilok
    have far4 := own.farB (w0 := w.heap.size) hlt3 hd3'.keep.size
    have six4 : ms.length ≤ 7 := by have := hr.six; omega
    clear HDL own hr hd3' hd4
    go_wp2
    go_loopw [3, 4] (fun lv kv wr => ∃ (k : Nat) (A' : Option Addr) (c' : Nat) (ms' : List Mp), k ≤ 8 ∧ kv = .int .i64 k ∧ lv = .slice A' ms'.length c' ∧ SeeMaps wr A' ms' ∧ NilOk A' c' ∧ InS (fun k => k ≠ b ∧ w.heap.size ≤ k) A' ∧ ms'.length ≤ 7 ∧ Drawn w wr b A c code) (fun _ kv _ => 8 - (intOf kv).toNat)
    case atStart => exact ⟨0, A4, c4, ms, by omega, rfl, rfl, see4, nil4, far4, six4, hd4'⟩
    case round =>
      clear see4 nil4 far4 six4 hd4'
      obtain ⟨k, A', c', ms', hk, rfl, rfl, sm, nm, hin, h7, hd⟩ := hrel
      have k0 : (0 : Int) ≤ k := by omega
      by_cases hk8 : k < 8
      · have k1 : (k : Int) < 8 := by omega
        have HSZ := Lib.hid (SizeOf_c A' c' ms' wr (by omega) sm)
        go_wp2_with fail
        refine HSZ.out.mono ?_
        rintro e w5 ⟨m, q, rfl, m0, m1, hb5⟩
        clear HSZ
        replace sm := sm.below hb5
        have hd5 := hd.below hb5
        clear hd
        by_cases hq : q = 0
        · by_cases hm : m ≤ 14
          · have dq : (q == 0) = true := by simpa using hq
            have HF := Lib.hid (⟨sm, nm, hin, h7, hd5⟩ : SeeMaps w5 A' ms' ∧ NilOk A' c' ∧ InS (fun k => k ≠ b ∧ w.heap.size ≤ k) A' ∧ ms'.length ≤ 7 ∧ Drawn w w5 b A c code)
            clear hq sm nm hin hd5
            go_wp2
            go_returns
            exact ⟨A', c', ms', rfl, HF.out⟩
          · have dq : (q == 0) = true := by simpa using hq
            clear hq
            have HPK := Lib.hid (pick_any [2, 2, 3] 3 rfl (by omega) (by omega) hd5.src w5.heap.size rfl _ rfl)
            go_wp2_with fail
            obtain ⟨W2, hW2⟩ : ∃ W2, W2 = w5.alloc (.cells ([2, 2, 3].map (Value.int .i64)).toArray 2) := ⟨_, rfl⟩
            have hW3 : W2 = w5.alloc (.cells #[.int .i64 2, .int .i64 2, .int .i64 3] 2) := hW2
            rw [← hW2] at HPK
            rw [← hW3]
            clear hW2 hW3
            refine HPK.out.mono ?_
            rintro e w6 ⟨y, rfl, hy, hd6⟩
            obtain ⟨n', rfl, n1', n5'⟩ : ∃ n : Nat, y = (n : Int) ∧ 1 ≤ n ∧ n ≤ 5 := by
              simp at hy
              refine ⟨y.toNat, ?_, ?_, ?_⟩ <;> omega
            have hd6' := hd5.trans hd6
            have HDL := Lib.hid (l01DrawList_c n' w6 hd6'.src n1' n5')
            unfold MlPost at HDL
            clear hy HPK hd5 hd6
            go_wp2_with fail
            refine HDL.out.mono ?_
            rintro e w7 ⟨v, ms7, rfl, own, hr, hd7⟩
            have hd7' := hd6'.trans hd7
            have hlt6 := hd6'.src.lt
            obtain ⟨A7, c7, rfl, _⟩ := own.see
            have HF := Lib.hid (⟨own.see', own.nilok, own.farB hlt6 hd6'.keep.size, by have := hr.six; omega⟩ : SeeMaps w7 A7 ms7 ∧ NilOk A7 c7 ∧ InS (fun k => k ≠ b ∧ w.heap.size ≤ k) A7 ∧ ms7.length ≤ 7)
            clear HDL own hr hd6' hd7 sm nm hin
            go_wp2
            go_roundw
            case rel => exact ⟨k + 1, A7, c7, ms7, by omega, by go_num, rfl, HF.out.1, HF.out.2.1, HF.out.2.2.1, HF.out.2.2.2, hd7'⟩
            case measure => simp [intOf]; omega
        · have dq : (q == 0) = false := by simpa using hq
          clear hq
          have HPK := Lib.hid (pick_any [2, 2, 3] 3 rfl (by omega) (by omega) hd5.src w5.heap.size rfl _ rfl)
          go_wp2_with fail
          obtain ⟨W2, hW2⟩ : ∃ W2, W2 = w5.alloc (.cells ([2, 2, 3].map (Value.int .i64)).toArray 2) := ⟨_, rfl⟩
          have hW3 : W2 = w5.alloc (.cells #[.int .i64 2, .int .i64 2, .int .i64 3] 2) := hW2
          rw [← hW2] at HPK
          rw [← hW3]
          clear hW2 hW3
          refine HPK.out.mono ?_
          rintro e w6 ⟨y, rfl, hy, hd6⟩
          obtain ⟨n', rfl, n1', n5'⟩ : ∃ n : Nat, y = (n : Int) ∧ 1 ≤ n ∧ n ≤ 5 := by
            simp at hy
            refine ⟨y.toNat, ?_, ?_, ?_⟩ <;> omega
          have hd6' := hd5.trans hd6
          have HDL := Lib.hid (l01DrawList_c n' w6 hd6'.src n1' n5')
          unfold MlPost at HDL
          clear hy HPK hd5 hd6
          go_wp2_with fail
          refine HDL.out.mono ?_
          rintro e w7 ⟨v, ms7, rfl, own, hr, hd7⟩
          have hd7' := hd6'.trans hd7
          have hlt6 := hd6'.src.lt
          obtain ⟨A7, c7, rfl, _⟩ := own.see
          have HF := Lib.hid (⟨own.see', own.nilok, own.farB hlt6 hd6'.keep.size, by have := hr.six; omega⟩ : SeeMaps w7 A7 ms7 ∧ NilOk A7 c7 ∧ InS (fun k => k ≠ b ∧ w.heap.size ≤ k) A7 ∧ ms7.length ≤ 7)
          clear HDL own hr hd6' hd7 sm nm hin
          go_wp2
          go_roundw
          case rel => exact ⟨k + 1, A7, c7, ms7, by omega, by go_num, rfl, HF.out.1, HF.out.2.1, HF.out.2.2.1, HF.out.2.2.2, hd7'⟩
          case measure => simp [intOf]; omega
      · obtain rfl : k = 8 := by omega
        have HF := Lib.hid (⟨sm, nm, hin, h7, hd⟩ : SeeMaps wr A' ms' ∧ NilOk A' c' ∧ InS (fun k => k ≠ b ∧ w.heap.size ≤ k) A' ∧ ms'.length ≤ 7 ∧ Drawn w wr b A c code)
        clear sm nm hin hd hk hk8
        go_wp2
        go_returns
        exact ⟨A', c', ms', rfl, HF.out⟩
/-- a list of maps and a list of pairs that a draw from a code hands back -/
def MpsPost (w : World) (e : Ending) (w' : World) : Prop :=
  ∃ (A1 : Option Addr) (c1 : Nat) (ms : List Mp) (A2 : Option Addr) (c2 : Nat) (prs : List (List Int)), e = .returned (.tuple #[.slice A1 ms.length c1, .slice A2 prs.length c2]) ∧ SeeMaps w' A1 ms ∧ NilOk A1 c1 ∧ InS (fun k => w.heap.size ≤ k) A1 ∧ OwnSS w' w.heap.size (.slice A2 prs.length c2) prs ∧ prs.length ≤ 20 ∧ (∀ r ∈ prs, r.length ≤ 2) ∧ ms.length ≤ 7 ∧ Below w.heap.size w w'
theorem OwnSS.drawn {w1 w2 : World} {base b c : Nat} {A : Option Addr} {code : List Int} {v : Value} {xs : List (List Int)} (h : OwnSS w1 base v xs) (hb : b < base) (hd : Drawn w1 w2 b A c code) : OwnSS w2 base v xs := h.keep (fun k hk => by omega) hd.keep
theorem Drawn.newer {w w1 w2 : World} {b c : Nat} {A : Option Addr} {code : List Int} (h0 : Below w.heap.size w w1) (hb : w.heap.size ≤ b) (h : Drawn w1 w2 b A c code) : Below w.heap.size w w2 := h0.trans (h.keep.below h0.size fun k hk => by omega)
set_option maxHeartbeats 16000000 in
set_option maxRecDepth 100000 in
theorem l06DrawPairs_c {c : Nat} {A : Option Addr} {code : List Int} (w : World) (h : SeeBytes w A code) (hl : code.length ≤ 4611686018427387904) :
    Calls Tryz.prog 58 #[.slice A code.length c] w (MpsPost w) := by
  unfold MpsPost
  have HFR := Lib.hid (l01From_c (c := c) w h hl)
  clear h hl
  go_enter Tryz.func58, Tryz.ntmps58
  go_wp2_with fail
  refine HFR.out.mono ?_
  rintro e w2 ⟨b, rfl, hb, hsrc, hb2⟩
  clear HFR
  have HDR := Lib.hid (l06Draw_c w2 hsrc)
  unfold MqPost at HDR
  have hlt2 := hsrc.lt
  go_wp2_with fail
  refine HDR.out.mono ?_
  rintro e w3 ⟨A2, c2, ms, rfl, sm, nm, hin, h7, hd⟩
  clear HDR
  have hbl3 : Below w.heap.size w w3 := Drawn.newer hb2 hb hd
  have hb3 : b < w3.heap.size := hd.src.lt
  have d3 : Drawn w3 w3 b A c code := Drawn.refl hd.src
  obtain ⟨W4, hW4⟩ : ∃ W4, W4 = w3.alloc (.cells #[] 38) := ⟨_, rfl⟩
  have k4 : Below w3.heap.size w3 W4 := by rw [hW4]; exact kbelow _ _
  have z4 : W4.heap.size = w3.heap.size + 1 := by rw [hW4, World.size_alloc]
  have own4 : OwnSS W4 w3.heap.size (.slice (some ⟨w3.heap.size, 0, none⟩) 0 0) [] := by rw [hW4]; exact ⟨[], World.ownsRow_made w3 #[] 0 (Nat.le_refl _) (by decide) rfl, ElsOk.nil _ _, List.Pairwise.nil, rfl⟩
  have HSZ := Lib.hid (SizeOf_c A2 c2 ms W4 (by omega) (sm.below k4))
  go_upto_region 3 with fail
  rw [← hW4]
  clear hW4
  go_wp2_with fail
  refine HSZ.out.mono ?_
  rintro e w5 ⟨m, q, rfl, m0, m1, hb5⟩
  clear HSZ
  have own5 := own4.below hb5
  have d5 : Drawn w3 w5 b A c code := d3.below (btrans k4 hb5)
  clear own4
  go_upto_if 21 with fail
  go_cut [7] from 10 (fun s7 wx => (∃ m' : Int, s7 = .int .i64 m' ∧ 0 ≤ m' ∧ m' ≤ 2097152) ∧ wx = w5)
  case first =>
    by_cases hq : q = 0
    · have dz : (q != 0) = false := by simpa using hq
      clear hq
      go_wp2
      go_meet
      case rel => exact ⟨⟨m, rfl, m0, m1⟩, rfl⟩
    · have dz : (q != 0) = true := by simpa using hq
      clear hq
      go_wp2
      go_meet
      case rel => exact ⟨⟨4, rfl, by omega, by omega⟩, rfl⟩
  case rest =>
    obtain ⟨⟨m', rfl, m0', m1'⟩, rfl⟩ := hcut
    have HN3 := Lib.hid (l01Next_c 3 wc d5.src (by omega))
    go_upto_region 6 with fail
    go_cut [9] from 10 (fun s9 wx => ∃ k : Nat, s9 = .int .i64 k ∧ k ≤ 11 ∧ Drawn wc wx b A c code)
    case first =>
      go_wp2_with fail
      refine HN3.out.mono ?_
      rintro e w6 ⟨x, rfl, hx, _, hd6⟩
      obtain ⟨x0, x3⟩ := hx (by omega)
      have HN24 := Lib.hid (l01Next_c 24 w6 hd6.src (by omega))
      clear hx HN3
      go_wp2_with fail
      refine HN24.out.mono ?_
      rintro e w7 ⟨y, rfl, hy, _, hd7⟩
      obtain ⟨y0, y24⟩ := hy (by omega)
      have hd67 := hd6.trans hd7
      clear hy HN24 hd6 hd7
      obtain ⟨X, rfl⟩ := Int.eq_ofNat_of_zero_le x0
      by_cases hy23 : y = 23
      · subst hy23
        have hs : IntKind.i64.wrap ((X : Int) + 9) = ((X + 9 : Nat) : Int) := by rw [IntKind.wrap_i64]; omega
        go_wp2
        go_meet
        case rel => exact ⟨X + 9, by first | rfl | (rw [hs]), by omega, hd67⟩
      · have hdv : Int.tdiv y 23 = 0 := Int.tdiv_eq_zero_of_lt y0 (by omega)
        have hdv' : y / 23 = 0 := by omega
        have hs : IntKind.i64.wrap ((X : Int) + 0) = (X : Int) := by rw [IntKind.wrap_i64]; omega
        go_wp2
        go_meet
        case rel => exact ⟨X, by first | rfl | (rw [hs]) | simp, by omega, hd67⟩
    case rest =>
      obtain ⟨K, rfl, hK, hdk⟩ := hcut
      have d6 := d5.trans hdk
      have own6 := own5.drawn hb3 hdk
      have HNM := Lib.hid (fun W (hs : SrcAt W b A c code) => l01Next_c m' W hs (by omega))
      clear hdk own5 d5
      go_wp2
      go_loopw [6, 9] (fun v kv wr => ∃ (k : Nat) (prs : List (List Int)), kv = .int .i64 k ∧ prs.length + k ≤ 11 ∧ OwnSS wr w3.heap.size v prs ∧ Hid (∀ r ∈ prs, r.length ≤ 2) ∧ Drawn w3 wr b A c code) (fun _ kv _ => (intOf kv).toNat)
      case atStart => exact ⟨K, [], rfl, by simpa using hK, own6, Lib.hid (fun r hr => absurd hr (by simp)), d6⟩
      case round =>
        clear own6 d6
        obtain ⟨k, prs, rfl, hpk, own, HP2, hdr⟩ := hrel
        by_cases hk : 0 < k
        · have k0 : (0 : Int) < k := by omega
          have wk : IntKind.i64.wrap ((k : Int) - 1) = ((k - 1 : Nat) : Int) := by rw [IntKind.wrap_i64]; omega
          have HN1 := Lib.hid (HNM.out wr hdr.src)
          go_wp2_with fail
          refine HN1.out.mono ?_
          rintro e w6 ⟨x, rfl, _, _, hd6⟩
          have HN2 := Lib.hid (HNM.out w6 hd6.src)
          clear HN1
          go_wp2_with fail
          refine HN2.out.mono ?_
          rintro e w7 ⟨y, rfl, _, _, hd7⟩
          clear HN2
          have own7 := (own.drawn hb3 hd6).drawn hb3 hd7
          have hd7' := (hdr.trans hd6).trans hd7
          have zwx : w3.heap.size ≤ w7.heap.size := hd7'.keep.size
          clear own hd6 hd7
          obtain ⟨ws, h1, h2, h3, h4⟩ := own7.ex
          obtain ⟨Aw, cw, rfl, _⟩ := h1.at_
          have hwl : ws.length = prs.length := by rw [← h4, List.length_map]
          have hwl1 : ws.length ≤ 20 := by omega
          have HW := Lib.hid (⟨h1, h2, h3, h4⟩ : OwnSls w7 w3.heap.size (.slice Aw ws.length cw) ws ∧ ElsOk w7 w3.heap.size ws ∧ (ws.map Sl.v).Pairwise DisV ∧ ws.map Sl.xs = prs)
          have q1 := kbelow w7 (.cells #[.int .i64 x, .int .i64 y] 2)
          have q2 := btrans q1 (kbelow _ (.cells #[.slice (some ⟨w7.heap.size, 0, none⟩) 2 2] 38))
          have h14 := h1.below q2
          have hrow := (own_two w7 w3.heap.size zwx _ _ : OwnInts (w7.alloc (.cells #[.int .i64 x, .int .i64 y] 2)) w3.heap.size (.slice (some ⟨w7.heap.size, 0, none⟩) 2 2) [x, y]).below (kbelow _ (.cells #[.slice (some ⟨w7.heap.size, 0, none⟩) 2 2] 38))
          have zz2 := q2.size
          clear h1 h2 h3 h4 hwl own7
          go_wp2_with (at_builtin; go_must (refine wpList_push_sl _ rfl (.tmp 33) (.tmp 41) rfl w3.heap.size (.slice Aw ws.length cw) ws rfl h14 ⟨w7.heap.size + 1, 0, none⟩ ⟨some ⟨w7.heap.size, 0, none⟩, 2, [x, y]⟩ rfl (by simp [go_sem]) (by omega) (by omega) ?_; intro v9 w9 hown9 hgrow9 hv9; have h9 := hown9.at_; obtain ⟨A9, c9, rfl, _⟩ := h9))
          have hss := OwnSS.push (s := ⟨some ⟨w7.heap.size, 0, none⟩, 2, [x, y]⟩) HW.out.1 HW.out.2.1 HW.out.2.2.1 HW.out.2.2.2 q2 hrow (fun q hq => by simp [Sl.v, Value.ownBlock] at hq; omega) hgrow9 hown9
          have hd9 : Drawn w3 w9 b A c code := (hd7'.below q2).grown hb3 hgrow9 (fun k hk => (h14.lt k hk).1)
          go_roundw
          case rel => exact ⟨k - 1, prs ++ [[x, y]], by go_num, by rw [List.length_append, List.length_singleton]; omega, by simpa only [List.length_append, List.length_singleton] using hss, Lib.hid fun r hr => by
            rcases List.mem_append.1 hr with hr | hr
            · exact HP2.out r hr
            · rw [List.mem_singleton.1 hr]; simp, hd9⟩
          case measure => simp [intOf]; omega
        · obtain rfl : k = 0 := by omega
          have HN1 := Lib.hid (l01Next_c 24 wr hdr.src (by omega))
          clear hk
          go_wp2_with fail
          refine HN1.out.mono ?_
          rintro e w6 ⟨t, rfl, _, _, hd6⟩
          have own6 := own.drawn hb3 hd6
          have hd6' := hdr.trans hd6
          have zwx : w3.heap.size ≤ w6.heap.size := hd6'.keep.size
          clear HN1 own hd6
          by_cases ht0 : t = 0
          · subst ht0
            obtain ⟨ws, h1, h2, h3, h4⟩ := own6.ex
            obtain ⟨Aw, cw, rfl, _⟩ := h1.at_
            have hwl : ws.length = prs.length := by rw [← h4, List.length_map]
            have hwl1 : ws.length ≤ 20 := by omega
            have HW := Lib.hid (⟨h1, h2, h3, h4⟩ : OwnSls w6 w3.heap.size (.slice Aw ws.length cw) ws ∧ ElsOk w6 w3.heap.size ws ∧ (ws.map Sl.v).Pairwise DisV ∧ ws.map Sl.xs = prs)
            have q1 := kbelow w6 (.cells #[.int .i64 0, .int .i64 m'] 2)
            have q2 := btrans q1 (kbelow _ (.cells #[.slice (some ⟨w6.heap.size, 0, none⟩) 2 2] 38))
            have h14 := h1.below q2
            have hrow := (own_two w6 w3.heap.size zwx _ _ : OwnInts (w6.alloc (.cells #[.int .i64 0, .int .i64 m'] 2)) w3.heap.size (.slice (some ⟨w6.heap.size, 0, none⟩) 2 2) [0, m']).below (kbelow _ (.cells #[.slice (some ⟨w6.heap.size, 0, none⟩) 2 2] 38))
            have zz2 := q2.size
            clear h1 h2 h3 h4 hwl own6
            go_wp2_with (at_builtin; go_must (refine wpList_push_sl _ rfl (.tmp 47) (.tmp 50) rfl w3.heap.size (.slice Aw ws.length cw) ws rfl h14 ⟨w6.heap.size + 1, 0, none⟩ ⟨some ⟨w6.heap.size, 0, none⟩, 2, [0, m']⟩ rfl (by simp [go_sem]) (by omega) (by omega) ?_; intro v9 w9 hown9 hgrow9 hv9; have h9 := hown9.at_; obtain ⟨A9, c9, rfl, _⟩ := h9))
            have hss := OwnSS.push (s := ⟨some ⟨w6.heap.size, 0, none⟩, 2, [0, m']⟩) HW.out.1 HW.out.2.1 HW.out.2.2.1 HW.out.2.2.2 q2 hrow (fun q hq => by simp [Sl.v, Value.ownBlock] at hq; omega) hgrow9 hown9
            have hd9 : Drawn w3 w9 b A c code := (hd6'.below q2).grown hb3 hgrow9 (fun k hk => (h14.lt k hk).1)
            have hbl9 : Below w.heap.size w w9 := Drawn.newer hbl3 (by omega) hd9
            have hlen9 : (ws ++ [(⟨some ⟨w6.heap.size, 0, none⟩, 2, [0, m']⟩ : Sl)]).length = (prs ++ [[0, m']]).length := by rw [List.length_append, List.length_append, ← HW.out.2.2.2, List.length_map]; rfl
            have hss' : OwnSS w9 w.heap.size (.slice A9 (prs ++ [[0, m']]).length c9) (prs ++ [[0, m']]) := by
              have h := hss.mono hbl3.size
              rw [hlen9] at h
              exact h
            have hin9 : InS (fun k => w.heap.size ≤ k) A2 := hin.mono fun k hk => Nat.le_trans hb2.size hk.2
            have HF := Lib.hid (⟨sm.drawn hin.ne hd9, nm, hin9, hss', by rw [List.length_append, List.length_singleton]; omega, fun r hr => by
              rcases List.mem_append.1 hr with hr | hr
              · exact HP2.out r hr
              · rw [List.mem_singleton.1 hr]; simp, h7, hbl9⟩ : SeeMaps w9 A2 ms ∧ NilOk A2 c2 ∧ InS (fun k => w.heap.size ≤ k) A2 ∧ OwnSS w9 w.heap.size (.slice A9 (prs ++ [[0, m']]).length c9) (prs ++ [[0, m']]) ∧ (prs ++ [[0, m']]).length ≤ 20 ∧ (∀ r ∈ prs ++ [[0, m']], r.length ≤ 2) ∧ ms.length ≤ 7 ∧ Below w.heap.size w w9)
            clear hlen9
            have HLN := Lib.hid (show ws.length + 1 = (prs ++ [[0, m']]).length by rw [List.length_append, ← HW.out.2.2.2, List.length_map]; rfl)
            go_returns
            exact ⟨A2, c2, ms, A9, c9, prs ++ [[0, m']], by rw [← HLN.out]; rfl, HF.out⟩
          · have dt0 : (t == 0) = false := by simpa using ht0
            clear ht0
            by_cases ht1 : t = 1
            · subst ht1
              clear dt0
              obtain ⟨ws, h1, h2, h3, h4⟩ := own6.ex
              obtain ⟨Aw, cw, rfl, _⟩ := h1.at_
              have hwl : ws.length = prs.length := by rw [← h4, List.length_map]
              have hwl1 : ws.length ≤ 20 := by omega
              have HW := Lib.hid (⟨h1, h2, h3, h4⟩ : OwnSls w6 w3.heap.size (.slice Aw ws.length cw) ws ∧ ElsOk w6 w3.heap.size ws ∧ (ws.map Sl.v).Pairwise DisV ∧ ws.map Sl.xs = prs)
              have q1 := kbelow w6 (.cells #[.int .i64 0] 2)
              have q2 := btrans q1 (kbelow _ (.cells #[.slice (some ⟨w6.heap.size, 0, none⟩) 1 1] 38))
              have h14 := h1.below q2
              have hrow := (OwnInts.one w6 w3.heap.size zwx _ : OwnInts (w6.alloc (.cells #[.int .i64 0] 2)) w3.heap.size (.slice (some ⟨w6.heap.size, 0, none⟩) 1 1) [0]).below (kbelow _ (.cells #[.slice (some ⟨w6.heap.size, 0, none⟩) 1 1] 38))
              have zz2 := q2.size
              clear h1 h2 h3 h4 hwl own6
              go_wp2_with (at_builtin; go_must (refine wpList_push_sl _ rfl (.tmp 54) (.tmp 56) rfl w3.heap.size (.slice Aw ws.length cw) ws rfl h14 ⟨w6.heap.size + 1, 0, none⟩ ⟨some ⟨w6.heap.size, 0, none⟩, 1, [0]⟩ rfl (by simp [go_sem]) (by omega) (by omega) ?_; intro v9 w9 hown9 hgrow9 hv9; have h9 := hown9.at_; obtain ⟨A9, c9, rfl, _⟩ := h9))
              have hss := OwnSS.push (s := ⟨some ⟨w6.heap.size, 0, none⟩, 1, [0]⟩) HW.out.1 HW.out.2.1 HW.out.2.2.1 HW.out.2.2.2 q2 hrow (fun q hq => by simp [Sl.v, Value.ownBlock] at hq; omega) hgrow9 hown9
              have hd9 : Drawn w3 w9 b A c code := (hd6'.below q2).grown hb3 hgrow9 (fun k hk => (h14.lt k hk).1)
              have hbl9 : Below w.heap.size w w9 := Drawn.newer hbl3 (by omega) hd9
              have hlen9 : (ws ++ [(⟨some ⟨w6.heap.size, 0, none⟩, 1, [0]⟩ : Sl)]).length = (prs ++ [[0]]).length := by rw [List.length_append, List.length_append, ← HW.out.2.2.2, List.length_map]; rfl
              have hss' : OwnSS w9 w.heap.size (.slice A9 (prs ++ [[0]]).length c9) (prs ++ [[0]]) := by
                have h := hss.mono hbl3.size
                rw [hlen9] at h
                exact h
              have hin9 : InS (fun k => w.heap.size ≤ k) A2 := hin.mono fun k hk => Nat.le_trans hb2.size hk.2
              have HF := Lib.hid (⟨sm.drawn hin.ne hd9, nm, hin9, hss', by rw [List.length_append, List.length_singleton]; omega, fun r hr => by
                rcases List.mem_append.1 hr with hr | hr
                · exact HP2.out r hr
                · rw [List.mem_singleton.1 hr]; simp, h7, hbl9⟩ : SeeMaps w9 A2 ms ∧ NilOk A2 c2 ∧ InS (fun k => w.heap.size ≤ k) A2 ∧ OwnSS w9 w.heap.size (.slice A9 (prs ++ [[0]]).length c9) (prs ++ [[0]]) ∧ (prs ++ [[0]]).length ≤ 20 ∧ (∀ r ∈ prs ++ [[0]], r.length ≤ 2) ∧ ms.length ≤ 7 ∧ Below w.heap.size w w9)
              clear hlen9
              have HLN := Lib.hid (show ws.length + 1 = (prs ++ [[0]]).length by rw [List.length_append, ← HW.out.2.2.2, List.length_map]; rfl)
              go_returns
              exact ⟨A2, c2, ms, A9, c9, prs ++ [[0]], by rw [← HLN.out]; rfl, HF.out⟩
            · have dt1 : (t == 1) = false := by simpa using ht1
              clear ht1
              have hbl9 : Below w.heap.size w w6 := Drawn.newer hbl3 (by omega) hd6'
              obtain ⟨A9, c9, rfl, _⟩ := own6.see
              have HF := Lib.hid (⟨sm.drawn hin.ne hd6', nm, hin.mono fun k hk => Nat.le_trans hb2.size hk.2, own6.mono hbl3.size, by omega, HP2.out, h7, hbl9⟩ : SeeMaps w6 A2 ms ∧ NilOk A2 c2 ∧ InS (fun k => w.heap.size ≤ k) A2 ∧ OwnSS w6 w.heap.size (.slice A9 prs.length c9) prs ∧ prs.length ≤ 20 ∧ (∀ r ∈ prs, r.length ≤ 2) ∧ ms.length ≤ 7 ∧ Below w.heap.size w w6)
              clear own6
              go_wp2
              go_returns
              exact ⟨A2, c2, ms, A9, c9, prs, rfl, HF.out⟩
-- end of the pairs
end Go.Proofs.YtjepmbjneccagaaGreat
