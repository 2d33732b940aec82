/- 'l06Closed': classes joined until they are stable. No condition. -/
import Derived.Test.YtjepmbjneccagaaGreatMade
import Derived.Test.YtjepmbjneccagaaGreatNamed
namespace Go.Proofs.YtjepmbjneccagaaGreat
set_option linter.unusedSimpArgs false
set_option linter.unusedVariables false
set_option linter.unusedSectionVars false
open Go.RowKit
def Scan (cl cq : List Int) (mq : Bool) (ok : Prop) : Prop := (mq = false ∧ cq = cl ∧ ok) ∨ (mq = true ∧ dist cq < dist cl)
theorem Scan.imp {cl cq : List Int} {mq : Bool} {ok ok' : Prop} (h : Scan cl cq mq ok) (f : ok → cq = cl → ok') : Scan cl cq mq ok' := by
  rcases h with ⟨h1, h2, h3⟩ | h
  · exact .inl ⟨h1, h2, f h3 h2⟩
  · exact .inr h
theorem Scan.imp2 {cl cq : List Int} {mq : Bool} {ok ok' : Prop} (h : Scan cl cq mq ok) (f : mq = false → ok → cq = cl → ok') : Scan cl cq mq ok' := by
  rcases h with ⟨h1, h2, h3⟩ | h
  · exact .inl ⟨h1, h2, f h1 h3 h2⟩
  · exact .inr h
theorem Scan.join {cl cq cr : List Int} {mq : Bool} {ok ok' : Prop} (h : Scan cl cq mq ok) (hd : dist cr < dist cq) : Scan cl cr true ok' := by
  rcases h with ⟨_, h2, _⟩ | ⟨_, h2⟩
  · exact .inr ⟨rfl, by rw [← h2]; exact hd⟩
  · exact .inr ⟨rfl, by omega⟩
def OkA (N : Nat) (T : Nat → Nat → Nat) (both : Bool) (cl : List Int) (a : Nat) : Prop := ∀ a' b', a' < a → b' < a' → relL cl a' b' → ∀ c, c < N → OkC T both cl a' b' c
def OkB (N : Nat) (T : Nat → Nat → Nat) (both : Bool) (cl : List Int) (a b : Nat) : Prop := OkA N T both cl a ∧ ∀ b', b' < b → relL cl a b' → ∀ c, c < N → OkC T both cl a b' c
def OkCc (N : Nat) (T : Nat → Nat → Nat) (both : Bool) (cl : List Int) (a b c : Nat) : Prop := OkB N T both cl a b ∧ ∀ c', c' < c → OkC T both cl a b c'
theorem OkA.zero {N : Nat} {T : Nat → Nat → Nat} {both : Bool} {cl : List Int} : OkA N T both cl 0 := fun a' b' h => by omega
theorem OkA.b {N : Nat} {T : Nat → Nat → Nat} {both : Bool} {cl : List Int} {a : Nat} (h : OkA N T both cl a) : OkB N T both cl a 0 := ⟨h, fun b' h => by omega⟩
theorem OkB.c {N : Nat} {T : Nat → Nat → Nat} {both : Bool} {cl : List Int} {a b : Nat} (h : OkB N T both cl a b) : OkCc N T both cl a b 0 := ⟨h, fun c' h => by omega⟩
theorem OkCc.step {N : Nat} {T : Nat → Nat → Nat} {both : Bool} {cl : List Int} {a b c : Nat} (h : OkCc N T both cl a b c) (hc : OkC T both cl a b c) : OkCc N T both cl a b (c + 1) := ⟨h.1, fun c' h' => by
  by_cases e : c' = c
  · subst e; exact hc
  · exact h.2 c' (by omega)⟩
theorem OkCc.done {N : Nat} {T : Nat → Nat → Nat} {both : Bool} {cl : List Int} {a b : Nat} (h : OkCc N T both cl a b N) : OkB N T both cl a (b + 1) := ⟨h.1.1, fun b' h' hr c hc => by
  by_cases e : b' = b
  · subst e; exact h.2 c hc
  · exact h.1.2 b' (by omega) hr c hc⟩
theorem OkB.skip {N : Nat} {T : Nat → Nat → Nat} {both : Bool} {cl : List Int} {a b : Nat} (h : OkB N T both cl a b) (hn : ¬ relL cl a b) : OkB N T both cl a (b + 1) := ⟨h.1, fun b' h' hr c hc => by
  by_cases e : b' = b
  · subst e; exact absurd hr hn
  · exact h.2 b' (by omega) hr c hc⟩
theorem OkB.done {N : Nat} {T : Nat → Nat → Nat} {both : Bool} {cl : List Int} {a : Nat} (h : OkB N T both cl a a) : OkA N T both cl (a + 1) := fun a' b' h1 h2 hr c hc => by
  by_cases e : a' = a
  · subst e; exact h.2 b' h2 hr c hc
  · exact h.1 a' b' (by omega) h2 hr c hc
theorem OkA.stab {N : Nat} {T : Nat → Nat → Nat} {both : Bool} {cl : List Int} (h : OkA N T both cl N) : StabN N T both (relL cl) := stab_of fun a b ha hb hr c hc => h a b ha hb hr c hc
/-- what holds of the classes all along -/
structure ClI (N : Nat) (T : Nat → Nat → Nat) (both : Bool) (P : Nat → Nat → Prop) (cq : List Int) : Prop where
  len : cq.length = N
  sound : ∀ i k, i < N → k < N → relL cq i k → Gen N T both P i k
  has : ∀ x y, x < N → y < N → P x y → relL cq x y
theorem ClI.join {N : Nat} {T : Nat → Nat → Nat} {both : Bool} {P : Nat → Nat → Prop} {cq : List Int} (h : ClI N T both P cq) {x y : Nat} (hx : x < N) (hy : y < N) (hf : Forced N T both cq x y) (hn : ¬ cls cq x = cls cq y) :
    ClI N T both P (joinL cq (cls cq x) (cls cq y)) ∧ dist (joinL cq (cls cq x) (cls cq y)) < dist cq ∧ ∀ i k, i < N → k < N → relL cq i k → relL (joinL cq (cls cq x) (cls cq y)) i k := by
  have hl := h.len
  have keep : ∀ i k, i < N → k < N → relL cq i k → relL (joinL cq (cls cq x) (cls cq y)) i k := fun i k hi hk hr => join_keeps (by omega) (by omega) hr
  exact ⟨⟨by rw [joinL_length]; exact hl, sound_join hl h.sound hx hy (forced_gen h.sound hf), fun x' y' hx' hy' hp => keep x' y' hx' hy' (h.has x' y' hx' hy' hp)⟩, dist_join (mem_cls (by omega)) (mem_cls (by omega)) hn, keep⟩
section
variable {rows : List (List Int)} {N : Nat} {T : Nat → Nat → Nat}
set_option maxHeartbeats 16000000 in
set_option maxRecDepth 100000 in
theorem l06Closed_c (A A' : Option Addr) (c c' : Nat) (root : List Int) (both : Bool) (P : Nat → Nat → Prop) (w : World) (ht : TabOk rows N T) (h0 : 0 < N) (hN : N ≤ 300) (h : SeeTab w A rows) (h' : SeeInts w A' root) (hi : ClI N T both P root) (hA' : NilOk A' c') :
    Calls Tryz.prog 65 #[.slice A N c, .slice A' N c', .bool both] w fun e w' => ∃ v, e = .returned v ∧ OwnInts w' w.heap.size v (genL N T both P) ∧ Below w.heap.size w w' := by
  obtain ⟨bt, ot, rfl, ta⟩ := h.at_ ht h0
  have hl := hi.len
  have HLT := Lib.hid (show ∀ i k, i < N → k < N → T i k < N from fun i k hi hk => by obtain ⟨_, _, _, _, h⟩ := ht.row i k hi hk; exact h)
  have TA := Lib.hid ta
  have HI := Lib.hid hi
  have hown := l01Own_c A' c' root w h' hA' (by omega)
  rw [hl] at hown
  have HO := Lib.hid hown
  obtain ⟨res, hres⟩ : ∃ res, res = genL N T both P := ⟨_, rfl⟩
  rw [← hres]
  have HRES := Lib.hid hres
  clear ht h h' ta hown hres hi hl
  go_enter Tryz.func65, Tryz.ntmps65
  go_wp2_with fail
  refine HO.out.mono ?_
  rintro e w1 ⟨v1, rfl, own1, hb1⟩
  obtain ⟨A1, c1, rfl, s1⟩ := own1.see
  rw [HI.out.len] at own1 ⊢
  obtain ⟨g, o, e1, _⟩ := s1.cls (by rw [HI.out.len]; exact h0)
  subst e1
  have eo : o = 0 := by
    rcases own1.2 with ⟨h1, _⟩ | ⟨_, _, _, h1, _⟩
    · simp at h1
    · simp at h1; exact h1.1.2
  subst eo
  have hg0 := (own1.lt g rfl).1
  clear s1 HO
  go_wp2
  go_loopg [7] (N + 1) (fun m mv wr => ∃ (cl : List Int) (mb : Bool), mv = .bool mb ∧ OwnInts wr w.heap.size (.slice (some ⟨g, 0, none⟩) N c1) cl ∧ Hid (ClI N T both P cl) ∧ Hid ((mb = true ∧ dist cl + 1 ≤ m) ∨ (mb = false ∧ StabN N T both (relL cl))) ∧ Below w.heap.size w wr)
  case atStart => exact ⟨root, true, rfl, own1, HI, Lib.hid (.inl ⟨rfl, by have := dist_le root; rw [HI.out.len] at this; omega⟩), hb1⟩
  case round =>
    clear own1 HI hb1
    obtain ⟨cl, mb, rfl, own, hI, hM, hb⟩ := hrel
    cases mb
    · have hst : StabN N T both (relL cl) := by
        rcases hM.out with ⟨h, _⟩ | ⟨_, h⟩
        · cases h
        · exact h
      have hnam := fun W (hW : SeeInts W (some ⟨g, 0, none⟩) cl) => l06Named_c (some ⟨g, 0, none⟩) c1 cl W hW (by rw [hI.out.len]; omega)
      rw [hI.out.len, genL_of hI.out.sound hI.out.has hst, ← HRES.out] at hnam
      have HN := Lib.hid (hnam _ own.see')
      clear hnam hst own
      go_wp2_with fail
      refine HN.out.mono ?_
      rintro e w2 ⟨v2, rfl, own2, hb2⟩
      obtain ⟨A2, c2, rfl, _⟩ := own2.see
      go_wp2
      go_returns
      exact ⟨_, rfl, own2.mono hb.size, btrans hb hb2⟩
    · have hd : dist cl + 1 ≤ gk := by
        rcases hM.out with ⟨_, h⟩ | ⟨h, _⟩
        · exact h
        · cases h
      have HD := Lib.hid hd
      clear hd hM
      go_wp2
      go_loopw [8, 7] (fun av mv wr => ∃ (a : Nat) (cq : List Int) (mq : Bool), a ≤ N ∧ av = .int .i64 a ∧ mv = .bool mq ∧ OwnInts wr w.heap.size (.slice (some ⟨g, 0, none⟩) N c1) cq ∧ Hid (ClI N T both P cq) ∧ Hid (Scan cl cq mq (OkA N T both cl a)) ∧ Below w.heap.size w wr) (fun av _ _ => N - (intOf av).toNat)
      case atStart => exact ⟨0, cl, false, Nat.zero_le _, rfl, rfl, own, hI, Lib.hid (.inl ⟨rfl, rfl, OkA.zero⟩), hb⟩
      case round =>
        clear own hI hb
        obtain ⟨a, cq, mq, ha, rfl, rfl, own, hI, hS, hb⟩ := hrel
        have a0 : (0 : Int) ≤ a := by omega
        by_cases halt : a < N
        · have a1 : (a : Int) < N := by omega
          go_wp2
          go_loopw [9, 7] (fun bv mv wr => ∃ (b : Nat) (cq : List Int) (mq : Bool), b ≤ a ∧ bv = .int .i64 b ∧ mv = .bool mq ∧ OwnInts wr w.heap.size (.slice (some ⟨g, 0, none⟩) N c1) cq ∧ Hid (ClI N T both P cq) ∧ Hid (Scan cl cq mq (OkB N T both cl a b)) ∧ Below w.heap.size w wr) (fun bv _ _ => a - (intOf bv).toNat)
          case atStart => exact ⟨0, cq, mq, Nat.zero_le _, rfl, rfl, own, hI, Lib.hid (hS.out.imp fun h _ => h.b), hb⟩
          case round =>
            clear own hI hS hb
            obtain ⟨b, cq, mq, hbl, rfl, rfl, own, hI, hS, hb⟩ := hrel
            have b0 : (0 : Int) ≤ b := by omega
            by_cases hblt : b < a
            · have b1 : (b : Int) < N := by omega
              have b2 : (b : Int) < a := by omega
              have hlq := hI.out.len
              have ga := bwcell (own.at_ (cls_get (cl := cq) (i := a) (by omega)))
              have gb := bwcell (own.at_ (cls_get (cl := cq) (i := b) (by omega)))
              have HREL := Lib.hid (show relL cq a b ↔ cls cq a = cls cq b from Iff.rfl)
              have OWN := Lib.hid own
              clear own hlq
              generalize cls cq a = xa at *
              generalize cls cq b = xb at *
              by_cases e : xa = xb
              · have d : (xa != xb) = false := by simpa using e
                have HAB := Lib.hid (HREL.out.2 e)
                clear e HREL
                go_wp2
                refine wp_region_bw (by kernel_rfl) (by kernel_rfl) ?_
                repeat go_big_quiet_step (fail)
                refine wpQuiet_nil ?_
                rintro w2 ⟨⟨w2x, hb2⟩, rfl⟩
                have own := OWN.out.below hb2
                replace hb := btrans hb hb2
                clear ga gb d OWN
                go_wp2
                go_loopw [10, 7] (fun cv mv wr => ∃ (c : Nat) (cq : List Int) (mq : Bool), c ≤ N ∧ cv = .int .i64 c ∧ mv = .bool mq ∧ OwnInts wr w.heap.size (.slice (some ⟨g, 0, none⟩) N c1) cq ∧ Hid (ClI N T both P cq) ∧ Hid (Scan cl cq mq (OkCc N T both cl a b c)) ∧ Hid (relL cq a b) ∧ Below w.heap.size w wr) (fun cv _ _ => N - (intOf cv).toNat)
                case atStart => exact ⟨0, cq, mq, Nat.zero_le _, rfl, rfl, own, hI, Lib.hid (hS.out.imp fun h _ => h.c), HAB, hb⟩
                case round =>
                  clear own hI hS hb hb2 HAB
                  obtain ⟨c, cq, mq, hcl, rfl, rfl, own, hI, hS, HAB, hb⟩ := hrel
                  have c0 : (0 : Int) ≤ c := by omega
                  by_cases hclt : c < N
                  · have cc1 : (c : Int) < N := by omega
                    obtain ⟨b3, o3, c3, r3, q3⟩ := TA.out a halt
                    obtain ⟨b4, o4, c4, r4, q4⟩ := TA.out b (by omega)
                    have t3 := HLT.out a c halt hclt
                    have t4 := HLT.out b c (by omega) hclt
                    have k3 := bcell hb r3
                    have k4 := bcell hb r4
                    have m3 := bcell hb (q3 c hclt)
                    have m4 := bcell hb (q4 c hclt)
                    have x0 : (0 : Int) ≤ (T a c : Nat) := by omega
                    have x1 : ((T a c : Nat) : Int) < N := by omega
                    have y0 : (0 : Int) ≤ (T b c : Nat) := by omega
                    have y1 : ((T b c : Nat) : Int) < N := by omega
                    have hlq : cq.length = N := hI.out.len
                    have gx := own.at_ (cls_get (cl := cq) (i := T a c) (by omega))
                    have gy := own.at_ (cls_get (cl := cq) (i := T b c) (by omega))
                    have HF := Lib.hid (show Forced N T both cq (T a c) (T b c) from ⟨a, b, c, halt, by omega, hclt, HAB.out, .inl ⟨rfl, rfl⟩⟩)
                    obtain ⟨x, hx⟩ : ∃ x, x = T a c := ⟨_, rfl⟩
                    obtain ⟨y, hy⟩ : ∃ y, y = T b c := ⟨_, rfl⟩
                    rw [← hx] at HF m3 gx t3 x0 x1
                    rw [← hy] at HF m4 gy t4 y0 y1
                    have HX := Lib.hid hx
                    have HY := Lib.hid hy
                    have HJ := Lib.hid (fun hf hn => hI.out.join (x := x) (y := y) t3 t4 hf hn)
                    have HJC := Lib.hid (fun W (hW : OwnInts W w.heap.size (.slice (some ⟨g, 0, none⟩) cq.length c1) cq) => l06Join_c g c1 w.heap.size cq (cls cq x) (cls cq y) W hW (by omega))
                    have HR1 := Lib.hid (show relL cq x y ↔ cls cq x = cls cq y from Iff.rfl)
                    rw [hlq] at HJC
                    clear hx hy q3 r3 hlq q4 r4
                    have OWN := Lib.hid own
                    clear own
                    generalize cls cq x = vx at *
                    generalize cls cq y = vy at *
                    have uk3 := bwcell k3
                    have uk4 := bwcell k4
                    have um3 := bwcell m3
                    have um4 := bwcell m4
                    have ugx := bwcell gx
                    have ugy := bwcell gy
                    by_cases e : vx = vy
                    · have d : (vx != vy) = false := by simpa using e
                      have HO1 := Lib.hid (show mq = false → relL cq (T a c) (T b c) from fun _ => by rw [← HX.out, ← HY.out]; exact HR1.out.2 e)
                      clear e HJ HJC HF HR1 HX HY k3 k4 m3 m4 gx gy
                      go_wp2
                      refine wp_region_bw (by kernel_rfl) (by kernel_rfl) ?_
                      repeat go_big_quiet_step (fail)
                      refine wpQuiet_nil ?_
                      rintro w8 ⟨⟨w8x, hb8⟩, rfl⟩
                      have own := OWN.out.below hb8
                      replace hb := btrans hb hb8
                      clear OWN d hb8 t3 t4 x0 x1 y0 y1 uk3 uk4 um3 um4 ugx ugy
                      cases both
                      · skip
                        have HS2 := Lib.hid (show Scan cl cq mq (OkCc N T false cl a b (c + 1)) from hS.out.imp2 fun hm h e => h.step ⟨by rw [← e]; exact HO1.out hm, fun h => by cases h⟩)
                        go_wp2
                        refine wp_region_bw (by kernel_rfl) (by kernel_rfl) ?_
                        repeat go_big_quiet_step (fail)
                        refine wpQuiet_nil ?_
                        rintro w9 ⟨⟨w9x, hb9⟩, rfl⟩
                        go_wp2
                        go_roundw
                        case rel => exact ⟨c + 1, cq, mq, by omega, by go_num, rfl, own.below hb9, hI, HS2, HAB, btrans hb hb9⟩
                        case measure => simp [intOf]; omega
                      · skip
                        obtain ⟨b3, o3, c3, r3, q3⟩ := TA.out c hclt
                        have t3 := HLT.out c a hclt halt
                        have t4 := HLT.out c b hclt (by omega)
                        have k3 := bcell hb r3
                        have m3 := bcell hb (q3 a halt)
                        have m4 := bcell hb (q3 b (by omega))
                        have x0 : (0 : Int) ≤ (T c a : Nat) := by omega
                        have x1 : ((T c a : Nat) : Int) < N := by omega
                        have y0 : (0 : Int) ≤ (T c b : Nat) := by omega
                        have y1 : ((T c b : Nat) : Int) < N := by omega
                        have hlq : cq.length = N := hI.out.len
                        have gx := own.at_ (cls_get (cl := cq) (i := T c a) (by omega))
                        have gy := own.at_ (cls_get (cl := cq) (i := T c b) (by omega))
                        have HF := Lib.hid (show true = true → Forced N T true cq (T c a) (T c b) from fun hB => ⟨a, b, c, halt, by omega, hclt, HAB.out, .inr ⟨hB, rfl, rfl⟩⟩)
                        obtain ⟨x, hx⟩ : ∃ x, x = T c a := ⟨_, rfl⟩
                        obtain ⟨y, hy⟩ : ∃ y, y = T c b := ⟨_, rfl⟩
                        rw [← hx] at HF m3 gx t3 x0 x1
                        rw [← hy] at HF m4 gy t4 y0 y1
                        have HX := Lib.hid hx
                        have HY := Lib.hid hy
                        have HJ := Lib.hid (fun hf hn => hI.out.join (x := x) (y := y) t3 t4 hf hn)
                        have HJC := Lib.hid (fun W (hW : OwnInts W w.heap.size (.slice (some ⟨g, 0, none⟩) cq.length c1) cq) => l06Join_c g c1 w.heap.size cq (cls cq x) (cls cq y) W hW (by omega))
                        have HR1 := Lib.hid (show relL cq x y ↔ cls cq x = cls cq y from Iff.rfl)
                        rw [hlq] at HJC
                        clear hx hy q3 r3 hlq
                        have OWN := Lib.hid own
                        clear own
                        generalize cls cq x = vx at *
                        generalize cls cq y = vy at *
                        have uk3 := bwcell k3
                        have um3 := bwcell m3
                        have um4 := bwcell m4
                        have ugx := bwcell gx
                        have ugy := bwcell gy
                        by_cases e : vx = vy
                        · have d : (vx != vy) = false := by simpa using e
                          have HS2 := Lib.hid (show Scan cl cq mq (OkCc N T true cl a b (c + 1)) from hS.out.imp2 fun hm h e1 => h.step ⟨by rw [← e1]; exact HO1.out hm, fun _ => by rw [← e1, ← HX.out, ← HY.out]; exact HR1.out.2 e⟩)
                          clear e HJ HJC HF HR1 k3 m3 m4 gx gy
                          go_wp2
                          refine wp_region_bw (by kernel_rfl) (by kernel_rfl) ?_
                          repeat go_big_quiet_step (fail)
                          refine wpQuiet_nil ?_
                          rintro w9 ⟨⟨w9x, hb9⟩, rfl⟩
                          go_wp2
                          go_roundw
                          case rel => exact ⟨c + 1, cq, mq, by omega, by go_num, rfl, OWN.out.below hb9, hI, HS2, HAB, btrans hb hb9⟩
                          case measure => simp [intOf]; omega
                        · have d : (vx != vy) = true := by simpa using e
                          obtain ⟨j1, j2, j3⟩ := HJ.out (HF.out (by first | rfl | trivial)) e
                          have J1 := Lib.hid j1
                          have J3 := Lib.hid (j3 a b halt (by omega) HAB.out)
                          have HS2 := Lib.hid (show Scan cl (joinL cq vx vy) true (OkCc N T true cl a b (c + 1)) from hS.out.join j2)
                          clear e HJ HF HR1 j1 j2 j3
                          go_wp2
                          refine wp_region_bw (by kernel_rfl) (by kernel_rfl) ?_
                          repeat go_big_quiet_step (fail)
                          refine wpQuiet_nil ?_
                          rintro w9 ⟨⟨w9x, hb9⟩, rfl⟩
                          replace k3 := bcell hb9 k3
                          replace m3 := bcell hb9 m3
                          replace m4 := bcell hb9 m4
                          replace gx := bcell hb9 gx
                          replace gy := bcell hb9 gy
                          clear uk3 um3 um4 ugx ugy
                          go_wp2
                          go_still_tail 21, (by kernel_rfl)
                          change wpList _ _ _ _ _ w9.drew
                          go_wp2_with fail
                          refine (HJC.out _ (OWN.out.below (btrans hb9 (bdr (Below.refl _ _))))).mono ?_
                          rintro e w10 ⟨rfl, own10, hk10⟩
                          have hb10 : Below w.heap.size w w10 := (btrans hb hb9).trans (Below.trans (bdrewN (Below.refl _ _) 1) (hk10.below (by show w.heap.size ≤ w9.heap.size; exact (btrans hb hb9).size) (fun j hj => by show j ≠ g; omega)))
                          clear k3 m3 m4 gx gy
                          go_wp2
                          go_roundw
                          case rel => exact ⟨c + 1, joinL cq vx vy, true, by omega, by go_num, rfl, own10, J1, HS2, J3, hb10⟩
                          case measure => simp [intOf]; omega
                    · have d : (vx != vy) = true := by simpa using e
                      obtain ⟨j1, j2, j3⟩ := HJ.out HF.out e
                      have hI2 := Lib.hid j1
                      have HAB2 := Lib.hid (j3 a b halt (by omega) HAB.out)
                      have hS2 := Lib.hid (show Scan cl (joinL cq vx vy) true (OkCc N T both cl a b c) from hS.out.join j2)
                      clear e HJ HF HR1 HX HY j1 j2 j3 hS hI HAB
                      go_wp2
                      refine wp_region_bw (by kernel_rfl) (by kernel_rfl) ?_
                      repeat go_big_quiet_step (fail)
                      refine wpQuiet_nil ?_
                      rintro w8 ⟨⟨w8x, hb8⟩, rfl⟩
                      replace k3 := bcell hb8 k3
                      replace k4 := bcell hb8 k4
                      replace m3 := bcell hb8 m3
                      replace m4 := bcell hb8 m4
                      replace gx := bcell hb8 gx
                      replace gy := bcell hb8 gy
                      clear uk3 uk4 um3 um4 ugx ugy
                      go_wp2
                      go_still_tail 21, (by kernel_rfl)
                      change wpList _ _ _ _ _ w8.drew
                      go_wp2_with fail
                      refine (HJC.out _ (OWN.out.below (btrans hb8 (bdr (Below.refl _ _))))).mono ?_
                      rintro e w7 ⟨rfl, own, hk7⟩
                      have hb7 : Below w.heap.size w w7 := (btrans hb hb8).trans (Below.trans (bdrewN (Below.refl _ _) 1) (hk7.below (by show w.heap.size ≤ w8.heap.size; exact (btrans hb hb8).size) (fun j hj => by show j ≠ g; omega)))
                      clear OWN d hb8 hb t3 t4 x0 x1 y0 y1 hk7 HJC k3 k4 m3 m4 gx gy
                      have hb := hb7
                      have hI := hI2
                      have HAB := HAB2
                      have hS := hS2
                      clear hb7 hI2 HAB2 hS2
                      obtain ⟨cj, hcj⟩ : ∃ cj, cj = joinL cq vx vy := ⟨_, rfl⟩
                      rw [← hcj] at own hI HAB hS
                      clear hcj
                      have HO1 := Lib.hid (show (true = false → relL cj (T a c) (T b c)) from fun h => by cases h)
                      cases both
                      · skip
                        have HS2 := Lib.hid (show Scan cl cj true (OkCc N T false cl a b (c + 1)) from hS.out.imp2 fun hm h e => h.step ⟨by rw [← e]; exact HO1.out hm, fun h => by cases h⟩)
                        go_wp2
                        refine wp_region_bw (by kernel_rfl) (by kernel_rfl) ?_
                        repeat go_big_quiet_step (fail)
                        refine wpQuiet_nil ?_
                        rintro w9 ⟨⟨w9x, hb9⟩, rfl⟩
                        go_wp2
                        go_roundw
                        case rel => exact ⟨c + 1, cj, true, by omega, by go_num, rfl, own.below hb9, hI, HS2, HAB, btrans hb hb9⟩
                        case measure => simp [intOf]; omega
                      · skip
                        obtain ⟨b3, o3, c3, r3, q3⟩ := TA.out c hclt
                        have t3 := HLT.out c a hclt halt
                        have t4 := HLT.out c b hclt (by omega)
                        have k3 := bcell hb r3
                        have m3 := bcell hb (q3 a halt)
                        have m4 := bcell hb (q3 b (by omega))
                        have x0 : (0 : Int) ≤ (T c a : Nat) := by omega
                        have x1 : ((T c a : Nat) : Int) < N := by omega
                        have y0 : (0 : Int) ≤ (T c b : Nat) := by omega
                        have y1 : ((T c b : Nat) : Int) < N := by omega
                        have hlq : cj.length = N := hI.out.len
                        have gx := own.at_ (cls_get (cl := cj) (i := T c a) (by omega))
                        have gy := own.at_ (cls_get (cl := cj) (i := T c b) (by omega))
                        have HF := Lib.hid (show true = true → Forced N T true cj (T c a) (T c b) from fun hB => ⟨a, b, c, halt, by omega, hclt, HAB.out, .inr ⟨hB, rfl, rfl⟩⟩)
                        obtain ⟨x, hx⟩ : ∃ x, x = T c a := ⟨_, rfl⟩
                        obtain ⟨y, hy⟩ : ∃ y, y = T c b := ⟨_, rfl⟩
                        rw [← hx] at HF m3 gx t3 x0 x1
                        rw [← hy] at HF m4 gy t4 y0 y1
                        have HX := Lib.hid hx
                        have HY := Lib.hid hy
                        have HJ := Lib.hid (fun hf hn => hI.out.join (x := x) (y := y) t3 t4 hf hn)
                        have HJC := Lib.hid (fun W (hW : OwnInts W w.heap.size (.slice (some ⟨g, 0, none⟩) cj.length c1) cj) => l06Join_c g c1 w.heap.size cj (cls cj x) (cls cj y) W hW (by omega))
                        have HR1 := Lib.hid (show relL cj x y ↔ cls cj x = cls cj y from Iff.rfl)
                        rw [hlq] at HJC
                        clear hx hy q3 r3 hlq
                        have OWN := Lib.hid own
                        clear own
                        generalize cls cj x = vx at *
                        generalize cls cj y = vy at *
                        have uk3 := bwcell k3
                        have um3 := bwcell m3
                        have um4 := bwcell m4
                        have ugx := bwcell gx
                        have ugy := bwcell gy
                        by_cases e : vx = vy
                        · have d : (vx != vy) = false := by simpa using e
                          have HS2 := Lib.hid (show Scan cl cj true (OkCc N T true cl a b (c + 1)) from hS.out.imp2 fun hm h e1 => h.step ⟨by rw [← e1]; exact HO1.out hm, fun _ => by rw [← e1, ← HX.out, ← HY.out]; exact HR1.out.2 e⟩)
                          clear e HJ HJC HF HR1 k3 m3 m4 gx gy
                          go_wp2
                          refine wp_region_bw (by kernel_rfl) (by kernel_rfl) ?_
                          repeat go_big_quiet_step (fail)
                          refine wpQuiet_nil ?_
                          rintro w9 ⟨⟨w9x, hb9⟩, rfl⟩
                          go_wp2
                          go_roundw
                          case rel => exact ⟨c + 1, cj, true, by omega, by go_num, rfl, OWN.out.below hb9, hI, HS2, HAB, btrans hb hb9⟩
                          case measure => simp [intOf]; omega
                        · have d : (vx != vy) = true := by simpa using e
                          obtain ⟨j1, j2, j3⟩ := HJ.out (HF.out (by first | rfl | trivial)) e
                          have J1 := Lib.hid j1
                          have J3 := Lib.hid (j3 a b halt (by omega) HAB.out)
                          have HS2 := Lib.hid (show Scan cl (joinL cj vx vy) true (OkCc N T true cl a b (c + 1)) from hS.out.join j2)
                          clear e HJ HF HR1 j1 j2 j3
                          go_wp2
                          refine wp_region_bw (by kernel_rfl) (by kernel_rfl) ?_
                          repeat go_big_quiet_step (fail)
                          refine wpQuiet_nil ?_
                          rintro w9 ⟨⟨w9x, hb9⟩, rfl⟩
                          replace k3 := bcell hb9 k3
                          replace m3 := bcell hb9 m3
                          replace m4 := bcell hb9 m4
                          replace gx := bcell hb9 gx
                          replace gy := bcell hb9 gy
                          clear uk3 um3 um4 ugx ugy
                          go_wp2
                          go_still_tail 21, (by kernel_rfl)
                          change wpList _ _ _ _ _ w9.drew
                          go_wp2_with fail
                          refine (HJC.out _ (OWN.out.below (btrans hb9 (bdr (Below.refl _ _))))).mono ?_
                          rintro e w10 ⟨rfl, own10, hk10⟩
                          have hb10 : Below w.heap.size w w10 := (btrans hb hb9).trans (Below.trans (bdrewN (Below.refl _ _) 1) (hk10.below (by show w.heap.size ≤ w9.heap.size; exact (btrans hb hb9).size) (fun j hj => by show j ≠ g; omega)))
                          clear k3 m3 m4 gx gy
                          go_wp2
                          go_roundw
                          case rel => exact ⟨c + 1, joinL cj vx vy, true, by omega, by go_num, rfl, own10, J1, HS2, J3, hb10⟩
                          case measure => simp [intOf]; omega
                  · obtain rfl : N = c := by omega
                    go_wp2
                    go_roundw
                    case rel => exact ⟨b + 1, cq, mq, by omega, by go_num, rfl, own, hI, Lib.hid (hS.out.imp fun h _ => h.done), hb⟩
                    case measure => simp [intOf]; omega
              · have d : (xa != xb) = true := by simpa using e
                have HAB := Lib.hid (show ¬ relL cq a b from fun h => e (HREL.out.1 h))
                clear e HREL
                go_wp2
                refine wp_region_bw (by kernel_rfl) (by kernel_rfl) ?_
                repeat go_big_quiet_step (fail)
                refine wpQuiet_nil ?_
                rintro w2 ⟨⟨w2x, hb2⟩, rfl⟩
                go_wp2
                go_roundw
                case rel => exact ⟨b + 1, cq, mq, by omega, by go_num, rfl, OWN.out.below hb2, hI, Lib.hid (hS.out.imp fun h e => h.skip (by rw [← e]; exact HAB.out)), btrans hb hb2⟩
                case measure => simp [intOf]; omega
            · obtain rfl : a = b := by omega
              go_wp2
              go_roundw
              case rel => exact ⟨a + 1, cq, mq, by omega, by go_num, rfl, own, hI, Lib.hid (hS.out.imp fun h _ => h.done), hb⟩
              case measure => simp [intOf]; omega
        · obtain rfl : N = a := by omega
          have hfin : (mq = true ∧ dist cq + 1 ≤ gk - 1) ∨ (mq = false ∧ StabN N T both (relL cq)) := by
            rcases hS.out with ⟨h1, h2, h3⟩ | ⟨h1, h2⟩
            · exact .inr ⟨h1, by rw [h2]; exact h3.stab⟩
            · exact .inl ⟨h1, by have := HD.out; omega⟩
          have HFIN := Lib.hid hfin
          clear hfin
          go_wp2
          go_roundg (gk - 1)
          case measure => have := HD.out; omega
          case rel => exact ⟨cq, mq, rfl, own, hI, HFIN, hb⟩
end
end Go.Proofs.YtjepmbjneccagaaGreat
