/- 'IndexFunc', 'ContainsFunc' at rows of numbers. No condition. -/
import Derived.Test.YtjepmbjneccagaaGreatTab
import Derived.Test.YtjepmbjneccagaaGreatCls
namespace Go.Proofs.YtjepmbjneccagaaGreat
open Go.RowKit
def SeeSls (w : World) (A : Option Addr) (ws : List Sl) : Prop := ws ≠ [] → ∃ b o, A = some ⟨b, o, none⟩ ∧ ∀ k s, ws[k]? = some s → w.cell? ⟨b, o + k, none⟩ = some (.slice s.A s.xs.length s.c)
theorem SeeSls.below {w w1 : World} {A : Option Addr} {ws : List Sl} (h : SeeSls w A ws) (hb : Below w.heap.size w w1) : SeeSls w1 A ws := fun hn => by
  obtain ⟨b, o, e, g⟩ := h hn
  exact ⟨b, o, e, fun k s hk => bcell hb (g k s hk)⟩
/-- a table's rows, as slices -/
theorem SeeTab.sls {w : World} {A : Option Addr} {rows : List (List Int)} (h : SeeTab w A rows) : ∃ ws : List Sl, ws.map Sl.xs = rows ∧ SeeSls w A ws ∧ ∀ s ∈ ws, SeeInts w s.A s.xs ∧ NilOk s.A s.c := by
  by_cases hn : rows = []
  · subst hn
    exact ⟨[], rfl, fun h => absurd rfl h, fun s hs => by cases hs⟩
  · obtain ⟨b, o, e, g⟩ := h hn
    have ch : ∀ k : Fin rows.length, ∃ s : Sl, s.xs = rows[k.1] ∧ w.cell? ⟨b, o + k.1, none⟩ = some (.slice s.A s.xs.length s.c) ∧ SeeInts w s.A s.xs ∧ NilOk s.A s.c := fun k => by
      obtain ⟨A', c', h1, h2, h3⟩ := g k.1 _ (List.getElem?_eq_getElem k.2)
      exact ⟨⟨A', c', rows[k.1]⟩, rfl, h1, h2, h3⟩
    have hF : ∃ F : Fin rows.length → Sl, ∀ k, (F k).xs = rows[k.1] ∧ w.cell? ⟨b, o + k.1, none⟩ = some (.slice (F k).A (F k).xs.length (F k).c) ∧ SeeInts w (F k).A (F k).xs ∧ NilOk (F k).A (F k).c := ⟨fun k => Classical.choose (ch k), fun k => Classical.choose_spec (ch k)⟩
    obtain ⟨F, hF⟩ := hF
    refine ⟨List.ofFn F, ?_, fun _ => ⟨b, o, e, fun k s hk => ?_⟩, fun s hs => ?_⟩
    · refine List.ext_getElem (by simp) fun k h1 h2 => ?_
      simp only [List.getElem_map, List.getElem_ofFn]
      exact (hF ⟨k, h2⟩).1
    · obtain ⟨hl, rfl⟩ := List.getElem?_eq_some_iff.1 hk
      rw [List.getElem_ofFn]
      exact (hF ⟨k, by simpa using hl⟩).2.1
    · obtain ⟨k, hk, rfl⟩ := List.mem_iff_getElem.1 hs
      rw [List.getElem_ofFn]
      exact (hF _).2.2
/-- a function value that tells whether a row is such -/
def PredR (g : Nat) (lb : Array Value) (p : List Int → Bool) (ws : List Sl) (w : World) : Prop :=
  ∀ (W : World) (s : Sl), s ∈ ws → Below w.heap.size w W → Calls Tryz.prog g (#[.slice s.A s.xs.length s.c] ++ lb) W fun e w' => e = .returned (.bool (p s.xs)) ∧ Below W.heap.size W w'
set_option maxHeartbeats 1000000 in
theorem IndexFuncR_c (g : Nat) (lb : Array Value) (p : List Int → Bool) (eg : Enters Tryz.prog g) (A : Option Addr) (c : Nat) (ws : List Sl) (w : World) (h : SeeSls w A ws) (hn : ws.length ≤ 2097152) (hp : PredR g lb p ws w) :
    Calls Tryz.prog 80 #[.slice A ws.length c, .func (.func g) #[] lb] w fun e w' => e = .returned (.int .i64 (fidx p (ws.map Sl.xs))) ∧ Below w.heap.size w w' := by
  unfold Enters at eg
  have HP := Lib.hid hp
  have H := Lib.hid h
  clear hp h
  have HM := Lib.hid (show ∀ (k : Nat) (s : Sl), ws[k]? = some s → (ws.map Sl.xs)[k]? = some s.xs from fun k s hk => by rw [List.getElem?_map, hk]; rfl)
  obtain ⟨rs, hrs⟩ : ∃ rs, rs = ws.map Sl.xs := ⟨_, rfl⟩
  rw [← hrs] at HM ⊢
  have HL := Lib.hid (show rs.length = ws.length by rw [hrs, List.length_map])
  clear hrs
  go_enter Tryz.func80, Tryz.ntmps80
  go_wp2
  go_loopw [8] (fun i wr => ∃ k : Nat, k ≤ ws.length ∧ i = .int .i64 k ∧ Hid (AllTo (fun x => p x = false) rs k) ∧ Below w.heap.size w wr) (fun i _ => ws.length - (intOf i).toNat)
  case atStart => exact ⟨0, Nat.zero_le _, rfl, Lib.hid (AllTo.zero _ _), Below.refl _ _⟩
  case round =>
    obtain ⟨k, hk, rfl, HJ, hb⟩ := hrel
    by_cases hlt : k < ws.length
    · obtain ⟨s, hs⟩ := el hlt
      obtain ⟨b, o, rfl, g2⟩ := H.out (ne_of_lt hlt)
      have q := bcell hb (g2 k s hs)
      have hl : (0 : Int) ≤ k := by omega
      have hl' : (k : Int) < ws.length := by omega
      have hcall := HP.out wr s (List.mem_of_getElem? hs) hb
      have HX := Lib.hid (HM.out k s hs)
      clear hs g2
      cases e : p s.xs
      · rw [e] at hcall
        have HE := Lib.hid e
        clear e
        go_wp2_with (go_at_fn g; refine hcall.mono ?_; rintro e w' ⟨rfl, hb'⟩)
        go_roundw
        case rel => exact ⟨k + 1, by omega, by go_num, Lib.hid (HJ.out.snoc HX.out HE.out), btrans hb hb'⟩
        case measure => simp [intOf]; omega
      · rw [e] at hcall
        have HE := Lib.hid e
        clear e
        go_wp2_with (go_at_fn g; refine hcall.mono ?_; rintro e w' ⟨rfl, hb'⟩)
        go_returns
        exact ⟨ret_int (fidx_hit HX.out HE.out HJ.out).symm, btrans hb hb'⟩
    · have ek : k = ws.length := by omega
      have HF := Lib.hid (show fidx p rs = -1 from fidx_miss (by rw [HL.out, ← ek]; exact HJ.out))
      have nlt : ¬ (k : Int) < ws.length := by omega
      clear ek hlt hk
      go_wp2
      go_returns
      exact ⟨ret_int HF.out.symm, hb⟩
set_option maxHeartbeats 1000000 in
theorem ContainsFuncR_c (g : Nat) (lb : Array Value) (p : List Int → Bool) (eg : Enters Tryz.prog g) (A : Option Addr) (c : Nat) (ws : List Sl) (w : World) (h : SeeSls w A ws) (hn : ws.length ≤ 2097152) (hp : PredR g lb p ws w) :
    Calls Tryz.prog 47 #[.slice A ws.length c, .func (.func g) #[] lb] w fun e w' => e = .returned (.bool ((ws.map Sl.xs).any p)) ∧ Below w.heap.size w w' := by
  rw [← fidx_any]
  have hi := IndexFuncR_c g lb p eg A c ws w h hn hp
  generalize fidx p (ws.map Sl.xs) = r at *
  have HI := Lib.hid hi
  clear hi h hp
  go_enter Tryz.func47, Tryz.ntmps47
  go_wp2_with (go_at_call 80; go_must (refine HI.out.mono ?_); rintro e w2 ⟨rfl, hb2⟩)
  go_returns
  exact ⟨rfl, hb2⟩
end Go.Proofs.YtjepmbjneccagaaGreat
