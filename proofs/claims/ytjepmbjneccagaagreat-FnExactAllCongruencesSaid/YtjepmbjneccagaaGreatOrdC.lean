/- The order of congruences: by numbers of classes, then number by number; ascending lists of them. Plain. No condition. -/
import Derived.Test.YtjepmbjneccagaaGreatCmpM
import Derived.Test.YtjepmbjneccagaaGreatMany
import Derived.Test.YtjepmbjneccagaaGreatSS
import Derived.Shelf.SlSortCmp.Whole1
import Derived.Shelf.SlLaysF
namespace Go.Proofs.YtjepmbjneccagaaGreat
set_option linter.unusedSimpArgs false
set_option linter.unusedVariables false
set_option linter.unusedSectionVars false
open Go.RowKit Go.Sort Go.Shelf
/-! ### Ascending lists, of any kind -/
section
variable {α : Type} {U : α → Prop} {lt : α → α → Prop}
/-- a strict order that parts whatever two of a kind -/
structure Tot (U : α → Prop) (lt : α → α → Prop) : Prop where
  irr : ∀ a, U a → ¬ lt a a
  tr : ∀ a b c, U a → U b → U c → lt a b → lt b c → lt a c
  tot : ∀ a b, U a → U b → a ≠ b → lt a b ∨ lt b a
theorem asc_uniq (T : Tot U lt) : ∀ {l l' : List α}, (∀ x ∈ l, U x) → (∀ x ∈ l', U x) → l.Pairwise lt → l'.Pairwise lt → (∀ x, x ∈ l ↔ x ∈ l') → l = l'
  | [], [], _, _, _, _, _ => rfl
  | [], y :: l', _, _, _, _, h => absurd ((h y).2 (by simp)) (by simp)
  | x :: l, [], _, _, _, _, h => absurd ((h x).1 (by simp)) (by simp)
  | x :: l, y :: l', u1, u2, h1, h2, h => by
    obtain ⟨a1, a2⟩ := List.pairwise_cons.1 h1
    obtain ⟨b1, b2⟩ := List.pairwise_cons.1 h2
    have ux := u1 x (by simp)
    have uy := u2 y (by simp)
    have e : x = y := by
      rcases List.mem_cons.1 ((h x).1 (by simp)) with e | e
      · exact e
      · rcases List.mem_cons.1 ((h y).2 (by simp)) with e' | e'
        · exact e'.symm
        · exact absurd (T.tr x y x ux uy ux (a1 y e') (b1 x e)) (T.irr x ux)
    subst e
    rw [asc_uniq T (fun z hz => u1 z (by simp [hz])) (fun z hz => u2 z (by simp [hz])) a2 b2 fun z => ?_]
    constructor
    · intro hz
      rcases List.mem_cons.1 ((h z).1 (by simp [hz])) with e | e
      · subst e; exact absurd (a1 z hz) (T.irr z ux)
      · exact e
    · intro hz
      rcases List.mem_cons.1 ((h z).2 (by simp [hz])) with e | e
      · subst e; exact absurd (b1 z hz) (T.irr z ux)
      · exact e
end
/-! ### Lists of numbers, place by place -/
theorem cmpI_neg (x y : Int) : cmpI y x = - cmpI x y := by unfold cmpI; split <;> split <;> omega
theorem cmpI_tr {x y z : Int} (h1 : cmpI x y ≤ 0) (h2 : cmpI y z ≤ 0) : cmpI x z ≤ 0 ∧ (cmpI x z = 0 → cmpI x y = 0 ∧ cmpI y z = 0) := by
  unfold cmpI at *
  split at h1 <;> split at h2 <;> split <;> (try split) <;> (try split at h1) <;> (try split at h2) <;> constructor <;> intros <;> (repeat' split) <;> omega
theorem cmpLs_self : ∀ xs : List Int, cmpLs xs xs = 0
  | [] => rfl
  | x :: xs => by
    show (if cmpI x x = 0 then cmpLs xs xs else cmpI x x) = 0
    rw [if_pos (cmpI_eq.2 rfl), cmpLs_self xs]
theorem cmpLs_eq : ∀ {xs ys : List Int}, xs.length = ys.length → cmpLs xs ys = 0 → xs = ys
  | [], [], _, _ => rfl
  | [], _ :: _, h, _ => by simp at h
  | _ :: _, [], h, _ => by simp at h
  | x :: xs, y :: ys, hl, h => by
    have h' : (if cmpI x y = 0 then cmpLs xs ys else cmpI x y) = 0 := h
    split at h'
    · rename_i e
      rw [cmpI_eq.1 e, cmpLs_eq (by simpa using hl) h']
    · rename_i e
      exact absurd h' e
theorem cmpLs_neg : ∀ xs ys : List Int, cmpLs ys xs = - cmpLs xs ys
  | [], [] => rfl
  | [], _ :: _ => rfl
  | _ :: _, [] => rfl
  | x :: xs, y :: ys => by
    show (if cmpI y x = 0 then cmpLs ys xs else cmpI y x) = - (if cmpI x y = 0 then cmpLs xs ys else cmpI x y)
    rw [cmpI_neg x y, cmpLs_neg xs ys]
    split <;> split <;> omega
theorem cmpLs_tr : ∀ {xs ys zs : List Int}, xs.length = ys.length → ys.length = zs.length → cmpLs xs ys < 0 → cmpLs ys zs < 0 → cmpLs xs zs < 0
  | [], _, _, _, _, h, _ => absurd h (by show ¬ (0 : Int) < 0; omega)
  | _ :: _, [], _, h, _, _, _ => by simp at h
  | _ :: _, _ :: _, [], _, h, _, _ => by simp at h
  | x :: xs, y :: ys, z :: zs, l1, l2, h1, h2 => by
    have h1' : (if cmpI x y = 0 then cmpLs xs ys else cmpI x y) < 0 := h1
    have h2' : (if cmpI y z = 0 then cmpLs ys zs else cmpI y z) < 0 := h2
    show (if cmpI x z = 0 then cmpLs xs zs else cmpI x z) < 0
    have t := @cmpI_tr x y z
    by_cases e1 : cmpI x y = 0
    · rw [if_pos e1] at h1'
      have ex := cmpI_eq.1 e1
      subst ex
      by_cases e2 : cmpI x z = 0
      · rw [if_pos e2] at h2' ⊢
        exact cmpLs_tr (by simpa using l1) (by simpa using l2) h1' h2'
      · rw [if_neg e2] at h2' ⊢
        exact h2'
    · rw [if_neg e1] at h1'
      by_cases e2 : cmpI y z = 0
      · have ey := cmpI_eq.1 e2
        subst ey
        rw [if_neg e1]
        exact h1'
      · rw [if_neg e2] at h2'
        have := cmpI_lt.1 h1'
        have := cmpI_lt.1 h2'
        have h3 : cmpI x z < 0 := cmpI_lt.2 (by omega)
        rw [if_neg (by omega)]
        exact h3
/-! ### The order of congruences -/
def nqC (cl : List Int) : Int := (qN cl cl.length : Int)
def cfC (a b : List Int) : Int := if cmpI (nqC b) (nqC a) = 0 then cmpLs a b else cmpI (nqC b) (nqC a)
def ltC (a b : List Int) : Prop := cfC a b < 0
instance (a b : List Int) : Decidable (ltC a b) := by unfold ltC; infer_instance
theorem ltC_iff {a b : List Int} : ltC a b ↔ nqC b < nqC a ∨ (nqC b = nqC a ∧ cmpLs a b < 0) := by
  unfold ltC cfC
  split
  · rename_i e
    have := cmpI_eq.1 e
    constructor
    · exact fun h => .inr ⟨this, h⟩
    · rintro (h | ⟨_, h⟩)
      · omega
      · exact h
  · rename_i e
    have hne : nqC b ≠ nqC a := fun h => e (cmpI_eq.2 h)
    rw [cmpI_lt]
    constructor
    · exact .inl
    · rintro (h | ⟨h, _⟩)
      · exact h
      · exact absurd h hne
theorem ltC_tot (N : Nat) : Tot (fun a : List Int => a.length = N) ltC := by
  refine ⟨fun a _ => ?_, fun a b c ha hb hc h1 h2 => ?_, fun a b ha hb hne => ?_⟩
  · rw [ltC_iff, cmpLs_self]; omega
  · rw [ltC_iff] at *
    rcases h1 with h1 | ⟨e1, h1⟩ <;> rcases h2 with h2 | ⟨e2, h2⟩
    · exact .inl (by omega)
    · exact .inl (by omega)
    · exact .inl (by omega)
    · exact .inr ⟨by omega, cmpLs_tr (by omega) (by omega) h1 h2⟩
  · rw [ltC_iff, ltC_iff]
    rcases Int.lt_trichotomy (nqC a) (nqC b) with h | h | h
    · exact .inr (.inl h)
    · have h0 : cmpLs a b ≠ 0 := fun e => hne (cmpLs_eq (by omega) e)
      have h1 := cmpLs_neg a b
      rcases (by omega : cmpLs a b < 0 ∨ 0 < cmpLs a b) with h2 | h2
      · exact .inl (.inr ⟨h.symm, h2⟩)
      · exact .inr (.inr ⟨h, by omega⟩)
    · exact .inl (.inl h)
/-- a congruence put in its place -/
def insC (l : List (List Int)) (x : List Int) : List (List Int) := if x ∈ l then l else l.filter (fun y => decide (ltC y x)) ++ x :: l.filter (fun y => !decide (ltC y x))
theorem mem_insC {l : List (List Int)} {x y : List Int} : y ∈ insC l x ↔ y ∈ l ∨ y = x := by
  unfold insC
  split
  · rename_i h
    constructor
    · exact .inl
    · rintro (h' | rfl)
      · exact h'
      · exact h
  · simp only [List.mem_append, List.mem_cons, List.mem_filter]
    constructor
    · rintro (⟨h, _⟩ | h | ⟨h, _⟩)
      · exact .inl h
      · exact .inr h
      · exact .inl h
    · rintro (h | h)
      · by_cases e : ltC y x
        · exact .inl ⟨h, decide_eq_true e⟩
        · exact .inr (.inr ⟨h, by simp [e]⟩)
      · exact .inr (.inl h)
theorem insC_asc {N : Nat} {l : List (List Int)} {x : List Int} (hl : ∀ y ∈ l, y.length = N) (hx : x.length = N) (h : l.Pairwise ltC) : (insC l x).Pairwise ltC := by
  unfold insC
  split
  · exact h
  · rename_i hn
    have T := ltC_tot N
    have h2 : ∀ y ∈ l.filter (fun y => !decide (ltC y x)), ltC x y := fun y hy => by
      obtain ⟨m, e⟩ := List.mem_filter.1 hy
      have e' : ¬ ltC y x := by simpa using e
      rcases T.tot x y hx (hl y m) (fun e => hn (e ▸ m)) with h | h
      · exact h
      · exact absurd h e'
    have h1 : ∀ y ∈ l.filter (fun y => decide (ltC y x)), ltC y x := fun y hy => of_decide_eq_true (List.mem_filter.1 hy).2
    rw [List.pairwise_append]
    refine ⟨h.filter _, List.pairwise_cons.2 ⟨h2, h.filter _⟩, fun a ha b hb => ?_⟩
    rcases List.mem_cons.1 hb with rfl | hb
    · exact h1 a ha
    · exact T.tr a x b (hl a (List.mem_filter.1 ha).1) hx (hl b (List.mem_filter.1 hb).1) (h1 a ha) (h2 b hb)
def sortC (l : List (List Int)) : List (List Int) := l.foldl insC []
theorem foldl_insC {N : Nat} : ∀ (l acc : List (List Int)), (∀ y ∈ acc, y.length = N) → (∀ y ∈ l, y.length = N) → acc.Pairwise ltC → (l.foldl insC acc).Pairwise ltC ∧ (∀ y, y ∈ l.foldl insC acc ↔ y ∈ acc ∨ y ∈ l)
  | [], acc, _, _, h => ⟨h, fun y => by simp⟩
  | x :: l, acc, ha, hl, h => by
    have hx := hl x (by simp)
    obtain ⟨r1, r2⟩ := foldl_insC l (insC acc x) (fun y hy => by
      rcases mem_insC.1 hy with hy | rfl
      · exact ha y hy
      · exact hx) (fun y hy => hl y (by simp [hy])) (insC_asc ha hx h)
    refine ⟨r1, fun y => ?_⟩
    rw [List.foldl_cons, r2 y, mem_insC, List.mem_cons]
    constructor
    · rintro ((h | h) | h)
      · exact .inl h
      · exact .inr (.inl h)
      · exact .inr (.inr h)
    · rintro (h | h | h)
      · exact .inl (.inl h)
      · exact .inl (.inr h)
      · exact .inr h
theorem sortC_asc {N : Nat} {l : List (List Int)} (h : ∀ y ∈ l, y.length = N) : (sortC l).Pairwise ltC := (foldl_insC l [] (by simp) h List.Pairwise.nil).1
theorem mem_sortC {N : Nat} {l : List (List Int)} (h : ∀ y ∈ l, y.length = N) {y : List Int} : y ∈ sortC l ↔ y ∈ l := by
  have := (foldl_insC l [] (by simp) h List.Pairwise.nil).2 y
  unfold sortC
  rw [this]
  simp
theorem sortC_uniq {N : Nat} {l l' : List (List Int)} (h : ∀ y ∈ l, y.length = N) (ha : l'.Pairwise ltC) (hm : ∀ y, y ∈ l' ↔ y ∈ l) : l' = sortC l :=
  asc_uniq (ltC_tot N) (fun y hy => h y ((hm y).1 hy)) (fun y hy => h y ((mem_sortC h).1 hy)) ha (sortC_asc h) fun y => by rw [hm y, mem_sortC h]
theorem insC_uniq {N : Nat} {l l' : List (List Int)} {x : List Int} (h : ∀ y ∈ l, y.length = N) (hx : x.length = N) (h0 : l.Pairwise ltC) (ha : l'.Pairwise ltC) (hm : ∀ y, y ∈ l' ↔ y ∈ l ∨ y = x) : l' = insC l x := by
  have hl' : ∀ y ∈ l', y.length = N := fun y hy => by
    rcases (hm y).1 hy with h' | rfl
    · exact h y h'
    · exact hx
  have hi : ∀ y ∈ insC l x, y.length = N := fun y hy => hl' y ((hm y).2 (mem_insC.1 hy))
  exact asc_uniq (ltC_tot N) hl' hi ha (insC_asc h hx h0) fun y => by rw [hm y, mem_insC]
theorem asc_nodup {N : Nat} {l : List (List Int)} (h : ∀ y ∈ l, y.length = N) (ha : l.Pairwise ltC) : l.Nodup := by
  rw [List.Nodup]
  refine List.Pairwise.imp_of_mem (fun {a b} ma mb hlt e => ?_) ha
  subst e
  exact (ltC_tot N).irr a (h a ma) hlt
theorem sortC_nodup {N : Nat} {l : List (List Int)} (h : ∀ y ∈ l, y.length = N) : (sortC l).Nodup := asc_nodup (N := N) (fun y hy => h y ((mem_sortC h).1 hy)) (sortC_asc h)
/-- the order by places of a list of rows -/
theorem swoC {N : Nat} (at_ : Nat → List Int) (h : ∀ i, (at_ i).length = N) : SWO (ltOf fun i k => cfC (at_ i) (at_ k)) := by
  have T := ltC_tot N
  have e : ∀ i k, ltOf (fun i k => cfC (at_ i) (at_ k)) i k = decide (ltC (at_ i) (at_ k)) := fun i k => by unfold ltOf ltC; rfl
  refine ⟨fun x => ?_, fun x y z h1 h2 => ?_, fun x y z h1 h2 => ?_⟩
  · rw [e]; exact decide_eq_false (T.irr _ (h x))
  · rw [e] at *; simp only [decide_eq_true_eq] at *; exact T.tr _ _ _ (h x) (h y) (h z) h1 h2
  · rw [e] at *; simp only [decide_eq_false_iff_not] at *
    intro h3
    by_cases exy : at_ x = at_ y
    · rw [exy] at h3; exact h2 h3
    · rcases T.tot _ _ (h x) (h y) exy with h4 | h4
      · exact h1 h4
      · exact h2 (T.tr _ _ _ (h y) (h x) (h z) h4 h3)
/-! 'many', with the world to the block: it lays nothing. -/
set_option maxHeartbeats 2000000 in
theorem many_x (A : Option Addr) (c N : Nat) (cl : List Int) (nx : Int) (w : World) (h : SeeInts w A cl) (hc : IsCan cl N) (hx : CanTo cl N = some nx) (h0 : 0 < N) (hN : N ≤ 300) :
    Calls Tryz.prog 88 #[.slice A N c] w fun e w' => e = .returned (.int .i64 nx) ∧ w' = w := by
  have hmax : ∃ m, m + 1 = nx ∧ 1 ≤ nx ∧ nx ≤ N ∧ Calls Tryz.prog 118 #[.slice A N c] w fun e w' => e = .returned (.int .i64 m) ∧ w' = w := by
    have hf := canTo_spec hx
    have h3 := hf.2.2.1 0 h0
    refine ⟨nx - 1, by omega, by omega, by omega, ?_⟩
    obtain ⟨b, o, rfl, g⟩ := h.cls (by rw [hc.1]; exact h0)
    rw [hc.1] at g
    have G := Lib.hid g
    have g0 := g 0 h0
    rw [Nat.add_zero] at g0
    have HC := Lib.hid hc
    have HX := Lib.hid hx
    have p0 : (0 : Int) < N := by omega
    have p1 : ¬ (N : Int) < 1 := by omega
    have M1 := Lib.hid (Mx.one cl)
    have HR := Lib.hid (show ∀ m, Mx cl N m → m = nx - 1 from fun m hm => by have := (Mx.fin hx h0 hm).1; omega)
    generalize hx0 : cls cl 0 = x0 at *
    clear hx0 g h hc hx
    go_enter Tryz.func118, Tryz.ntmps118
    go_wp2
    go_loopw [4, 3] (fun iv mv wr => ∃ (k : Nat) (m : Int), 0 < k ∧ k ≤ N ∧ iv = .int .i64 k ∧ mv = .int .i64 m ∧ Hid (Mx cl k m) ∧ wr = w) (fun iv _ _ => N - (intOf iv).toNat)
    case atStart => exact ⟨1, _, by decide, h0, rfl, rfl, M1, rfl⟩
    case round =>
      obtain ⟨k, m, hk0, hk, rfl, rfl, hM, rfl⟩ := hrel
      have l0 : (0 : Int) ≤ k := by omega
      by_cases hlt : k < N
      · have l1 : (k : Int) < N := by omega
        have qk := G.out k hlt
        have hrg := hM.out.rng HC.out hk
        have hck := can_lt HC.out hlt
        by_cases e : m < cls cl k
        · have HN := Lib.hid (hM.out.up e)
          generalize cls cl k = x at *
          go_wp2
          go_roundw
          case rel => exact ⟨k + 1, x, by omega, by omega, by go_num, congrArg (Value.int IntKind.i64) (by omega), HN, by first | rfl | trivial⟩
          case measure => simp [intOf]; omega
        · have HN := Lib.hid (hM.out.keep hk0 (by omega))
          generalize cls cl k = x at *
          go_wp2
          go_roundw
          case rel => exact ⟨k + 1, m, by omega, by omega, by go_num, congrArg (Value.int IntKind.i64) (by omega), HN, by first | rfl | trivial⟩
          case measure => simp [intOf]; omega
      · have ek : k = N := by omega
        subst ek
        have HE := Lib.hid (HR.out m hM.out)
        have nlt : ¬ (k : Int) < k := by omega
        clear hlt
        go_wp2
        go_returns
        exact ⟨ret_int HE.out, rfl⟩
  obtain ⟨m, h1, h2, h3, h4⟩ := hmax
  have HM := Lib.hid h4
  have H1 := Lib.hid h1
  clear h4 h h1
  go_enter Tryz.func88, Tryz.ntmps88
  go_wp2_with fail
  refine HM.out.mono ?_
  rintro e w2 ⟨rfl, rfl⟩
  go_wp2
  go_returns
  exact ⟨ret_int (by have := H1.out; unfold wrap64; omega), rfl⟩
/-! The comparison of 'inOrder'; slices.SortFunc by it. -/
def sortSL_ren : Go.Shelf.Ren := ⟨fun | 6 => 84 | 15 => 116 | 14 => 115 | 28 => 144 | 29 => 145 | 20 => 136 | 21 => 137 | 22 => 138 | 23 => 139 | 24 => 140 | 25 => 141 | 26 => 142 | 27 => 143 | 46 => 151 | 47 => 152 | 48 => 153 | 49 => 154 | 50 => 155 | 57 => 168 | n => n, fun | 22 => 24 | 24 => 38 | 25 => 94 | 3 => 3 | 39 => 121 | 0 => 0 | 53 => 146 | 55 => 123 | 4 => 4 | 46 => 139 | 45 => 138 | 50 => 143 | 5 => 5 | 9 => 9 | 66 => 153 | 70 => 157 | 76 => 168 | 77 => 169 | n => n, fun | n => n⟩
theorem sortSL : Go.Proofs.SlLaysF.n6 Tryz.prog sortSL_ren := {
  mixed := by kernel_rfl,
  f6 := ⟨Tryz.f84.name, by decide, Tryz.func84.trans (congrArg some (by kernel_rfl))⟩,
  f14 := ⟨Tryz.f115.name, by decide, Tryz.func115.trans (congrArg some (by kernel_rfl))⟩,
  f15 := Tryz.func116.trans (congrArg some (by kernel_rfl)),
  f20 := ⟨Tryz.f136.name, by decide, Tryz.func136.trans (congrArg some (by kernel_rfl))⟩,
  f21 := ⟨Tryz.f137.name, by decide, Tryz.func137.trans (congrArg some (by kernel_rfl))⟩,
  f22 := ⟨Tryz.f138.name, by decide, Tryz.func138.trans (congrArg some (by kernel_rfl))⟩,
  f23 := ⟨Tryz.f139.name, by decide, Tryz.func139.trans (congrArg some (by kernel_rfl))⟩,
  f24 := ⟨Tryz.f140.name, by decide, Tryz.func140.trans (congrArg some (by kernel_rfl))⟩,
  f25 := ⟨Tryz.f141.name, by decide, Tryz.func141.trans (congrArg some (by kernel_rfl))⟩,
  f26 := ⟨Tryz.f142.name, by decide, Tryz.func142.trans (congrArg some (by kernel_rfl))⟩,
  f27 := ⟨Tryz.f143.name, by decide, Tryz.func143.trans (congrArg some (by kernel_rfl))⟩,
  f28 := Tryz.func144.trans (congrArg some (by kernel_rfl)),
  f29 := Tryz.func145.trans (congrArg some (by kernel_rfl)),
  f46 := ⟨Tryz.f151.name, by decide, Tryz.func151.trans (congrArg some (by kernel_rfl))⟩,
  f47 := Tryz.func152.trans (congrArg some (by kernel_rfl)),
  f48 := Tryz.func153.trans (congrArg some (by kernel_rfl)),
  f49 := ⟨Tryz.f154.name, by decide, Tryz.func154.trans (congrArg some (by kernel_rfl))⟩,
  f50 := ⟨Tryz.f155.name, by decide, Tryz.func155.trans (congrArg some (by kernel_rfl))⟩,
  f57 := ⟨Tryz.f168.name, by decide, Tryz.func168.trans (congrArg some (by kernel_rfl))⟩,
  t0 := Tryz.underlying0,
  a0 := Tryz.isAgg0,
  z0 := Tryz.sizeOf0,
  v0 := Tryz.zeroValue0,
  t3 := Tryz.underlying3,
  a3 := Tryz.isAgg3,
  z3 := Tryz.sizeOf3,
  v3 := Tryz.zeroValue3,
  t4 := Tryz.underlying4,
  a4 := Tryz.isAgg4,
  z4 := Tryz.sizeOf4,
  v4 := Tryz.zeroValue4,
  t5 := Tryz.underlying5,
  a5 := Tryz.isAgg5,
  z5 := Tryz.sizeOf5,
  v5 := Tryz.zeroValue5,
  t9 := Tryz.underlying9,
  a9 := Tryz.isAgg9,
  z9 := Tryz.sizeOf9,
  v9 := Tryz.zeroValue9,
  t22 := Tryz.underlying24,
  a22 := Tryz.isAgg24,
  z22 := Tryz.sizeOf24,
  v22 := Tryz.zeroValue24,
  a24 := Tryz.isAgg38,
  z24 := Tryz.sizeOf38,
  t25 := Tryz.underlying94,
  a25 := Tryz.isAgg94,
  z25 := Tryz.sizeOf94,
  v25 := Tryz.zeroValue94,
  t39 := Tryz.underlying121,
  a39 := Tryz.isAgg121,
  z39 := Tryz.sizeOf121,
  v39 := Tryz.zeroValue121,
  t45 := Tryz.underlying138,
  a45 := Tryz.isAgg138,
  z45 := Tryz.sizeOf138,
  v45 := Tryz.zeroValue138,
  t46 := Tryz.underlying139,
  a46 := Tryz.isAgg139,
  z46 := Tryz.sizeOf139,
  v46 := Tryz.zeroValue139,
  t50 := Tryz.underlying143,
  a50 := Tryz.isAgg143,
  z50 := Tryz.sizeOf143,
  v50 := Tryz.zeroValue143,
  t53 := Tryz.underlying146,
  a53 := Tryz.isAgg146,
  z53 := Tryz.sizeOf146,
  v53 := Tryz.zeroValue146,
  t55 := Tryz.underlying123,
  a55 := Tryz.isAgg123,
  z55 := Tryz.sizeOf123,
  v55 := Tryz.zeroValue123,
  t66 := Tryz.underlying153,
  a66 := Tryz.isAgg153,
  z66 := Tryz.sizeOf153,
  v66 := Tryz.zeroValue153,
  t70 := Tryz.underlying157,
  a70 := Tryz.isAgg157,
  z70 := Tryz.sizeOf157,
  v70 := Tryz.zeroValue157,
  t76 := Tryz.underlying168,
  a76 := Tryz.isAgg168,
  z76 := Tryz.sizeOf168,
  v76 := Tryz.zeroValue168,
  t77 := Tryz.underlying169,
  a77 := Tryz.isAgg169,
  z77 := Tryz.sizeOf169,
  v77 := Tryz.zeroValue169 }
set_option maxHeartbeats 2000000 in
theorem inOrd1_c {A B : Option Addr} {c d N : Nat} {a b : List Int} (W : World) (ha : SeeInts W A a) (hb : SeeInts W B b) (ca : IsCan a N) (cb : IsCan b N) (h0 : 0 < N) (hN : N ≤ 300) :
    Calls Tryz.prog 85 #[.slice A N c, .slice B N d] W fun e w' => e = .returned (.int .i64 (cfC a b)) ∧ ∃ q os', w' = grow (W.drewN q) os' := by
  have ea : nqC a = (qN a N : Int) := by unfold nqC; rw [ca.1]
  have eb : nqC b = (qN b N : Int) := by unfold nqC; rw [cb.1]
  obtain ⟨r, hr⟩ : ∃ r, r = cfC a b := ⟨_, rfl⟩
  rw [← hr]
  unfold cfC at hr
  rw [ea, eb] at hr
  have hma := many_x A c N a (qN a N) W ha ca (qN_spec ca h0).1 h0 hN
  have hmb := many_x B d N b (qN b N) W hb cb (qN_spec cb h0).1 h0 hN
  obtain ⟨bA, oA, rfl, _⟩ := ha.cls (by rw [ca.1]; exact h0)
  obtain ⟨bB, oB, rfl, _⟩ := hb.cls (by rw [cb.1]; exact h0)
  have hcs := CompareIs_c bA oA bB oB c d a b W ha hb (by rw [ca.1, cb.1]) (by rw [ca.1]; omega)
  rw [ca.1, cb.1] at hcs
  have hci := CompareI_c (qN b N) (qN a N) W
  have HMA := Lib.hid hma
  have HMB := Lib.hid hmb
  have HCS := Lib.hid hcs
  have HCI := Lib.hid hci
  have HOR := Lib.hid (fun W' h1 h2 => OrI_c W.heap.size 2 (cmpI (qN b N) (qN a N)) (cmpLs a b) W' h1 h2)
  rw [← hr] at HOR
  clear hma hmb hcs hci hr ea eb ha hb ca cb
  generalize cmpI (qN b N) (qN a N) = x at *
  generalize cmpLs a b = y at *
  generalize (qN a N : Int) = na at *
  generalize (qN b N : Int) = nb at *
  go_enter Tryz.func85, Tryz.ntmps85
  go_wp2_with fail
  refine HMB.out.mono ?_
  rintro e w2 ⟨rfl, rfl⟩
  go_wp2_with fail
  refine HMA.out.mono ?_
  rintro e w3 ⟨rfl, rfl⟩
  go_wp2_with fail
  refine HCI.out.mono ?_
  rintro e w4 ⟨rfl, rfl⟩
  go_wp2_with fail
  refine HCS.out.mono ?_
  rintro e w5 ⟨rfl, rfl⟩
  go_wp2_with fail
  refine (HOR.out _ (by simp [go_sem]) (by simp [go_sem])).mono ?_
  rintro e w6 ⟨rfl, rfl⟩
  go_wp2
  go_returns
  refine ⟨rfl, 0, #[Obj.cells #[.int .i64 x, .int .i64 y] 3], ?_⟩
  rw [alloc_eq_grow]
  rfl
/-! ### A row of rows, put in another order in place -/
def atS (ws : List Sl) (s0 : Sl) (i : Nat) : Sl := ws.getD i s0
def encS (ws : List Sl) (s0 : Sl) (i : Nat) : Value := (atS ws s0 i).v
theorem atS_mem {ws : List Sl} {s0 : Sl} (h : s0 ∈ ws) (i : Nat) : atS ws s0 i ∈ ws := by
  unfold atS
  rw [List.getD_eq_getElem?_getD]
  cases e : ws[i]? with
  | none => exact h
  | some s => exact List.mem_of_getElem? e
theorem map_at (ws : List Sl) (s0 : Sl) : (List.range ws.length).map (atS ws s0) = ws := List.ext_getElem? fun j => by
  rw [List.getElem?_map]
  by_cases hj : j < ws.length
  · rw [List.getElem?_range hj]
    unfold atS
    rw [Option.map_some, List.getD_eq_getElem?_getD, List.getElem?_eq_getElem hj]
    rfl
  · rw [List.getElem?_eq_none (by simpa using hj), List.getElem?_eq_none (by omega)]
    rfl
section
variable {w : World} {base g n c q : Nat} {ws : List Sl} {s0 : Sl} {os : Array Obj}
theorem sls_holds (h : OwnSls w base (.slice (some ⟨g, 0, none⟩) n c) ws) : Holds (encS ws s0) w g 0 (List.range ws.length).toArray := fun j hj => by
  have hl : j < ws.length := by simpa using hj
  have h' : w.ownsRow base 38 1 (.slice (some ⟨g, 0, none⟩) n c) ws.length (ws.map Sl.v) := h
  have hn := own_slice_len h'
  subst hn
  have hc := h'.cellAt j (by omega)
  refine ⟨?_, own_free h' _⟩
  rw [Nat.zero_add, hc, List.getElem?_map, List.getElem?_eq_getElem hl]
  simp [encS, atS, hl, List.getD_eq_getElem?_getD]
theorem keep_putS {d : Array Nat} : Keep (fun k => k ≠ g) w (sortWorld (encS ws s0) w g 0 q d os) :=
  ⟨rfl, rfl, rfl, by simp [sortWorld, grow, putRow, mapBlock, ahead], fun k hk hs => by
    show ((w.heap.modify g _) ++ os)[k]? = _
    rw [Array.getElem?_append_left (by simpa using hk), Array.getElem?_modify, if_neg (Ne.symm hs)]⟩
theorem own_putS {d : Array Nat} (h : OwnSls w base (.slice (some ⟨g, 0, none⟩) n c) ws) (hl : d.size = ws.length) :
    OwnSls (sortWorld (encS ws s0) w g 0 q d os) base (.slice (some ⟨g, 0, none⟩) n c) (d.toList.map (atS ws s0)) := by
  obtain ⟨h1, h2⟩ := h
  rcases h2 with ⟨h2, _⟩ | ⟨g', cap, cur, h2, hb, hg, hc, hm, hs, ht⟩
  · cases h2
  · simp only [Value.slice.injEq, Option.some.injEq, Addr.mk.injEq, and_true] at h2
    obtain ⟨rfl, rfl, rfl⟩ := h2
    have hgl : g < w.heap.size := (Array.getElem?_eq_some_iff.1 hg).1
    have e1 : (d.toList.map (atS ws s0)).length = ws.length := by simp [hl]
    refine ⟨by simp, .inr ⟨g, c, putCells (encS ws s0) 0 d cur, by rw [e1], hb, ?_, by omega, hm, by simpa [putCells] using hs, ?_⟩⟩
    · show ((w.heap.modify g _) ++ os)[g]? = _
      rw [Array.getElem?_append_left (by simpa using hgl), Array.getElem?_modify, if_pos rfl, hg]
      rfl
    · rw [e1, Nat.mul_one]
      refine List.ext_getElem? fun j => ?_
      rw [List.getElem?_map, List.getElem?_map, List.getElem?_take]
      by_cases hj : j < ws.length
      · have hjd : j < d.size := by omega
        have hjc : j < cur.size := by omega
        rw [if_pos hj, Array.getElem?_toList]
        simp only [putCells, Array.getElem?_mapIdx, Array.getElem?_eq_getElem hjc, Option.map_some, Nat.sub_zero, Nat.zero_le, Nat.zero_add, true_and, hjd, if_true]
        simp [hjd, getElem!_pos, encS]
      · rw [if_neg hj, List.getElem?_eq_none (by simp; omega)]; rfl
end
theorem SortFuncC_c {N : Nat} (w : World) (base g c : Nat) (ws : List Sl) (h : OwnSls w base (.slice (some ⟨g, 0, none⟩) ws.length c) ws) (he : ElsOk w base ws) (hn : ws.length ≤ 2097152) (hC : ∀ s ∈ ws, IsCan s.xs N) (h0 : 0 < N) (hN : N ≤ 300) (hne : ws ≠ []) :
    Calls Tryz.prog 84 #[.slice (some ⟨g, 0, none⟩) ws.length c, .func (.func 85) #[] #[]] w fun e w' => e = .returned (.tuple #[]) ∧ ∃ us : List Sl, us.Perm ws ∧ us.Pairwise (fun s t => ¬ ltC t.xs s.xs) ∧ OwnSls w' base (.slice (some ⟨g, 0, none⟩) ws.length c) us ∧ Keep (fun k => k ≠ g) w w' := by
  obtain ⟨s0, hm0⟩ : ∃ s0, s0 ∈ ws := by
    cases ws with
    | nil => exact absurd rfl hne
    | cons s0 _ => exact ⟨s0, by simp⟩
  have hx : (List.range ws.length).toArray.size = ws.length := by simp
  have hat := fun i => hC _ (atS_mem hm0 i)
  have hel : ∀ s ∈ ws, ∀ k, s.v.ownBlock = some k → k ≠ g := fun s hs k hk e => own_ne h (he s hs) (by decide) g rfl (e ▸ hk)
  have hcon := Any.slices_SortFunc sortSL (encS ws s0) (fun x => rfl) (fun i k => cfC (atS ws s0 i).xs (atS ws s0 k).xs) (swoC (fun i => (atS ws s0 i).xs) (fun i => (hat i).1)) 85 #[] g 0 c (List.range ws.length).toArray w (enters_of Tryz.func85 (by kernel_rfl) rfl)
    (fun m os dk _ x y => by
      have k1 : Keep (fun k => k ≠ g) w (sortWorld (encS ws s0) w g 0 m dk os) := keep_putS
      have hx1 := atS_mem hm0 x
      have hy1 := atS_mem hm0 y
      have o1 := (he _ hx1).keep (hel _ hx1) k1
      have o2 := (he _ hy1).keep (hel _ hy1) k1
      have l1 := (hat x).1
      have l2 := (hat y).1
      have h1 := inOrd1_c (c := (atS ws s0 x).c) (d := (atS ws s0 y).c) _ o1.see' o2.see' (hat x) (hat y) h0 hN
      rw [← l1] at h1
      have e1 : (atS ws s0 x).xs.length = (atS ws s0 y).xs.length := by rw [l1, l2]
      have e2 : encS ws s0 x = .slice (atS ws s0 x).A (atS ws s0 x).xs.length (atS ws s0 x).c := rfl
      have e3 : encS ws s0 y = .slice (atS ws s0 y).A (atS ws s0 x).xs.length (atS ws s0 y).c := by rw [e1]; rfl
      rw [e2, e3]
      exact h1)
    (sls_holds h) (h.lt g rfl).2 (by rw [hx]; omega)
  rw [hx] at hcon
  refine hcon.mono ?_
  rintro e w' ⟨rfl, d', q, os, hp, hs, rfl⟩
  have hsz : d'.size = ws.length := by rw [hp.1, hx]
  have hperm : d'.toList.Perm (List.range ws.length) := by
    have := hp.2.2
    rw [← hsz] at this
    have e2 : ((List.range d'.size).toArray.extract 0 d'.size).toList = List.range ws.length := by
      rw [Array.toList_extract]
      simp [hsz]
    rw [hsz] at this e2
    rw [e2] at this
    have e3 : (d'.extract 0 ws.length) = d' := by rw [← hsz]; simp
    rw [e3] at this
    exact this
  refine ⟨rfl, d'.toList.map (atS ws s0), ?_, ?_, ?_, keep_putS⟩
  · have := hperm.map (atS ws s0)
    rwa [map_at] at this
  · rw [List.pairwise_map]
    refine List.pairwise_iff_getElem.2 fun i j hi hj hij => ?_
    have hi2 : i < d'.size := by simpa using hi
    have hj2 : j < d'.size := by simpa using hj
    have h1 := hs i j (Nat.zero_le _) hij (by omega)
    rw [getElem!_pos d' j hj2, getElem!_pos d' i hi2] at h1
    have h2 : ¬ ltC (atS ws s0 d'[j]).xs (atS ws s0 d'[i]).xs := of_decide_eq_false h1
    simpa using h2
  · exact own_putS h hsz
end Go.Proofs.YtjepmbjneccagaaGreat
