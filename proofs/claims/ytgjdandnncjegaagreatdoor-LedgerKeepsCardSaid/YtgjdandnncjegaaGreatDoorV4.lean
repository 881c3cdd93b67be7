/- Parts of the proof of LedgerKeepsCard. -/
import Derived.Test.YtgjdandnncjegaaGreatDoorCore9
import Derived.Test.YtgjdandnncjegaaGreatDoorProg
import Derived.Test.YtgjdandnncjegaaGreatDoorV3
/- The library's general sort, at one type: what its parts do. -/
namespace Go.Proofs.YtgjdandnncjegaaGreatDoor.Sortint
open Go Go.Proofs.YtgjdandnncjegaaGreatDoor Go.Proofs.YtgjdandnncjegaaGreatDoor.St

theorem piv_eqs (a b l : Nat) (hab : a ≤ b) (hb : b ≤ l) (hl : l < 4611686018427387904) :
    IntKind.i64.wrap ((b : Int) - a) = ((b - a : Nat) : Int) ∧ Int.tdiv ((b - a : Nat) : Int) 4 = (((b - a) / 4 : Nat) : Int) ∧
    IntKind.i64.wrap ((a : Int) + IntKind.i64.wrap (IntKind.i64.wrap (((b - a) / 4 : Nat) : Int) * 1)) = ((a + (b - a) / 4 : Nat) : Int) ∧
    IntKind.i64.wrap ((a : Int) + IntKind.i64.wrap (IntKind.i64.wrap (((b - a) / 4 : Nat) : Int) * 2)) = ((a + (b - a) / 4 * 2 : Nat) : Int) ∧
    IntKind.i64.wrap ((a : Int) + IntKind.i64.wrap (IntKind.i64.wrap (((b - a) / 4 : Nat) : Int) * 3)) = ((a + (b - a) / 4 * 3 : Nat) : Int) :=
  ⟨(by first | (simp only [IntKind.wrap_i64]; omega) | omega), by rw [show (4 : Int) = ((4 : Nat) : Int) from rfl, ← Int.ofNat_tdiv], (by first | (simp only [IntKind.wrap_i64]; omega) | omega), (by first | (simp only [IntKind.wrap_i64]; omega) | omega), (by first | (simp only [IntKind.wrap_i64]; omega) | omega)⟩

section
variable (e : TypeId) (d : Option Addr) (l c : Nat) (xs : List Int) (w : World) (hd : Els (Value.int .i64) e w d l c xs) (hl : l < 4611686018427387904)
include hd hl

/-! ### The pivot -/
omit hl in
theorem order2_ok (s : Nat) (t : TypeId) (n : Int) (hs : w.heap[s]? = some (.cells #[.int .i64 n] t (0, 0))) (x y : Nat) (hx : x < l) (hy : y < l) (R : Value → World → Prop)
    (h : ∀ w' (n' : Int) (x' y' : Nat), (x' = x ∧ y' = y ∨ x' = y ∧ y' = x) → w'.heap[s]? = some (.cells #[.int .i64 n'] t (0, 0)) → Mod (on s) w w' → R (.tuple #[.int .i64 x', .int .i64 y']) w') :
    Ca Tryz.prog 147 #[.slice d l c, .int .i64 x, .int .i64 y, .pointer (some ⟨s, 0, none⟩)] w R := by
  refine ca147 d l c x y (some ⟨s, 0, none⟩) w R ?_
  intro w0 e0
  have m0 : Mod no w w0 := by subst e0; exact Mod.drew _
  clear e0
  have hs0 := m0.at' hs
  refine lss (hd.no m0) y x rfl rfl hy hx (fun _ => ?_) (fun _ => ?_)
  · refine ⟨n, by rw [cl hs0]; rfl, ⟨_, by rw [cl1 hs0]; rfl⟩, fz1 hs0 _, ?_⟩
    intro w1 e1
    have hs1 : w1.heap[s]? = some (.cells #[.int .i64 (IntKind.i64.wrap (n + 1))] t (0, 0)) := by subst e1; exact set1 hs0 _ _
    have m1 : Mod (on s) w0 w1 := by subst e1; exact Mod.set1 _ _ _ _
    exact h w1 _ y x (.inr ⟨rfl, rfl⟩) hs1 (m0.no_trans m1)
  · exact h w0 n x y (.inl ⟨rfl, rfl⟩) hs0 m0.of_no

omit hl in
theorem median_ok (s : Nat) (t : TypeId) (n : Int) (hs : w.heap[s]? = some (.cells #[.int .i64 n] t (0, 0))) (hne : ¬ rowB d s) (x y z : Nat) (hx : x < l) (hy : y < l) (hz : z < l) (R : Value → World → Prop)
    (h : ∀ w' (n' : Int) (m : Nat), (m = x ∨ m = y ∨ m = z) → w'.heap[s]? = some (.cells #[.int .i64 n'] t (0, 0)) → Mod (on s) w w' → R (.int .i64 m) w') :
    Ca Tryz.prog 130 #[.slice d l c, .int .i64 x, .int .i64 y, .int .i64 z, .pointer (some ⟨s, 0, none⟩)] w R := by
  refine ca130 d l c x y z (some ⟨s, 0, none⟩) w R ?_
  have keep : ∀ {w'}, Mod (on s) w w' → Els (Value.int .i64) e w' d l c xs := fun hm => hd.mod hm fun k hk he => hne (by cases he; exact hk)
  refine order2_ok e d l c xs w hd s t n hs x y hx hy _ fun w1 n1 x1 y1 h1 hs1 m1 => ⟨_, _, rfl, ?_⟩
  refine order2_ok e d l c xs w1 (keep m1) s t n1 hs1 y1 z (by omega) hz _ fun w2 n2 y2 z2 h2 hs2 m2 => ⟨_, _, rfl, ?_⟩
  refine order2_ok e d l c xs w2 (keep (m1.trans m2)) s t n2 hs2 x1 y2 (by omega) (by omega) _ fun w3 n3 x3 y3 h3 hs3 m3 => ⟨_, _, rfl, ?_⟩
  exact h w3 n3 y3 (by omega) hs3 ((m1.trans m2).trans m3)

theorem medianAdj_ok (s : Nat) (t : TypeId) (n : Int) (hs : w.heap[s]? = some (.cells #[.int .i64 n] t (0, 0))) (hne : ¬ rowB d s) (x : Nat) (hx : 0 < x) (hx1 : x + 1 < l) (R : Value → World → Prop)
    (h : ∀ w' (n' : Int) (m : Nat), (x ≤ m + 1 ∧ m ≤ x + 1) → w'.heap[s]? = some (.cells #[.int .i64 n'] t (0, 0)) → Mod (on s) w w' → R (.int .i64 m) w') :
    Ca Tryz.prog 129 #[.slice d l c, .int .i64 x, .pointer (some ⟨s, 0, none⟩)] w R := by
  refine ca129 d l c x (some ⟨s, 0, none⟩) w R ?_
  have e1 : IntKind.i64.wrap ((x : Int) - 1) = ((x - 1 : Nat) : Int) := (by first | (simp only [IntKind.wrap_i64]; omega) | omega)
  have e2 : IntKind.i64.wrap ((x : Int) + 1) = ((x + 1 : Nat) : Int) := (by first | (simp only [IntKind.wrap_i64]; omega) | omega)
  rw [W129, e1, e2]
  exact median_ok e d l c xs w hd s t n hs hne (x - 1) x (x + 1) (by omega) (by omega) hx1 _ fun w1 n1 m h1 hs1 m1 => ⟨_, rfl, h w1 n1 m (by rcases h1 with rfl | rfl | rfl <;> omega) hs1 m1⟩

theorem choosePivot_ok (a b : Nat) (hab : a + 8 ≤ b) (hb : b ≤ l) (R : Value → World → Prop)
    (h : ∀ w' (p : Nat) (hint : Int), a ≤ p → p < b → Mod no w w' → R (.tuple #[.int .i64 p, .int .i64 hint]) w') :
    Ca Tryz.prog 109 #[.slice d l c, .int .i64 a, .int .i64 b] w R := by
  refine ca109 d l c a b w R ?_
  obtain ⟨elen, e4, ei, ej, ek⟩ := piv_eqs a b l (by omega) hb hl
  rw [W109]
  simp only [elen, e4, ei, ej, ek]
  clear elen e4 ei ej ek
  intro w0 e0
  have m0 : Mod no w w0 := by subst e0; exact Mod.alloc _ _
  have hs0 : w0.heap[w.heap.size]? = some (.cells #[.int .i64 0] 3 (0, 0)) := by subst e0; exact new_at _ _
  clear e0
  have hne : ¬ rowB d w.heap.size := by
    intro hk
    obtain ⟨g, rfl, hc⟩ := hd.get (i := 0) (by have := hd.len; omega)
    have : g = w.heap.size := by simpa [rowB] using hk
    subst this
    have := hd.at (i := 0) (by have := hd.len; omega)
    obtain ⟨g', hg', hc'⟩ := this
    injection hg' with hg'; injection hg' with hg'; subst hg'
    rw [World.cell?, Array.getElem?_eq_none (by simp [Addr.add])] at hc'
    cases hc'
  have hd0 := hd.no m0
  have keep : ∀ {w'}, Mod (on w.heap.size) w0 w' → Els (Value.int .i64) e w' d l c xs := fun hm => hd0.mod hm fun k hk he => hne (by cases he; exact hk)
  refine ⟨by decide, by decide, by decide, fun x w' => ∃ (m : Nat) (n : Int), x = m ∧ a ≤ m ∧ m < b ∧ w'.heap[w.heap.size]? = some (.cells #[.int .i64 n] 3 (0, 0)) ∧ Mod (on w.heap.size) w0 w', ?_, ?_⟩
  · refine ifK_dec (fun _ => ifK_dec (fun h50 => ?_) (fun _ => ?_)) (fun hn => ?_)
    · refine medianAdj_ok e d l c xs w0 hd0 hl _ 3 0 hs0 hne _ (by omega) (by omega) _ fun w1 n1 x1 h1 hs1 m1 => ⟨_, rfl, ?_⟩
      refine medianAdj_ok e d l c xs w1 (keep m1) hl _ 3 n1 hs1 hne _ (by omega) (by omega) _ fun w2 n2 x2 h2 hs2 m2 => ⟨_, rfl, ?_⟩
      refine medianAdj_ok e d l c xs w2 (keep (m1.trans m2)) hl _ 3 n2 hs2 hne _ (by omega) (by omega) _ fun w3 n3 x3 h3 hs3 m3 => ⟨_, rfl, ?_⟩
      refine median_ok e d l c xs w3 (keep ((m1.trans m2).trans m3)) _ 3 n3 hs3 hne _ _ _ (by omega) (by omega) (by omega) _ fun w4 n4 x4 h4 hs4 m4 => ⟨_, rfl, ?_⟩
      have hx : a ≤ x4 ∧ x4 < b := by
        clear hs1 hs2 hs3 hs4 m1 m2 m3 m4 h
        rcases h4 with rfl | rfl | rfl <;> omega
      exact ⟨x4, n4, rfl, hx.1, hx.2, hs4, ((m1.trans m2).trans m3).trans m4⟩
    · refine median_ok e d l c xs w0 hd0 _ 3 0 hs0 hne _ _ _ (by omega) (by omega) (by omega) _ fun w4 n4 x4 h4 hs4 m4 => ⟨_, rfl, ?_⟩
      have hx : a ≤ x4 ∧ x4 < b := by rcases h4 with rfl | rfl | rfl <;> omega
      exact ⟨x4, n4, rfl, hx.1, hx.2, hs4, m4⟩
    · exact absurd hn (by omega)
  · rintro _ _ w1 ⟨m, n, rfl, h1, h2, hs1, m1⟩
    have m01 : Mod no w w1 := m0.new m1 fun k hk => by cases hk; exact Nat.le_refl _
    refine ⟨n, by rw [cl hs1]; rfl, ifK_of (fun _ => ?_) (fun _ => ifK_of (fun _ => ?_) (fun _ => ?_))⟩
    all_goals exact h w1 m _ h1 h2 m01

/-! ### Reversing, scattering -/
theorem reverse_ok (a b : Nat) (hab : a < b) (hb : b ≤ l) (R : Value → World → Prop)
    (h : ∀ w' ys, Els (Value.int .i64) e w' d l c ys → Seg a b xs ys → Mod (rowB d) w w' → R (.tuple #[]) w') :
    Ca Tryz.prog 110 #[.slice d l c, .int .i64 a, .int .i64 b] w R := by
  refine ca110 d l c a b w R ?_
  refine ⟨fun x y w' => ∃ (i j : Nat) (ys : List Int), x = i ∧ y = j ∧ a ≤ i ∧ i ≤ b ∧ j < b ∧ Els (Value.int .i64) e w' d l c ys ∧ Seg a b xs ys ∧ Mod (rowB d) w w', fun x y _ => (y - x).toNat,
    ⟨a, b - 1, xs, rfl, (by first | (simp only [IntKind.wrap_i64]; omega) | omega), Nat.le_refl _, by omega, by omega, hd, Seg.refl _ _ _, Mod.refl _ _⟩, ?_⟩
  rintro _ _ _ w1 ⟨i, j, ys, rfl, rfl, hi, hib, hj, hys, hsg, hm⟩
  have hyl := hys.len.1
  refine ifK_dec (fun hij => ?_) (fun _ => h w1 ys hys hsg hm)
  intro w2 e2
  have m2 : Mod no w1 w2 := by subst e2; exact Mod.drew _
  clear e2
  refine (hys.no m2).swp i j rfl rfl (by omega) (by omega) fun w3 h3 m3 => ?_
  exact ⟨⟨i + 1, j - 1, _, (by first | (simp only [IntKind.wrap_i64]; omega) | omega), (by first | (simp only [IntKind.wrap_i64]; omega) | omega), by omega, by omega, by omega, h3, hsg.trans (Seg.swap (by omega) (by omega) (by omega) (by omega) (by omega) (by omega)), (hm.trans_no m2).trans m3⟩, (by first | (simp only [IntKind.wrap_i64]; omega) | omega)⟩

/-! ### Parting -/
omit hd in
/-- As long as the left one is less. -/
theorem part_up (a b : Nat) (hb : b ≤ l) : ∀ (ys : List Int) (w' : World) (i j : Nat) (J : Int) (Q : Int → World → Prop), J = j → Els (Value.int .i64) e w' d l c ys → Pt ys a b i j →
    (∀ (i' : Nat) w'', Els (Value.int .i64) e w'' d l c ys → Pt ys a b i' j → (i' ≤ j → at0 ys a ≤ at0 ys i') → i ≤ i' → Mod no w' w'' → Q i' w'') →
    (∃ (z : Int → World → Prop) (m : Int → World → Nat), z i w' ∧ ∀ (_ : Nat → Value) (x : Int) (w1 : World), z x w1 → atW w1.drew fun w2 => ifK (decide (x ≤ J))
      (∃ ad : Addr, d = some ad ∧ (0 : Int) ≤ x ∧ x < (↑l : Int) ∧ ∃ y : Int, w2.cell? (Addr.add ad (Int.toNat x * 1)) = some ((Value.int .i64) y) ∧
        ∃ ad : Addr, d = some ad ∧ (0 : Int) ≤ (a : Int) ∧ (a : Int) < (↑l : Int) ∧ ∃ y' : Int, w2.cell? (Addr.add ad (Int.toNat (a : Int) * 1)) = some ((Value.int .i64) y') ∧
        Ca Tryz.prog 112 (Array.mk [(Value.int .i64) y, (Value.int .i64) y']) w2 (fun v w' => ∃ b : Bool, v = Value.bool b ∧ ifK b (z (IntKind.wrap .i64 (x + 1)) w' ∧ m (IntKind.wrap .i64 (x + 1)) w' < m x w1) (Q x w')))
      (Q x w2)) := by
  intro ys w' i j J Q hJ hys hpt hQ
  refine ⟨fun x w'' => ∃ i' : Nat, x = i' ∧ Els (Value.int .i64) e w'' d l c ys ∧ Pt ys a b i' j ∧ i ≤ i' ∧ Mod no w' w'', fun x _ => ((j : Int) + 1 - x).toNat, ⟨i, rfl, hys, hpt, Nat.le_refl _, Mod.refl _ _⟩, ?_⟩
  rintro _ _ w1 ⟨i', rfl, hy1, hp1, hi1, m1⟩ w2 e2
  have m2 : Mod no w1 w2 := by subst e2; exact Mod.drew _
  clear e2
  have hjb := hp1.jb
  have hai := hp1.ai
  refine ifK_dec (fun hle => ?_) (fun hgt => hQ i' w2 (hy1.no m2) hp1 (fun h => by omega) hi1 (m1.trans m2))
  refine lss (hy1.no m2) i' a rfl rfl (by omega) (by omega) (fun hlt => ?_) (fun hge => hQ i' w2 (hy1.no m2) hp1 (fun _ => Lin.nlt hge) hi1 (m1.trans m2))
  exact ⟨⟨i' + 1, (by first | (simp only [IntKind.wrap_i64]; omega) | omega), hy1.no m2, hp1.up (by omega) (Lin.lle hlt), by omega, m1.trans m2⟩, (by first | (simp only [IntKind.wrap_i64]; omega) | omega)⟩
omit hd in
/-- As long as the right one is not less. -/
theorem part_down (a b : Nat) (hb : b ≤ l) : ∀ (ys : List Int) (w' : World) (i j : Nat) (I : Int) (Q : Int → World → Prop), I = i → Els (Value.int .i64) e w' d l c ys → Pt ys a b i j → (i ≤ j → at0 ys a ≤ at0 ys i) →
    (∀ (j' : Nat) w'', Els (Value.int .i64) e w'' d l c ys → Pt ys a b i j' → (i ≤ j' → at0 ys a ≤ at0 ys i ∧ at0 ys j' < at0 ys a) → j' ≤ j → Mod no w' w'' → Q j' w'') →
    (∃ (z : Int → World → Prop) (m : Int → World → Nat), z j w' ∧ ∀ (_ : Nat → Value) (x : Int) (w1 : World), z x w1 → atW w1.drew fun w2 => ifK (decide (I ≤ x))
      (∃ ad : Addr, d = some ad ∧ (0 : Int) ≤ x ∧ x < (↑l : Int) ∧ ∃ y : Int, w2.cell? (Addr.add ad (Int.toNat x * 1)) = some ((Value.int .i64) y) ∧
        ∃ ad : Addr, d = some ad ∧ (0 : Int) ≤ (a : Int) ∧ (a : Int) < (↑l : Int) ∧ ∃ y' : Int, w2.cell? (Addr.add ad (Int.toNat (a : Int) * 1)) = some ((Value.int .i64) y') ∧
        Ca Tryz.prog 112 (Array.mk [(Value.int .i64) y, (Value.int .i64) y']) w2 (fun v w' => ∃ b : Bool, v = Value.bool b ∧ ifK (!b) (z (IntKind.wrap .i64 (x - 1)) w' ∧ m (IntKind.wrap .i64 (x - 1)) w' < m x w1) (Q x w')))
      (Q x w2)) := by
  intro ys w' i j I Q hI hys hpt hi0 hQ
  refine ⟨fun x w'' => ∃ j' : Nat, x = j' ∧ Els (Value.int .i64) e w'' d l c ys ∧ Pt ys a b i j' ∧ j' ≤ j ∧ Mod no w' w'', fun x _ => (x + 1 - (i : Int)).toNat, ⟨j, rfl, hys, hpt, Nat.le_refl _, Mod.refl _ _⟩, ?_⟩
  rintro _ _ w1 ⟨j', rfl, hy1, hp1, hj1, m1⟩ w2 e2
  have m2 : Mod no w1 w2 := by subst e2; exact Mod.drew _
  clear e2
  have hjb := hp1.jb
  have hai := hp1.ai
  refine ifK_dec (fun hle => ?_) (fun hgt => hQ j' w2 (hy1.no m2) hp1 (fun h => by omega) hj1 (m1.trans m2))
  refine nls (hy1.no m2) j' a rfl rfl (by omega) (by omega) (fun hge => ?_) (fun hlt => hQ j' w2 (hy1.no m2) hp1 (fun _ => ⟨hi0 (by omega), hlt⟩) hj1 (m1.trans m2))
  exact ⟨⟨j' - 1, (by first | (simp only [IntKind.wrap_i64]; omega) | omega), hy1.no m2, hp1.down (by omega) (Lin.nlt hge), by omega, m1.trans m2⟩, (by first | (simp only [IntKind.wrap_i64]; omega) | omega)⟩
theorem partition_ok (a b p : Nat) (hap : a ≤ p) (hpb : p < b) (hb : b ≤ l) (R : Value → World → Prop)
    (h : ∀ w' ys (m : Nat) (q : Bool), Els (Value.int .i64) e w' d l c ys → Seg a b xs ys → Parted ys a m b → Mod (rowB d) w w' → R (.tuple #[.int .i64 m, .bool q]) w') :
    Ca Tryz.prog 114 #[.slice d l c, .int .i64 a, .int .i64 b, .int .i64 p] w R := by
  have hxl := hd.len.1
  refine ca114 d l c a b p w R ?_
  have ea : IntKind.i64.wrap ((a : Int) + 1) = ((a + 1 : Nat) : Int) := (by first | (simp only [IntKind.wrap_i64]; omega) | omega)
  have eb : IntKind.i64.wrap ((b : Int) - 1) = ((b - 1 : Nat) : Int) := (by first | (simp only [IntKind.wrap_i64]; omega) | omega)
  rw [W114, ea, eb]
  clear ea eb
  intro w0 e0
  have m0 : Mod no w w0 := by subst e0; exact Mod.drew _
  clear e0
  refine (hd.no m0).swp a p rfl rfl (by omega) (by omega) fun w1 h1 m1 => ?_
  have m1 := m0.no_trans m1
  have s1 : Seg a b xs (swapL xs a p) := Seg.swap (by omega) (by omega) (by omega) (by omega) hap hpb
  have fin : ∀ (ys : List Int) (w' : World) (i j : Nat) (q : Bool), Els (Value.int .i64) e w' d l c ys → Seg a b xs ys → Pt ys a b i j → j < i → Mod (rowB d) w w' →
      ∀ w'', Els (Value.int .i64) e w'' d l c (swapL ys j a) → Mod (rowB d) w' w'' → R (.tuple #[.int .i64 j, .bool q]) w'' := by
    intro ys w' i j q hys hsg hpt hji hm w'' hy'' m''
    have hyl := hys.len.1
    have h1 := hpt.ai
    have h2 := hpt.ij
    have h3 := hpt.jb
    exact h w'' _ j q hy'' (hsg.trans (Seg.swap (by omega) (by omega) (by omega) (by omega) (by omega) (by omega))) (hpt.done (by omega) hji) (hm.trans m'')
  refine ⟨_, part_up e d l c hl a b hb _ w1 (a + 1) (b - 1) _ (fun x w' => ∃ i : Nat, x = i ∧ Els (Value.int .i64) e w' d l c (swapL xs a p) ∧ Pt (swapL xs a p) a b i (b - 1) ∧ (i ≤ b - 1 → at0 (swapL xs a p) a ≤ at0 (swapL xs a p) i) ∧ Mod (rowB d) w w') rfl h1
    ⟨Nat.le_refl _, by omega, by omega, fun k h1 h2 => by omega, fun k h1 h2 => by omega⟩ (fun i w' h1 h2 h3 _ h4 => ⟨i, rfl, h1, h2, h3, m1.trans_no h4⟩), ?_⟩
  rintro _ _ w2 ⟨i, rfl, h2, hpt, hi, m2⟩
  refine ⟨_, part_down e d l c hl a b hb _ w2 i (b - 1) _ (fun x w' => ∃ j : Nat, x = j ∧ Els (Value.int .i64) e w' d l c (swapL xs a p) ∧ Pt (swapL xs a p) a b i j ∧ (i ≤ j → at0 (swapL xs a p) a ≤ at0 (swapL xs a p) i ∧ at0 (swapL xs a p) j < at0 (swapL xs a p) a) ∧ Mod (rowB d) w w') rfl h2 hpt hi
    (fun j w' h1 h2 h3 _ h4 => ⟨j, rfl, h1, h2, h3, m2.trans_no h4⟩), ?_⟩
  rintro _ _ w3 ⟨j, rfl, h3, hpt, hij, m3⟩
  have hjb := hpt.jb
  have hai := hpt.ai
  have hil := hpt.ij
  have step : ∀ (ys : List Int) (w' : World) (i j : Nat), Els (Value.int .i64) e w' d l c ys → Seg a b xs ys → Pt ys a b i j → (i ≤ j → at0 ys a ≤ at0 ys i ∧ at0 ys j < at0 ys a) → i ≤ j → i < j := by
    intro ys w' i j _ _ hpt hij hle
    refine Nat.lt_of_le_of_ne hle fun e => ?_
    subst e
    have := hij hle
    exact absurd this.2 (Lin.nle this.1)
  refine ifK_dec (fun hgt => ?_) (fun hle => ?_)
  · intro w4 e4
    have m4 : Mod no w3 w4 := by subst e4; exact Mod.drew _
    clear e4
    refine (h3.no m4).swp j a rfl rfl (by omega) (by omega) fun w5 h5 m5 => ?_
    exact fin _ w4 i j true (h3.no m4) s1 hpt (by omega) (m3.trans_no m4) w5 h5 m5
  · intro w4 e4
    have m4 : Mod no w3 w4 := by subst e4; exact Mod.drew _
    clear e4
    have hlt := step _ w3 i j h3 s1 hpt hij (by omega)
    obtain ⟨hx, hy⟩ := hij (by omega)
    refine (h3.no m4).swp i j rfl rfl (by omega) (by omega) fun w5 h5 m5 => ?_
    have hl3 := h3.len.1
    refine ⟨fun x y w' => ∃ (i j : Nat) (ys : List Int), x = i ∧ y = j ∧ Els (Value.int .i64) e w' d l c ys ∧ Seg a b xs ys ∧ Pt ys a b i j ∧ Mod (rowB d) w w', fun x y _ => (y + 1 - x).toNat,
      ⟨i + 1, j - 1, _, (by first | (simp only [IntKind.wrap_i64]; omega) | omega), (by first | (simp only [IntKind.wrap_i64]; omega) | omega), h5, s1.trans (Seg.swap (by omega) (by omega) (by omega) (by omega) (by omega) (by omega)), hpt.swap (by omega) hlt (Lin.lle hy) hx, (m3.trans_no m4).trans m5⟩, ?_⟩
    rintro _ _ _ w6 ⟨i6, j6, ys, rfl, rfl, h6, s6, hpt6, m6⟩
    refine ⟨_, part_up e d l c hl a b hb _ w6 i6 j6 _ (fun x w' => ∃ i : Nat, x = i ∧ Els (Value.int .i64) e w' d l c ys ∧ Pt ys a b i j6 ∧ (i ≤ j6 → at0 ys a ≤ at0 ys i) ∧ i6 ≤ i ∧ Mod (rowB d) w w') rfl h6 hpt6
      (fun i w' h1 h2 h3 h5 h4 => ⟨i, rfl, h1, h2, h3, h5, m6.trans_no h4⟩), ?_⟩
    rintro _ _ w7 ⟨i7, rfl, h7, hpt7, hi7, hii, m7⟩
    refine ⟨_, part_down e d l c hl a b hb _ w7 i7 j6 _ (fun x w' => ∃ j : Nat, x = j ∧ Els (Value.int .i64) e w' d l c ys ∧ Pt ys a b i7 j ∧ (i7 ≤ j → at0 ys a ≤ at0 ys i7 ∧ at0 ys j < at0 ys a) ∧ j ≤ j6 ∧ Mod (rowB d) w w') rfl h7 hpt7 hi7
      (fun j w' h1 h2 h3 h5 h4 => ⟨j, rfl, h1, h2, h3, h5, m7.trans_no h4⟩), ?_⟩
    rintro _ _ w8 ⟨j8, rfl, h8, hpt8, hij8, hjj, m8⟩
    have hjb8 := hpt8.jb
    have hai8 := hpt8.ai
    have hil8 := hpt8.ij
    have hl8 := h8.len.1
    refine ifK_dec (fun hgt => ?_) (fun hle => ?_)
    · intro w9 e9
      have m9 : Mod no w8 w9 := by subst e9; exact Mod.drew _
      clear e9
      refine (h8.no m9).swp j8 a rfl rfl (by omega) (by omega) fun w10 h10 m10 => ?_
      exact fin _ w9 i7 j8 false (h8.no m9) s6 hpt8 (by omega) (m8.trans_no m9) w10 h10 m10
    · intro w9 e9
      have m9 : Mod no w8 w9 := by subst e9; exact Mod.drew _
      clear e9
      have hlt8 := step _ w8 i7 j8 h8 s6 hpt8 hij8 (by omega)
      obtain ⟨hx8, hy8⟩ := hij8 (by omega)
      refine (h8.no m9).swp i7 j8 rfl rfl (by omega) (by omega) fun w10 h10 m10 => ?_
      exact ⟨⟨i7 + 1, j8 - 1, _, (by first | (simp only [IntKind.wrap_i64]; omega) | omega), (by first | (simp only [IntKind.wrap_i64]; omega) | omega), h10, s6.trans (Seg.swap (by omega) (by omega) (by omega) (by omega) (by omega) (by omega)), hpt8.swap (by omega) hlt8 (Lin.lle hy8) hx8, (m8.trans_no m9).trans m10⟩, (by first | (simp only [IntKind.wrap_i64]; omega) | omega)⟩
end
end Go.Proofs.YtgjdandnncjegaaGreatDoor.Sortint

/- The library's general sort, at one type: parting off what is equal, heap sort, scattering, sorting what is nearly sorted. -/
namespace Go.Proofs.YtgjdandnncjegaaGreatDoor.Sortint
open Go Go.Proofs.YtgjdandnncjegaaGreatDoor Go.Proofs.YtgjdandnncjegaaGreatDoor.St

section
variable (e : TypeId) (d : Option Addr) (l c : Nat) (xs : List Int) (w : World) (hd : Els (Value.int .i64) e w d l c xs) (hl : l < 4611686018427387904)
include hd hl

theorem partEq_ok (a b p : Nat) (hap : a ≤ p) (hpb : p < b) (hb : b ≤ l) (hmin : ∀ k, a ≤ k → k < b → at0 xs p ≤ at0 xs k) (R : Value → World → Prop)
    (h : ∀ w' ys (m : Nat), Els (Value.int .i64) e w' d l c ys → Seg a b xs ys → Eqd ys a m b → Mod (rowB d) w w' → R (.int .i64 m) w') :
    Ca Tryz.prog 113 #[.slice d l c, .int .i64 a, .int .i64 b, .int .i64 p] w R := by
  refine ca113 d l c a b p w R ?_
  have ea : IntKind.i64.wrap ((a : Int) + 1) = ((a + 1 : Nat) : Int) := (by first | (simp only [IntKind.wrap_i64]; omega) | omega)
  have eb : IntKind.i64.wrap ((b : Int) - 1) = ((b - 1 : Nat) : Int) := (by first | (simp only [IntKind.wrap_i64]; omega) | omega)
  rw [W113, ea, eb]
  clear ea eb
  intro w0 e0
  have m0 : Mod no w w0 := by subst e0; exact Mod.drew _
  clear e0
  refine (hd.no m0).swp a p rfl rfl (by omega) (by omega) fun w1 h1 m1 => ?_
  have m1 := m0.no_trans m1
  have s1 : Seg a b xs (swapL xs a p) := hd.seg (by omega) (by omega) (by omega) (by omega) hap hpb
  have p1 : AtE (swapL xs a p) a (at0 xs p) := by
    refine ⟨?_⟩
    rw [at0_swapL (hd.lt (by omega)) (hd.lt (by omega))]
    by_cases e : a = p
    · rw [if_pos e, e]
    · rw [if_neg e, if_pos rfl]
  refine ⟨fun x y w' => ∃ (i j : Nat) (ys : List Int), x = i ∧ y = j ∧ Els (Value.int .i64) e w' d l c ys ∧ Seg a b xs ys ∧ Pt ys a b i j ∧ AtE ys a (at0 xs p) ∧ Mod (rowB d) w w', fun x y _ => (y + 1 - x).toNat,
    ⟨a + 1, b - 1, _, rfl, rfl, h1, s1, ⟨Nat.le_refl _, by omega, by omega, fun k h1 h2 => by omega, fun k h1 h2 => by omega⟩, p1, m1⟩, ?_⟩
  rintro _ _ _ w2 ⟨i, j, ys, rfl, rfl, h2, s2, hpt, hp2, m2⟩
  refine ⟨fun x w' => ∃ i' : Nat, x = i' ∧ Els (Value.int .i64) e w' d l c ys ∧ Pt ys a b i' j ∧ i ≤ i' ∧ (i' ≤ j → at0 ys a < at0 ys i') ∧ Mod (rowB d) w w', ⟨fun x w' => ∃ i' : Nat, x = i' ∧ Els (Value.int .i64) e w' d l c ys ∧ Pt ys a b i' j ∧ i ≤ i' ∧ Mod (rowB d) w w',
    fun x _ => ((j : Int) + 1 - x).toNat, ⟨i, rfl, h2, hpt, Nat.le_refl _, m2⟩, ?_⟩, ?_⟩
  · rintro _ _ w3 ⟨i', rfl, h3, hp3, hi3, m3⟩ w4 e4
    have m4 : Mod no w3 w4 := by subst e4; exact Mod.drew _
    clear e4
    have hjb := hp3.jb
    have hai := hp3.ai
    have m4' := m3.trans_no m4
    refine ifK_dec (fun hle => ?_) (fun hgt => ⟨i', rfl, h3.no m4, hp3, hi3, fun h => by omega, m4'⟩)
    refine nls (h3.no m4) a i' rfl rfl (by omega) (by omega) (fun hge => ?_) (fun hlt => ⟨i', rfl, h3.no m4, hp3, hi3, fun _ => hlt, m4'⟩)
    exact ⟨⟨i' + 1, (by first | (simp only [IntKind.wrap_i64]; omega) | omega), h3.no m4, hp3.up (by omega) (Lin.nlt hge), by omega, m4'⟩, (by first | (simp only [IntKind.wrap_i64]; omega) | omega)⟩
  rintro _ _ w5 ⟨i5, rfl, h5, hp5, hi5, hx5, m5⟩
  refine ⟨fun x w' => ∃ j' : Nat, x = j' ∧ Els (Value.int .i64) e w' d l c ys ∧ Pt ys a b i5 j' ∧ j' ≤ j ∧ (i5 ≤ j' → at0 ys j' ≤ at0 ys a) ∧ Mod (rowB d) w w', ⟨fun x w' => ∃ j' : Nat, x = j' ∧ Els (Value.int .i64) e w' d l c ys ∧ Pt ys a b i5 j' ∧ j' ≤ j ∧ Mod (rowB d) w w',
    fun x _ => (x + 1 - (i5 : Int)).toNat, ⟨j, rfl, h5, hp5, Nat.le_refl _, m5⟩, ?_⟩, ?_⟩
  · rintro _ _ w3 ⟨j', rfl, h3, hp3, hi3, m3⟩ w4 e4
    have m4 : Mod no w3 w4 := by subst e4; exact Mod.drew _
    clear e4
    have hjb := hp3.jb
    have hai := hp3.ai
    have m4' := m3.trans_no m4
    refine ifK_dec (fun hle => ?_) (fun hgt => ⟨j', rfl, h3.no m4, hp3, hi3, fun h => by omega, m4'⟩)
    refine lss (h3.no m4) a j' rfl rfl (by omega) (by omega) (fun hlt => ?_) (fun hge => ⟨j', rfl, h3.no m4, hp3, hi3, fun _ => Lin.nlt hge, m4'⟩)
    exact ⟨⟨j' - 1, (by first | (simp only [IntKind.wrap_i64]; omega) | omega), h3.no m4, hp3.down (by omega) (Lin.lle hlt), by omega, m4'⟩, (by first | (simp only [IntKind.wrap_i64]; omega) | omega)⟩
  rintro _ _ w6 ⟨j6, rfl, h6, hp6, hj6, hx6, m6⟩
  have hjb := hp6.jb
  have hai := hp6.ai
  have hil := hp6.ij
  refine ifK_dec (fun hgt => ?_) (fun hle => ?_)
  · refine h w6 ys i5 h6 s2 (hp6.eqd (by omega) fun k h7 h8 => ?_) m6
    rw [hp2.eq]
    exact s2.all (hd.le hb) (P := fun v => at0 xs p ≤ v) hmin k h7 h8
  · intro w7 e7
    have m7 : Mod no w6 w7 := by subst e7; exact Mod.drew _
    clear e7
    have hlt : i5 < j6 := by
      refine Nat.lt_of_le_of_ne (by omega) fun e => ?_
      subst e
      have h7 := hx5 (by omega)
      have h8 := hx6 (by omega)
      exact absurd h7 (Lin.nle h8)
    refine (h6.no m7).swp i5 j6 rfl rfl (by omega) (by omega) fun w8 h8 m8 => ?_
    refine ⟨⟨i5 + 1, j6 - 1, _, (by first | (simp only [IntKind.wrap_i64]; omega) | omega), (by first | (simp only [IntKind.wrap_i64]; omega) | omega), h8, s2.trans (h6.seg (by omega) (by omega) (by omega) (by omega) (by omega) (by omega)), hp6.swap (h6.le hb) hlt (hx6 (by omega)) (Lin.lle (hx5 (by omega))), ?_, (m6.trans_no m7).trans m8⟩, (by first | (simp only [IntKind.wrap_i64]; omega) | omega)⟩
    exact ⟨by rw [at0_swapL (h6.lt (by omega)) (h6.lt (by omega)), if_neg (by omega), if_neg (by omega), hp2.eq]⟩

/-! ### Heap sort -/
theorem siftDown_ok (lo hi f : Nat) (hlo : lo ≤ hi) (hf : f + hi ≤ l) (hh : Hp xs f (lo + 1) hi) (R : Value → World → Prop)
    (h : ∀ w' ys, Els (Value.int .i64) e w' d l c ys → Seg (f + lo) (f + hi) xs ys → Hp ys f lo hi → Mod (rowB d) w w' → R (.tuple #[]) w') :
    Ca Tryz.prog 126 #[.slice d l c, .int .i64 lo, .int .i64 hi, .int .i64 f] w R := by
  refine ca126 d l c lo hi f w R ?_
  refine ⟨fun x w' => ∃ (r : Nat) (ys : List Int), x = r ∧ lo ≤ r ∧ (r < hi ∨ r = lo) ∧ Els (Value.int .i64) e w' d l c ys ∧ Seg (f + lo) (f + hi) xs ys ∧ Sift ys f lo hi r ∧ Mod (rowB d) w w', fun x _ => ((hi : Int) - x).toNat,
    ⟨lo, xs, rfl, Nat.le_refl _, .inr rfl, hd, Seg.refl _ _ _, Sift.start hh, Mod.refl _ _⟩, ?_⟩
  rintro _ _ w1 ⟨r, ys, rfl, hlr, hr, h1, s1, hs1, m1⟩
  refine ifK_of (fun hb => ?_) (fun hb => ?_)
  · have hb : hi ≤ 2 * r + 1 := by
      have := of_decide_eq_true hb
      clear hb
      simp only [IntKind.wrap_i64] at this
      omega
    exact h w1 ys h1 s1 (hs1.done fun k h2 h3 => by omega) m1
  have hb : 2 * r + 1 < hi := by
    have := of_decide_eq_false hb
    clear hb
    simp only [IntKind.wrap_i64] at this
    omega
  refine ⟨fun x w' => ∃ k : Nat, x = k ∧ (k = 2 * r + 1 ∨ k = 2 * r + 2) ∧ k < hi ∧ (∀ q, (q = 2 * r + 1 ∨ q = 2 * r + 2) → q < hi → at0 ys (f + q) ≤ at0 ys (f + k)) ∧ Els (Value.int .i64) e w' d l c ys ∧ Mod (rowB d) w w', ?_, ?_⟩
  · intro w2 e2
    have m2 : Mod no w1 w2 := by subst e2; exact Mod.drew _
    clear e2
    refine ifK_of (fun hc => ?_) (fun hc => ?_)
    · have hc : 2 * r + 2 < hi := by
        have := of_decide_eq_true hc
        clear hc
        simp only [IntKind.wrap_i64] at this
        omega
      refine lss (h1.no m2) (f + (2 * r + 1)) (f + (2 * r + 2)) (by first | (simp only [IntKind.wrap_i64]; omega) | omega) (by first | (simp only [IntKind.wrap_i64]; omega) | omega) (by omega) (by omega) (fun hlt => ?_) (fun hge => ?_)
      · refine ⟨2 * r + 2, (by first | (simp only [IntKind.wrap_i64]; omega) | omega), .inr rfl, hc, fun q hq hqh => ?_, h1.no m2, m1.trans_no m2⟩
        rcases hq with rfl | rfl
        · exact Lin.lle hlt
        · exact Lin.refl _
      · refine ⟨2 * r + 1, (by first | (simp only [IntKind.wrap_i64]; omega) | omega), .inl rfl, hb, fun q hq hqh => ?_, h1.no m2, m1.trans_no m2⟩
        rcases hq with rfl | rfl
        · exact Lin.refl _
        · exact Lin.nlt hge
    · have hc : hi ≤ 2 * r + 2 := by
        have := of_decide_eq_false hc
        clear hc
        simp only [IntKind.wrap_i64] at this
        omega
      refine ⟨2 * r + 1, (by first | (simp only [IntKind.wrap_i64]; omega) | omega), .inl rfl, hb, fun q hq hqh => ?_, h1.no m2, m1.trans_no m2⟩
      rcases hq with rfl | rfl
      · exact Lin.refl _
      · omega
  rintro _ _ w3 ⟨k, rfl, hk, hkh, hmax, h3, m3⟩ w4 e4
  have m4 : Mod no w3 w4 := by subst e4; exact Mod.drew _
  clear e4
  refine nls (h3.no m4) (f + r) (f + k) (by first | (simp only [IntKind.wrap_i64]; omega) | omega) (by first | (simp only [IntKind.wrap_i64]; omega) | omega) (by omega) (by omega) (fun hge => ?_) (fun hlt => ?_)
  · exact h w4 ys (h3.no m4) s1 (hs1.done fun q hq hqh => Lin.tr (hmax q hq hqh) (Lin.nlt hge)) (m3.trans_no m4)
  · intro w5 e5
    have m5 : Mod no w4 w5 := by subst e5; exact Mod.drew _
    clear e5
    refine ((h3.no m4).no m5).swp (f + r) (f + k) (by first | (simp only [IntKind.wrap_i64]; omega) | omega) (by first | (simp only [IntKind.wrap_i64]; omega) | omega) (by omega) (by omega) fun w6 h6 m6 => ?_
    refine ⟨⟨k, _, rfl, by omega, .inl hkh, h6, s1.trans (h1.seg (by omega) (by omega) (by omega) (by omega) (by omega) (by omega)), hs1.step hlr (h1.le hf) hk hkh hmax hlt, ((m3.trans_no m4).trans_no m5).trans m6⟩, by simp only; omega⟩

theorem heapSort_ok (a b : Nat) (hab : a < b) (hb : b ≤ l) (R : Value → World → Prop)
    (h : ∀ w' ys, Els (Value.int .i64) e w' d l c ys → Seg a b xs ys → Srt ys a b → Mod (rowB d) w w' → R (.tuple #[]) w') :
    Ca Tryz.prog 107 #[.slice d l c, .int .i64 a, .int .i64 b] w R := by
  refine ca107 d l c a b w R ?_
  obtain ⟨n, rfl⟩ : ∃ n, b = a + (n + 1) := ⟨b - a - 1, by omega⟩
  have e1 : IntKind.i64.wrap (((a + (n + 1) : Nat) : Int) - a) = ((n + 1 : Nat) : Int) := (by first | (simp only [IntKind.wrap_i64]; omega) | omega)
  have e2 : IntKind.i64.wrap (((n + 1 : Nat) : Int) - 1) = (n : Int) := (by first | (simp only [IntKind.wrap_i64]; omega) | omega)
  have e3 : Int.tdiv (n : Int) 2 = ((n / 2 : Nat) : Int) := by rw [show (2 : Int) = ((2 : Nat) : Int) from rfl, ← Int.ofNat_tdiv]
  have e4 : IntKind.i64.wrap ((n / 2 : Nat) : Int) = ((n / 2 : Nat) : Int) := (by first | (simp only [IntKind.wrap_i64]; omega) | omega)
  rw [W107, e1, e2, e3, e4]
  clear e1 e2 e3 e4
  refine ⟨by decide, ?_⟩
  refine ⟨fun x w' => ∃ (i : Nat) (ys : List Int), x = (i : Int) - 1 ∧ i ≤ n + 1 ∧ Els (Value.int .i64) e w' d l c ys ∧ Seg a (a + (n + 1)) xs ys ∧ Hp ys a i (n + 1) ∧ Mod (rowB d) w w', fun x _ => (x + 1).toNat,
    ⟨n / 2 + 1, xs, by omega, by omega, hd, Seg.refl _ _ _, fun p k h1 h2 h3 => by omega, Mod.refl _ _⟩, ?_⟩
  rintro _ _ w1 ⟨i, ys, rfl, hi, h1, s1, hp1, m1⟩
  refine ifK_dec (fun hge => ?_) (fun hlt => ?_)
  · obtain ⟨k, rfl⟩ : ∃ k, i = k + 1 := ⟨i - 1, by omega⟩
    rw [show ((k + 1 : Nat) : Int) - 1 = (k : Int) by omega]
    refine siftDown_ok e d l c ys w1 h1 hl k (n + 1) a (by omega) (by omega) hp1 _ fun w2 zs h2 s2 hp2 m2 => ⟨rfl, ⟨k, zs, (by first | (simp only [IntKind.wrap_i64]; omega) | omega), by omega, h2, s1.trans (s2.mono (by omega) (by omega)), hp2, m1.trans m2⟩, (by first | (simp only [IntKind.wrap_i64]; omega) | omega)⟩
  · have : i = 0 := by omega
    subst this
    refine ⟨fun x w' => ∃ (i : Nat) (ys : List Int), x = (i : Int) - 1 ∧ i ≤ n + 1 ∧ Els (Value.int .i64) e w' d l c ys ∧ Seg a (a + (n + 1)) xs ys ∧ Pop ys a i (n + 1) ∧ Mod (rowB d) w w', fun x _ => (x + 1).toNat,
      ⟨n + 1, ys, by omega, by omega, h1, s1, Pop.start hp1, m1⟩, ?_⟩
    rintro _ _ w2 ⟨i, ys, rfl, hi, h2, s2, hp2, m2⟩
    refine ifK_dec (fun hge => ?_) (fun hlt => ?_)
    · obtain ⟨k, rfl⟩ : ∃ k, i = k + 1 := ⟨i - 1, by omega⟩
      rw [show ((k + 1 : Nat) : Int) - 1 = (k : Int) by omega]
      intro w3 e3
      have m3 : Mod no w2 w3 := by subst e3; exact Mod.drew _
      clear e3
      refine (h2.no m3).swp a (a + k) rfl (by first | (simp only [IntKind.wrap_i64]; omega) | omega) (by omega) (by omega) fun w4 h4 m4 => ?_
      refine siftDown_ok e d l c _ w4 h4 hl 0 k a (by omega) (by omega) (hp2.swap (by omega) (h2.le (by omega))) _ fun w5 zs h5 s5 hp5 m5 => ⟨rfl, ⟨k, zs, (by first | (simp only [IntKind.wrap_i64]; omega) | omega), by omega, h5, ?_, hp2.step (by omega) (h2.le (by omega)) s5 hp5, ((m2.trans_no m3).trans m4).trans m5⟩, (by first | (simp only [IntKind.wrap_i64]; omega) | omega)⟩
      exact (s2.trans (h2.seg (by omega) (by omega) (by omega) (by omega) (by omega) (by omega))).trans (s5.mono (by omega) (by omega))
    · have : i = 0 := by omega
      subst this
      exact h w2 ys h2 s2 hp2.done m2
end

/-! ### Scattering -/
theorem wrapU (x : Int) : IntKind.wrap .u64 x = x % 18446744073709551616 := by simp [IntKind.wrap, IntKind.bits, IntKind.signed]
theorem nextPow_ok (n : Nat) (hn : 0 < n) (hl : n < 4611686018427387904) (w : World) (R : Value → World → Prop) (h : ∀ k : Nat, k ≤ 2 * n → 0 < k → R (.int .u64 k) w) : Ca Tryz.prog 127 #[.int .i64 n] w R := by
  refine ca127 n w R ?_
  have e1 : IntKind.wrap .u64 (n : Int) = n := by rw [wrapU]; omega
  rw [W127, e1]
  clear e1
  refine bitsLen_ok n w _ fun k hk => ⟨_, rfl, by omega, ?_⟩
  obtain ⟨h1, h2⟩ := hk (by omega) (by omega)
  have h3 : ((2 ^ k : Nat) : Int) ≤ 2 * n := by simpa using h2
  have h4 : 0 < 2 ^ k := Nat.pow_pos (by decide)
  have e2 : IntKind.wrap .u64 (1 * 2 ^ min (Int.toNat (k : Int)) 64) = ((2 ^ k : Nat) : Int) := by
    have e3 : min (Int.toNat (k : Int)) 64 = k := by omega
    have e4 : (1 : Int) * 2 ^ k = ((2 ^ k : Nat) : Int) := by simp
    rw [e3, e4, wrapU]
    omega
  rw [e2]
  exact h _ (by omega) h4
theorem xorNext_ok (s : Nat) (t : TypeId) (n : Int) (w : World) (hs : w.heap[s]? = some (.cells #[.int .u64 n] t (0, 0))) (R : Value → World → Prop)
    (h : ∀ w' (n' : Int), w'.heap[s]? = some (.cells #[.int .u64 n'] t (0, 0)) → Mod (on s) w w' → R (.int .u64 n') w') : Ca Tryz.prog 128 #[.pointer (some ⟨s, 0, none⟩)] w R := by
  refine ca128 (some ⟨s, 0, none⟩) w R ?_
  have step : ∀ (w : World) (n m : Int) (K : World → Prop), w.heap[s]? = some (.cells #[.int .u64 n] t (0, 0)) → (∀ w', w'.heap[s]? = some (.cells #[.int .u64 m] t (0, 0)) → Mod (on s) w w' → K w') →
      (∃ v : Value, w.cell? (Addr.add ⟨s, 0, none⟩ 0) = some v) ∧ w.frozen? (Addr.add ⟨s, 0, none⟩ 0) = false ∧ atW (w.setCell (Addr.add ⟨s, 0, none⟩ 0) (.int .u64 m)) K := by
    intro w n m K hs hK
    refine ⟨⟨_, by rw [cl1 hs]; rfl⟩, fz1 hs _, fun w' e => ?_⟩
    subst e
    exact hK _ (set1 hs 0 _) (Mod.set1 _ _ _ _)
  intro w0 e0
  have m0 : Mod no w w0 := by subst e0; exact Mod.drew _
  clear e0
  have hs0 := m0.at' hs
  refine ⟨n, by rw [cl hs0]; rfl, n, by rw [cl hs0]; rfl, by decide, step w0 n _ _ hs0 fun w1 hs1 m1 => ?_⟩
  intro w2 e2
  have m2 : Mod no w1 w2 := by subst e2; exact Mod.drew _
  clear e2
  have hs2 := m2.at' hs1
  refine ⟨_, by rw [cl hs2]; rfl, _, by rw [cl hs2]; rfl, by decide, step w2 _ _ _ hs2 fun w3 hs3 m3 => ?_⟩
  intro w4 e4
  have m4 : Mod no w3 w4 := by subst e4; exact Mod.drew _
  clear e4
  have hs4 := m4.at' hs3
  refine ⟨_, by rw [cl hs4]; rfl, _, by rw [cl hs4]; rfl, by decide, step w4 _ _ _ hs4 fun w5 hs5 m5 => ?_⟩
  exact ⟨_, by rw [cl hs5]; rfl, h w5 _ hs5 (((((m0.no_trans m1).trans_no m2).trans m3).trans_no m4).trans m5)⟩

theorem and_le (x y : Int) (k : Nat) (hy : y = k) (hk : k < 18446744073709551616) : ((BitVec.ofInt 64 x &&& BitVec.ofInt 64 y).toNat) ≤ k := by
  rw [BitVec.toNat_and]
  refine Nat.le_trans Nat.and_le_right ?_
  rw [hy, BitVec.toNat_ofInt]
  omega
theorem breakP_ok (e : TypeId) (d : Option Addr) (l c : Nat) (xs : List Int) (w : World) (hd : Els (Value.int .i64) e w d l c xs) (hl : l < 4611686018427387904) (a b : Nat) (hab : a + 8 ≤ b) (hb : b ≤ l) (R : Value → World → Prop)
    (h : ∀ w' ys, Els (Value.int .i64) e w' d l c ys → Seg a b xs ys → Mod (rowB d) w w' → R (.tuple #[]) w') :
    Ca Tryz.prog 108 #[.slice d l c, .int .i64 a, .int .i64 b] w R := by
  refine ca108 d l c a b w R ?_
  obtain ⟨elen, e4, ei, ej, ek⟩ := piv_eqs a b l (by omega) hb hl
  rw [W108]
  simp only [elen, e4, ej]
  clear elen e4 ei ej ek
  have hq : a + (b - a) / 4 * 2 + 1 < b ∧ a + 1 ≤ a + (b - a) / 4 * 2 := by omega
  generalize a + (b - a) / 4 * 2 = mid at hq
  have em : IntKind.i64.wrap ((mid : Int) - 1) = ((mid - 1 : Nat) : Int) := (by first | (simp only [IntKind.wrap_i64]; omega) | omega)
  have ep : IntKind.i64.wrap ((mid : Int) + 1) = ((mid + 1 : Nat) : Int) := (by first | (simp only [IntKind.wrap_i64]; omega) | omega)
  rw [em, ep]
  clear em ep
  refine ifK_of (fun _ => ?_) (fun hn => absurd (of_decide_eq_false hn) (by omega))
  intro w0 e0
  have m0 : Mod no w w0 := by subst e0; exact Mod.alloc _ _
  have hs0 : ∃ t, w0.heap[w.heap.size]? = some (.cells #[.int .u64 0] t (0, 0)) := by subst e0; exact ⟨_, new_at _ _⟩
  clear e0
  obtain ⟨t, hs0⟩ := hs0
  have hne : ¬ rowB d w.heap.size := by
    intro hk
    obtain ⟨g, rfl, hc⟩ := hd.get (i := 0) (by have := hd.len; omega)
    have : g = w.heap.size := by simpa [rowB] using hk
    subst this
    rw [World.cell?, Array.getElem?_eq_none (by simp [Addr.add])] at hc
    cases hc
  refine ⟨⟨_, by rw [cl1 hs0]; rfl⟩, fz1 hs0 _, ?_⟩
  intro w2 e2
  have m2 : Mod (on w.heap.size) w0 w2 := by subst e2; exact Mod.set1 _ _ _ _
  have hs2 : ∃ n : Int, w2.heap[w.heap.size]? = some (.cells #[.int .u64 n] t (0, 0)) := by subst e2; exact ⟨_, set1 hs0 0 _⟩
  clear e2
  have m02 : Mod no w w2 := m0.new m2 fun k hk => by cases hk; exact Nat.le_refl _
  refine nextPow_ok (b - a) (by omega) (by omega) w2 _ fun k hk hk0 => ⟨_, rfl, by decide, ?_⟩
  refine ⟨fun x w' => ∃ (i : Nat) (n : Int) (ys : List Int), x = i ∧ mid - 1 ≤ i ∧ i ≤ mid + 2 ∧ w'.heap[w.heap.size]? = some (.cells #[.int .u64 n] t (0, 0)) ∧ Els (Value.int .i64) e w' d l c ys ∧ Seg a b xs ys ∧ Mod (fun k => rowB d k ∨ k = w.heap.size) w w', fun x _ => ((mid : Int) + 2 - x).toNat, ?_, ?_⟩
  · obtain ⟨n, hs2⟩ := hs2
    exact ⟨mid - 1, n, xs, rfl, Nat.le_refl _, by omega, hs2, hd.no m02, Seg.refl _ _ _, m02.of_no⟩
  rintro _ _ w3 ⟨i, n, ys, rfl, hi1, hi2, hs3, h3, s3, m3⟩
  have m3' : Mod (rowB d) w w3 := m3.mono fun k hk h => by
    rcases h with h | h
    · exact h
    · omega
  refine ⟨by decide, ifK_dec (fun hle => ?_) (fun hgt => h w3 ys h3 s3 m3')⟩
  refine xorNext_ok _ t n w3 hs3 _ fun w4 n4 hs4 m4 => ⟨_, rfl, ?_⟩
  have h4 : Els (Value.int .i64) e w4 d l c ys := h3.mod m4 fun k hk he => hne (by cases he; exact hk)
  have hand : IntKind.wrap .u64 ((k : Int) - 1) = ((k - 1 : Nat) : Int) := by rw [wrapU]; omega
  rw [hand]
  have hale := and_le n4 ((k - 1 : Nat) : Int) (k - 1) rfl (by omega)
  generalize ((BitVec.ofInt 64 n4 &&& BitVec.ofInt 64 ((k - 1 : Nat) : Int)).toNat) = o at hale
  have e5 : IntKind.wrap .i64 (IntKind.wrap .u64 (o : Int)) = o := by rw [wrapU, IntKind.wrap_i64]; omega
  rw [e5]
  clear e5
  refine ⟨fun x w' => ∃ q : Nat, x = q ∧ q < b - a ∧ w' = w4, ifK_dec (fun hge => ⟨o - (b - a), (by first | (simp only [IntKind.wrap_i64]; omega) | omega), by omega, rfl⟩) (fun hlt => ⟨o, rfl, by omega, rfl⟩), ?_⟩
  rintro _ _ _ ⟨q, rfl, hq1, rfl⟩ w5 e5
  rename_i w4
  have m5 : Mod no w4 w5 := by subst e5; exact Mod.drew _
  clear e5
  refine (h4.no m5).swp i (a + q) rfl (by first | (simp only [IntKind.wrap_i64]; omega) | omega) (by omega) (by omega) fun w6 h6 m6 => ?_
  have hs6 : w6.heap[w.heap.size]? = some (.cells #[.int .u64 n4] t (0, 0)) := m6.at (m5.at' hs4) hne
  clear hale hk hk0 hand
  have e8 : IntKind.i64.wrap ((i : Int) + 1) = ((i + 1 : Nat) : Int) := (by first | (simp only [IntKind.wrap_i64]; omega) | omega)
  rw [e8]
  clear e8
  exact ⟨⟨i + 1, n4, _, rfl, by omega, by omega, hs6, h6, s3.trans (h4.seg (by omega) (by omega) (by omega) (by omega) (by omega) (by omega)),
    ((m3.trans (m4.mono fun k _ h => .inr h)).trans_no m5).trans (m6.mono fun k _ h => .inl h)⟩, by simp only; omega⟩
end Go.Proofs.YtgjdandnncjegaaGreatDoor.Sortint

/- The formulas of functions, printed by a program of mine (gen.py) out of the translation. -/
namespace Go.Proofs.YtgjdandnncjegaaGreatDoor
open Go Go.Proofs.YtgjdandnncjegaaGreatDoor.St
open _root_.Go.Value (string int bool slice pointer agg tuple map func nilFunc iface)
open _root_.Go.World (cell? frozen? setCell alloc drew)
open _root_.Go.Addr (add)
open _root_.Go.Obj (cells)
open _root_.Go.IntKind (wrap i64 u64 i32 u32 u8)
set_option maxRecDepth 100000

/-- slices.pdqsortOrdered[int] -/
noncomputable def C92 : Code := (Tryz.f92.body).getD .skip
def pl92 : Nat → Plan
  | 17 => (.quiet 0 (.quiet 1 (.quiet 2 (.quiet 3 (.quiet 4 (.quiet 5 (.quiet 6 (.quiet 7 (.quiet 8 (.quiet 9 (.quiet 10 (.quiet 11 (.eff 12 [] (.quiet 13 (.quiet 14 .done)))))))))))))))
  | _ => .done
def ls92 : Nat → List (Nat × LT)
  | 2 => [(1, (.one (.int .i64))), (2, (.one (.int .i64))), (3, (.one (.int .i64))), (8, (.one .bool)), (9, (.one .bool))]
  | 10 => [(0, .agg []), (3, (.one (.int .i64)))]
  | 14 => [(0, .agg []), (11, (.one (.int .i64))), (12, (.one (.int .i64)))]
  | 18 => [(0, .agg [])]
  | 21 => [(0, .agg []), (1, (.one (.int .i64)))]
  | _ => []
def W92 (dataa : Option Addr) (datal : Nat) (datac : Nat) (a_ : Int) (b : Int) (limit : Int) (w : World) (R : Value → World → Prop) : Prop :=
  (∃ z0 : Int → Int → Int → Bool → Bool → World → Prop, (∃ z1 : Int → Int → Int → Bool → Bool → World → Nat, ((z0 (a_) (b) (limit) (true) (true) (w)) ∧ (∀ (_ : Nat → Value), (∀ (x3 : Int), (∀ (x4 : Int), (∀ (x5 : Int), (∀ (b6 : Bool), (∀ (b7 : Bool), (∀ (w8 : World), ((z0 (x3) (x4) (x5) (b6) (b7) (w8)) → (ifK (decide (wrap i64 (x4 - x3) ≤ 12))
(Ca Tryz.prog (106) (Array.mk [slice dataa datal datac, int i64 x3, int i64 x4]) (w8) (fun v9 => (fun w10 =>
((v9 = tuple (Array.mk (List.reverse []))) ∧ (R (tuple (Array.mk (List.reverse []))) (w10))))))
(ifK (x5 == 0)
(Ca Tryz.prog (107) (Array.mk [slice dataa datal datac, int i64 x3, int i64 x4]) (w8) (fun v11 => (fun w12 =>
((v11 = tuple (Array.mk (List.reverse []))) ∧ (R (tuple (Array.mk (List.reverse []))) (w12))))))
(∃ z13 : Int → World → Prop, ((ifK (!b6)
(Ca Tryz.prog (108) (Array.mk [slice dataa datal datac, int i64 x3, int i64 x4]) (w8) (fun v14 => (fun w15 =>
((v14 = tuple (Array.mk (List.reverse []))) ∧ (z13 (wrap i64 (x5 - 1)) (w15))))))
(z13 (x5) (w8))) ∧ (∀ (_ : Nat → Value), (∀ (x17 : Int), (∀ (w18 : World), ((z13 (x17) (w18)) → (Ca Tryz.prog (109) (Array.mk [slice dataa datal datac, int i64 x3, int i64 x4]) (w18) (fun v19 => (fun w20 =>
(∃ x21 : Int, (∃ x22 : Int, ((v19 = tuple (Array.mk (List.reverse [int i64 x22, int i64 x21]))) ∧ (∃ z23 : Int → Int → World → Prop, ((ifK (x22 == 2)
(Ca Tryz.prog (110) (Array.mk [slice dataa datal datac, int i64 x3, int i64 x4]) (w20) (fun v24 => (fun w25 =>
((v24 = tuple (Array.mk (List.reverse []))) ∧ (z23 (wrap i64 (wrap i64 (x4 - 1) - wrap i64 (x21 - x3))) (1) (w25))))))
(z23 (x21) (x22) (w20))) ∧ (∀ (_ : Nat → Value), (∀ (x27 : Int), (∀ (x28 : Int), (∀ (w29 : World), ((z23 (x27) (x28) (w29)) → (∃ z30 : World → Prop, ((ifK (b6)
(ifK (b7)
(ifK (x28 == 1)
(Ca Tryz.prog (111) (Array.mk [slice dataa datal datac, int i64 x3, int i64 x4]) (w29) (fun v31 => (fun w32 =>
(∃ b33 : Bool, ((v31 = bool b33) ∧ (ifK (b33)
(R (tuple (Array.mk (List.reverse []))) (w32))
(z30 (w32))))))))
(z30 (w29)))
(z30 (w29)))
(z30 (w29))) ∧ (∀ (_ : Nat → Value), (∀ (w35 : World), ((z30 (w35)) → (∃ z36 : Int → World → Prop, ((atW (drew w35) (fun w37 =>
(ifK (decide (x3 > 0))
(∃ a38 : Addr, ((dataa = some a38) ∧ (((0 : Int) ≤ wrap i64 (x3 - 1)) ∧ (((wrap i64 (x3 - 1) : Int) < (↑datal : Int)) ∧ (∃ x39 : Int, ((cell? w37 (add a38 (Int.toNat (wrap i64 (x3 - 1)) * 1)) = some (int i64 x39)) ∧ (∃ a40 : Addr, ((dataa = some a40) ∧ (((0 : Int) ≤ x27) ∧ (((x27 : Int) < (↑datal : Int)) ∧ (∃ x41 : Int, ((cell? w37 (add a40 (Int.toNat x27 * 1)) = some (int i64 x41)) ∧ (Ca Tryz.prog (112) (Array.mk [int i64 x39, int i64 x41]) (w37) (fun v42 => (fun w43 =>
(∃ b44 : Bool, ((v42 = bool b44) ∧ (ifK (!b44)
(Ca Tryz.prog (113) (Array.mk [slice dataa datal datac, int i64 x3, int i64 x4, int i64 x27]) (w43) (fun v45 => (fun w46 =>
(∃ x47 : Int, ((v45 = int i64 x47) ∧ ((z0 (x47) (x4) (x17) (b6) (b7) (w46)) ∧ (z1 x47 x4 x17 b6 b7 w46 < z1 x3 x4 x5 b6 b7 w8)))))))
(z36 (x3) (w43))))))))))))))))))))
(z36 (x3) (w37))))) ∧ (∀ (_ : Nat → Value), (∀ (x49 : Int), (∀ (w50 : World), ((z36 (x49) (w50)) → (Ca Tryz.prog (114) (Array.mk [slice dataa datal datac, int i64 x49, int i64 x4, int i64 x27]) (w50) (fun v51 => (fun w52 =>
(∃ x53 : Int, (∃ b54 : Bool, ((v51 = tuple (Array.mk (List.reverse [bool b54, int i64 x53]))) ∧ (((8 : Int) ≠ 0) ∧ (ifK (decide (wrap i64 (x53 - x49) < wrap i64 (x4 - x53)))
(Ca Tryz.prog (92) (Array.mk [slice dataa datal datac, int i64 x49, int i64 x53, int i64 x17]) (w52) (fun v55 => (fun w56 =>
((v55 = tuple (Array.mk (List.reverse []))) ∧ ((z0 (wrap i64 (x53 + 1)) (x4) (x17) (decide (wrap i64 (x53 - x49) ≥ wrap i64 (Int.tdiv (wrap i64 (x4 - x3)) 8))) (b54) (w56)) ∧ (z1 (wrap i64 (x53 + 1)) x4 x17 (decide (wrap i64 (x53 - x49) ≥ wrap i64 (Int.tdiv (wrap i64 (x4 - x3)) 8))) b54 w56 < z1 x3 x4 x5 b6 b7 w8))))))
(Ca Tryz.prog (92) (Array.mk [slice dataa datal datac, int i64 (wrap i64 (x53 + 1)), int i64 x4, int i64 x17]) (w52) (fun v57 => (fun w58 =>
((v57 = tuple (Array.mk (List.reverse []))) ∧ ((z0 (x49) (x53) (x17) (decide (wrap i64 (x4 - x53) ≥ wrap i64 (Int.tdiv (wrap i64 (x4 - x3)) 8))) (b54) (w58)) ∧ (z1 x49 x53 x17 (decide (wrap i64 (x4 - x53) ≥ wrap i64 (Int.tdiv (wrap i64 (x4 - x3)) 8))) b54 w58 < z1 x3 x4 x5 b6 b7 w8)))))))))))))))))))))))))))))))))))))))))))))))))))))))))
theorem ca92 (dataa : Option Addr) (datal : Nat) (datac : Nat) (a_ : Int) (b : Int) (limit : Int) (w : World) (R : Value → World → Prop) (h : W92 dataa datal datac a_ b limit w R) : Ca Tryz.prog 92 ⟨[(.slice dataa datal datac), (.int .i64 a_), (.int .i64 b), (.int .i64 limit)]⟩ w R :=
  caB (fn := Tryz.f92) (pl := pl92) (ls := ls92) Tryz.func92 (by kernel_rfl) (by kernel_rfl) h

/-- slices.Sort[[]int,int] -/
noncomputable def C71 : Code := (Tryz.f71.body).getD .skip
def pl71 : Nat → Plan := fun _ => .done
def ls71 : Nat → List (Nat × LT) := fun _ => []
def W71 (xa : Option Addr) (xl : Nat) (xc : Nat) (w : World) (R : Value → World → Prop) : Prop :=
  (Ca Tryz.prog (93) (Array.mk [int u64 (wrap u64 (↑xl : Int))]) (w) (fun v0 => (fun w1 =>
(∃ x2 : Int, ((v0 = int i64 x2) ∧ (Ca Tryz.prog (92) (Array.mk [slice xa xl xc, int i64 0, int i64 (↑xl : Int), int i64 x2]) (w1) (fun v3 => (fun w4 =>
((v3 = tuple (Array.mk (List.reverse []))) ∧ (R (tuple (Array.mk (List.reverse []))) (w4)))))))))))
theorem ca71 (xa : Option Addr) (xl : Nat) (xc : Nat) (w : World) (R : Value → World → Prop) (h : W71 xa xl xc w R) : Ca Tryz.prog 71 ⟨[(.slice xa xl xc)]⟩ w R :=
  caB (fn := Tryz.f71) (pl := pl71) (ls := ls71) Tryz.func71 (by kernel_rfl) (by kernel_rfl) h
end Go.Proofs.YtgjdandnncjegaaGreatDoor

/- The library's general sort, at one type: sorting what is nearly sorted; the sort itself. -/
namespace Go.Proofs.YtgjdandnncjegaaGreatDoor.Sortint
open Go Go.Proofs.YtgjdandnncjegaaGreatDoor Go.Proofs.YtgjdandnncjegaaGreatDoor.St

theorem wS {i : Nat} (h : i < 4611686018427387904) : IntKind.i64.wrap ((i : Int) + 1) = ((i + 1 : Nat) : Int) := by rw [wrap64 (by omega) (by omega)]; rfl
theorem wP {i : Nat} (h : i < 4611686018427387904) (h0 : 0 < i) : IntKind.i64.wrap ((i : Int) - 1) = ((i - 1 : Nat) : Int) := by rw [wrap64 (by omega) (by omega)]; omega
theorem wD {i j : Nat} (h : i < 4611686018427387904) (h0 : j ≤ i) : IntKind.i64.wrap ((i : Int) - (j : Int)) = ((i - j : Nat) : Int) := by rw [wrap64 (by omega) (by omega)]; omega

section
variable (e : TypeId) (d : Option Addr) (l c : Nat) (xs : List Int) (w : World) (hd : Els (Value.int .i64) e w d l c xs) (hl : l < 4611686018427387904)
include hd hl

theorem partial_ok (a b : Nat) (hab : a < b) (hb : b ≤ l) (hbel : Bel xs a b) (R : Value → World → Prop)
    (h : ∀ w' ys (q : Bool), Els (Value.int .i64) e w' d l c ys → Seg a b xs ys → (q = true → Srt ys a b) → Mod (rowB d) w w' → R (.bool q) w') :
    Ca Tryz.prog 111 #[.slice d l c, .int .i64 a, .int .i64 b] w R := by
  refine ca111 d l c a b w R ?_
  rw [W111, wS (by omega)]
  refine ⟨fun x y w' => ∃ (i j : Nat) (ys : List Int), x = i ∧ y = j ∧ a < i ∧ i ≤ b ∧ j ≤ 5 ∧ Els (Value.int .i64) e w' d l c ys ∧ Seg a b xs ys ∧ Srt ys a i ∧ Mod (rowB d) w w', fun _ y _ => (5 - y).toNat,
    ⟨a + 1, 0, xs, rfl, rfl, by omega, by omega, by omega, hd, Seg.refl _ _ _, Srt.nil _ _ _ (Nat.le_refl _), Mod.refl _ _⟩, ?_⟩
  rintro _ _ _ w1 ⟨i0, j0, ys, rfl, rfl, hi1, hi2, hj5, h1, s1, srt1, m1⟩
  refine ifK_dec (fun hlt => ?_) (fun _ => h w1 ys false h1 s1 (fun h => by cases h) m1)
  have hj : (j0 : Int) < 5 := hlt
  clear hlt
  -- as long as it rises
  refine ⟨fun x w' => ∃ i : Nat, x = i ∧ a < i ∧ i ≤ b ∧ Els (Value.int .i64) e w' d l c ys ∧ Srt ys a i ∧ (i < b → at0 ys i < at0 ys (i - 1)) ∧ Mod (rowB d) w w', ⟨fun x w' => ∃ i : Nat, x = i ∧ a < i ∧ i ≤ b ∧ Els (Value.int .i64) e w' d l c ys ∧ Srt ys a i ∧ Mod (rowB d) w w',
    fun x _ => ((b : Int) - x).toNat, ⟨i0, rfl, hi1, hi2, h1, srt1, m1⟩, ?_⟩, ?_⟩
  · rintro _ _ w2 ⟨i, rfl, h3, h4, h2, srt2, m2⟩ w3 e3
    have m3 : Mod no w2 w3 := by subst e3; exact Mod.drew _
    clear e3
    refine ifK_dec (fun hib => ?_) (fun hib => ⟨i, rfl, h3, h4, h2.no m3, srt2, fun h => by omega, m2.trans_no m3⟩)
    have hib : i < b := by omega
    rw [wS (i := i) (by omega), wP (i := i) (by omega) (by omega)]
    refine nls (h2.no m3) i (i - 1) rfl rfl (by omega) (by omega) (fun hge => ⟨⟨i + 1, rfl, by omega, by omega, h2.no m3, (Ins.start srt2).done (.inr (Lin.nlt hge)), m2.trans_no m3⟩, by simp only; omega⟩)
      (fun hls => ⟨i, rfl, h3, h4, h2.no m3, srt2, fun _ => hls, m2.trans_no m3⟩)
  rintro _ _ w4 ⟨i, rfl, h3, h4, h2, srt2, hls, m2⟩
  refine ifK_eq (fun hib => ?_) (fun hib => ?_)
  · have hib : i = b := by omega
    subst hib
    exact h w4 ys true h2 s1 (fun _ => srt2) m2
  have hib : i < b := by omega
  have hls := hls hib
  rw [wD (i := b) (j := a) (by omega) (by omega), wD (i := i) (j := a) (by omega) (by omega), wD (i := b) (j := i) (by omega) (by omega), wS (i := i) (by omega), wS (i := j0) (by omega), wP (i := i) (by omega) (by omega)]
  refine ifK_of (fun _ => h w4 ys false h2 s1 (fun h => by cases h) m2) (fun _ => ?_)
  intro w5 e5
  have m5 : Mod no w4 w5 := by subst e5; exact Mod.drew _
  clear e5
  refine (h2.no m5).swp i (i - 1) rfl rfl (by omega) (by omega) fun w6 h6 m6 => ?_
  have s6 : Seg a b xs (swapL ys i (i - 1)) := s1.trans (h2.seg (by omega) (by omega) (by omega) (by omega) (by omega) (by omega))
  have m6 := (m2.trans_no m5).trans m6
  have srt6 : Srt (swapL ys i (i - 1)) a (i - 1) := by
    intro p q h7 h8 h9
    rw [at0_swapL (h2.lt (by omega)) (h2.lt (by omega)), at0_swapL (h2.lt (by omega)) (h2.lt (by omega)), if_neg (by omega), if_neg (by omega), if_neg (by omega), if_neg (by omega)]
    exact srt2 p q h7 h8 (by omega)
  -- the smaller one to the left
  refine ⟨fun w' => ∃ zs, Els (Value.int .i64) e w' d l c zs ∧ Seg a b xs zs ∧ Srt zs a i ∧ Mod (rowB d) w w', ?_, ?_⟩
  · refine ifK_dec (fun hge => ?_) (fun hlt => ⟨_, h6, s6, Srt.nil _ _ _ (by omega), m6⟩)
    refine ⟨fun x w' => ∃ (j : Nat) (zs : List Int), x = j ∧ a ≤ j ∧ j + 1 ≤ i ∧ Els (Value.int .i64) e w' d l c zs ∧ Seg a b xs zs ∧ Ins zs a (i - 1) j ∧ Mod (rowB d) w w', fun x _ => x.toNat,
      ⟨i - 1, _, rfl, by omega, by omega, h6, s6, Ins.start srt6, m6⟩, ?_⟩
    rintro _ _ w7 ⟨j, zs, rfl, hj1, hj2, h7, s7, ins7, m7⟩
    have fin : (j ≤ a ∨ at0 zs (j - 1) ≤ at0 zs j) → Srt zs a i := fun hh => by
      have := ins7.done hh
      rwa [Nat.sub_add_cancel (by omega)] at this
    refine ifK_dec (fun hj0 => ?_) (fun hj0 => ⟨zs, h7, s7, fin (.inl (by omega)), m7⟩)
    have hj0 : 0 < j := by omega
    intro w8 e8
    have m8 : Mod no w7 w8 := by subst e8; exact Mod.drew _
    clear e8
    rw [wP (i := j) (by omega) hj0]
    refine nls (h7.no m8) j (j - 1) rfl rfl (by omega) (by omega) (fun hge => ⟨zs, h7.no m8, s7, fin (.inr (Lin.nlt hge)), m7.trans_no m8⟩) (fun hlt => ?_)
    have haj : a < j := by
      refine Nat.lt_of_le_of_ne hj1 fun e => ?_
      subst e
      exact absurd hlt (Lin.nle ((hbel.seg s7 (hd.le hb)) hj0 a (Nat.le_refl _) hab))
    intro w9 e9
    have m9 : Mod no w8 w9 := by subst e9; exact Mod.drew _
    clear e9
    refine ((h7.no m8).no m9).swp j (j - 1) rfl rfl (by omega) (by omega) fun w10 h10 m10 => ?_
    exact ⟨⟨j - 1, _, rfl, by omega, by omega, h10, s7.trans (h7.seg (by omega) (by omega) (by omega) (by omega) (by omega) (by omega)), ins7.step (h7.lt (by omega)) haj (by omega) hlt, ((m7.trans_no m8).trans_no m9).trans m10⟩, by simp only; omega⟩
  -- the greater one to the right
  rintro _ w11 ⟨zs, h11, s11, srt11, m11⟩
  have next : ∀ (w' : World) (us : List Int), Els (Value.int .i64) e w' d l c us → Seg a b xs us → Srt us a i → Mod (rowB d) w w' →
      (∃ (i' j' : Nat) (ys : List Int), (i : Int) = i' ∧ ((j0 + 1 : Nat) : Int) = j' ∧ a < i' ∧ i' ≤ b ∧ j' ≤ 5 ∧ Els (Value.int .i64) e w' d l c ys ∧ Seg a b xs ys ∧ Srt ys a i' ∧ Mod (rowB d) w w') ∧ (5 - ((j0 + 1 : Nat) : Int)).toNat < (5 - (j0 : Int)).toNat := by
    intro w' us hu su srtu mu
    exact ⟨⟨i, j0 + 1, us, rfl, rfl, h3, h4, by omega, hu, su, srtu, mu⟩, by omega⟩
  refine ifK_of (fun hge => ?_) (fun _ => next w11 zs h11 s11 srt11 m11)
  refine ⟨fun x w' => ∃ (j : Nat) (us : List Int), x = j ∧ i < j ∧ j ≤ b ∧ Els (Value.int .i64) e w' d l c us ∧ Seg a b xs us ∧ Srt us a i ∧ Mod (rowB d) w w', fun x _ => ((b : Int) - x).toNat,
    ⟨i + 1, zs, rfl, by omega, by omega, h11, s11, srt11, m11⟩, ?_⟩
  rintro _ _ w12 ⟨j, us, rfl, hj1, hj2, h12, s12, srt12, m12⟩
  refine ifK_dec (fun hjb => ?_) (fun _ => next w12 us h12 s12 srt12 m12)
  have hjb : j < b := by omega
  intro w13 e13
  have m13 : Mod no w12 w13 := by subst e13; exact Mod.drew _
  clear e13
  rw [wP (i := j) (by omega) (by omega), wS (i := j) (by omega)]
  refine nls (h12.no m13) j (j - 1) rfl rfl (by omega) (by omega) (fun _ => next w13 us (h12.no m13) s12 srt12 (m12.trans_no m13)) (fun hlt => ?_)
  intro w14 e14
  have m14 : Mod no w13 w14 := by subst e14; exact Mod.drew _
  clear e14
  refine ((h12.no m13).no m14).swp j (j - 1) rfl rfl (by omega) (by omega) fun w15 h15 m15 => ?_
  have s15 : Seg i b us (swapL us j (j - 1)) := h12.seg (by omega) (by omega) (by omega) (by omega) (by omega) (by omega)
  exact ⟨⟨j + 1, _, rfl, by omega, by omega, h15, s12.trans (s15.mono (by omega) (Nat.le_refl _)), srt12.of_out s15 (.inl (Nat.le_refl _)), ((m12.trans_no m13).trans_no m14).trans m15⟩, by simp only; omega⟩
end

/-- The general sort. -/
theorem pdq_ok (e : TypeId) (d : Option Addr) (l c : Nat) (hl : l < 4611686018427387904) : ∀ (n a b : Nat) (lim : Int) (xs : List Int) (w : World), b - a ≤ n → Els (Value.int .i64) e w d l c xs → a ≤ b → b ≤ l → Bel xs a b → ∀ R : Value → World → Prop,
    (∀ w' ys, Els (Value.int .i64) e w' d l c ys → Seg a b xs ys → Srt ys a b → Mod (rowB d) w w' → R (.tuple #[]) w') →
    Ca Tryz.prog 92 #[.slice d l c, .int .i64 a, .int .i64 b, .int .i64 lim] w R := by
  intro n
  induction n using Nat.strongRecOn with
  | _ n ih =>
  intro a b lim xs w hn hd hab hb hbel R h
  refine ca92 d l c a b lim w R ?_
  refine ⟨fun x y _ _ _ w' => ∃ (a' b' : Nat) (ys : List Int), x = a' ∧ y = b' ∧ a ≤ a' ∧ a' ≤ b' ∧ b' ≤ b ∧ Els (Value.int .i64) e w' d l c ys ∧ Seg a b xs ys ∧ Alm ys a b a' b' ∧ Bel ys a' b' ∧ Mod (rowB d) w w', fun x y _ _ _ _ => (y - x).toNat,
    ⟨a, b, xs, rfl, rfl, Nat.le_refl _, hab, Nat.le_refl _, hd, Seg.refl _ _ _, Alm.start _ _ _, hbel, Mod.refl _ _⟩, ?_⟩
  rintro _ _ _ lim' b6 b7 w1 ⟨a', b', ys, rfl, rfl, ha, hab', hb', h1, s1, alm1, bel1, m1⟩
  have sorted : ∀ w' zs, Els (Value.int .i64) e w' d l c zs → Seg a' b' ys zs → Srt zs a' b' → Mod (rowB d) w1 w' → R (.tuple #[]) w' := fun w' zs hz sz srt mz =>
    h w' zs hz (s1.trans (sz.mono ha hb')) ((alm1.seg sz ha hb' (h1.le hb)).full srt) (m1.trans mz)
  rw [wD (i := b') (j := a') (by omega) hab']
  refine ifK_dec (fun _ => ?_) (fun hlen => ?_)
  · exact insertion_ok e d l c a' b' ys w1 h1 hab' (by omega) hl _ fun w2 zs h2 s2 srt2 m2 => ⟨rfl, sorted w2 zs h2 s2 srt2 m2⟩
  have hlen : a' + 12 < b' := by omega
  refine ifK_of (fun _ => ?_) (fun _ => ?_)
  · exact heapSort_ok e d l c ys w1 h1 hl a' b' (by omega) (by omega) _ fun w2 zs h2 s2 srt2 m2 => ⟨rfl, sorted w2 zs h2 s2 srt2 m2⟩
  -- a part of another order is as good
  refine ⟨fun _ w' => ∃ zs, Els (Value.int .i64) e w' d l c zs ∧ Seg a' b' ys zs ∧ Mod (rowB d) w1 w', ?_, ?_⟩
  · refine ifK_of (fun _ => ?_) (fun _ => ⟨ys, h1, Seg.refl _ _ _, Mod.refl _ _⟩)
    exact breakP_ok e d l c ys w1 h1 hl a' b' (by omega) (by omega) _ fun w2 zs h2 s2 m2 => ⟨rfl, zs, h2, s2, m2⟩
  rintro _ lim2 w2 ⟨zs, h2, s2, m2⟩
  refine choosePivot_ok e d l c zs w2 h2 hl a' b' (by omega) (by omega) _ fun w3 p hint hp1 hp2 m3 => ⟨_, _, rfl, ?_⟩
  refine ⟨fun x _ w' => ∃ (p : Nat) (us : List Int), x = p ∧ a' ≤ p ∧ p < b' ∧ Els (Value.int .i64) e w' d l c us ∧ Seg a' b' ys us ∧ Mod (rowB d) w1 w', ?_, ?_⟩
  · refine ifK_of (fun _ => ?_) (fun _ => ⟨p, zs, rfl, hp1, hp2, h2.no m3, s2, m2.trans_no m3⟩)
    refine reverse_ok e d l c zs w3 (h2.no m3) hl a' b' (by omega) (by omega) _ fun w4 us h4 s4 m4 => ⟨rfl, b' - 1 - (p - a'), us, ?_, by omega, by omega, h4, s2.trans s4, (m2.trans_no m3).trans m4⟩
    rw [wP (i := b') (by omega) (by omega), wD (i := p) (j := a') (by omega) hp1, wD (by omega) (by omega)]
  rintro _ _ hint2 w5 ⟨p, us, rfl, hp1, hp2, h5, s5, m5⟩
  refine ⟨fun w' => ∃ vs, Els (Value.int .i64) e w' d l c vs ∧ Seg a' b' ys vs ∧ Mod (rowB d) w1 w', ?_, ?_⟩
  · refine ifK_of (fun _ => ifK_of (fun _ => ifK_of (fun _ => ?_) (fun _ => ⟨us, h5, s5, m5⟩)) (fun _ => ⟨us, h5, s5, m5⟩)) (fun _ => ⟨us, h5, s5, m5⟩)
    refine partial_ok e d l c us w5 h5 hl a' b' (by omega) (by omega) (bel1.seg s5 (h1.le (by omega))) _ fun w6 vs q h6 s6 srt6 m6 => ⟨q, rfl, ?_⟩
    exact ifK_of (fun hq => sorted w6 vs h6 (s5.trans s6) (srt6 hq) (m5.trans m6)) (fun _ => ⟨vs, h6, s5.trans s6, m5.trans m6⟩)
  rintro _ w7 ⟨vs, h7, s7, m7⟩
  have s7' : Seg a b xs vs := s1.trans (s7.mono ha hb')
  have m7' := m1.trans m7
  have alm7 := alm1.seg s7 ha hb' (h1.le hb)
  have bel7 := bel1.seg s7 (h1.le (by omega))
  -- parted into less and more
  refine ⟨fun x w' => x = (a' : Int) ∧ Els (Value.int .i64) e w' d l c vs ∧ Mod (rowB d) w w', ?_, ?_⟩
  · intro w8 e8
    have m8 : Mod no w7 w8 := by subst e8; exact Mod.drew _
    clear e8
    refine ifK_dec (fun ha0 => ?_) (fun _ => ⟨rfl, h7.no m8, m7'.trans_no m8⟩)
    have ha0 : 0 < a' := by omega
    rw [wP (i := a') (by omega) ha0]
    refine nls (h7.no m8) (a' - 1) p rfl rfl (by omega) (by omega) (fun hge => ?_) (fun _ => ⟨rfl, h7.no m8, m7'.trans_no m8⟩)
    have hmin : ∀ k, a' ≤ k → k < b' → at0 vs p ≤ at0 vs k := fun k h8 h9 => Lin.tr (Lin.nlt hge) (bel7 ha0 k h8 h9)
    refine partEq_ok e d l c vs w8 (h7.no m8) hl a' b' p hp1 hp2 (by omega) hmin _ fun w9 ts m h9 s9 eq9 m9 => ⟨_, rfl, ?_⟩
    have hm1 := eq9.am
    have hm2 := eq9.mb
    exact ⟨⟨m, b', ts, rfl, rfl, by omega, hm2, hb', h9, s7'.trans (s9.mono ha hb'), (alm7.seg s9 ha hb' (h7.le hb)).eqd eq9, eq9.bel, (m7'.trans_no m8).trans m9⟩, by simp only; omega⟩
  rintro _ _ w10 ⟨rfl, h10, m10⟩
  refine partition_ok e d l c vs w10 h10 hl a' b' p hp1 hp2 (by omega) _ fun w11 ts m q h11 s11 pt11 m11 => ⟨_, _, rfl, by decide, ?_⟩
  have hm1 := pt11.am
  have hm2 := pt11.mb
  have s11' : Seg a b xs ts := s7'.trans (s11.mono ha hb')
  have alm11 := alm7.seg s11 ha hb' (h7.le hb)
  have bel11 := bel7.seg s11 (h7.le (by omega))
  have m11' := m10.trans m11
  rw [wS (i := m) (by omega)]
  refine ifK_of (fun _ => ?_) (fun _ => ?_)
  · refine ih (m - a') (by omega) a' m lim2 ts w11 (Nat.le_refl _) h11 hm1 (by omega) (bel11.mono (by omega)) _ fun w12 rs h12 s12 srt12 m12 => ⟨rfl, ?_⟩
    have pt12 := pt11.left (h11.le (by omega)) s12
    exact ⟨⟨m + 1, b', rs, rfl, rfl, by omega, by omega, hb', h12, s11'.trans (s12.mono (by omega) (by omega)), (alm11.seg (s12.mono (Nat.le_refl _) (by omega)) ha hb' (h11.le hb)).left pt12 srt12, pt12.bel, m11'.trans m12⟩, by simp only; omega⟩
  · refine ih (b' - (m + 1)) (by omega) (m + 1) b' lim2 ts w11 (Nat.le_refl _) h11 (by omega) (by omega) pt11.bel _ fun w12 rs h12 s12 srt12 m12 => ⟨rfl, ?_⟩
    have pt12 := pt11.right (h11.le (by omega)) s12
    exact ⟨⟨a', m, rs, rfl, rfl, ha, hm1, by omega, h12, s11'.trans (s12.mono (by omega) (by omega)), (alm11.seg (s12.mono (by omega) (Nat.le_refl _)) ha hb' (h11.le hb)).right pt12 srt12,
      (bel11.seg (s12.mono (by omega) (Nat.le_refl _)) (h11.le (by omega))).mono (by omega), m11'.trans m12⟩, by simp only; omega⟩

theorem sort_ok (e : TypeId) (d : Option Addr) (l c : Nat) (xs : List Int) (w : World) (hd : Els (Value.int .i64) e w d l c xs) (hl : l < 4611686018427387904) (R : Value → World → Prop)
    (h : ∀ w' ys, Els (Value.int .i64) e w' d l c ys → ys.Perm xs → Srt ys 0 l → Mod (rowB d) w w' → R (.tuple #[]) w') :
    Ca Tryz.prog 71 #[.slice d l c] w R := by
  refine ca71 d l c w R ?_
  refine bitsLen_ok _ w _ fun n _ => ⟨n, rfl, ?_⟩
  exact pdq_ok e d l c hl l 0 l n xs w (Nat.le_refl _) hd (Nat.zero_le _) (Nat.le_refl _) (fun h => absurd h (by omega)) _ fun w' ys h1 h2 h3 h4 => ⟨rfl, h w' ys h1 h2.perm h3 h4⟩
end Go.Proofs.YtgjdandnncjegaaGreatDoor.Sortint

/- Contract of ledger's parts. -/
namespace Go.Proofs.YtgjdandnncjegaaGreatDoor
open Go Go.Proofs.YtgjdandnncjegaaGreatDoor.St

/-- The number that a part's name bears. -/
def numB (f : ByteArray) : Option Nat :=
  if Lib.hasPrefix f.data.toList logL then (Lib.atoi (Lib.trimPrefix f.data.toList logL)).bind fun z => if nameI z = f ∧ 1 ≤ z then some z.toNat else none else none
theorem nameI_nat {n : Nat} (h1 : 1 ≤ n) (h2 : n ≤ 999999999) : nameI n = nameL n := by rw [nameI, if_pos (by omega), Int.toNat_natCast]
theorem numB_name {n : Nat} (h1 : 1 ≤ n) (h2 : n ≤ 999999999) : numB (nameL n) = some n := by
  rw [numB, if_pos (nameL_prefix n), nameL_trim, atoi_digits]
  simp only [Option.bind]
  rw [if_pos ⟨nameI_nat h1 h2, by omega⟩]
  simp
theorem numB_check : numB nCheck = none := by rfl
theorem numB_coming : numB nComing = none := by rfl
theorem trim_size (f : ByteArray) (h : f.size ≤ 18) : (ByteArray.mk (Lib.trimPrefix f.data.toList logL).toArray).size ≤ 18 := by
  have e : (ByteArray.mk (Lib.trimPrefix f.data.toList logL).toArray).size = (Lib.trimPrefix f.data.toList logL).length := rfl
  have e2 : f.size = f.data.toList.length := rfl
  rw [e, Lib.trimPrefix]
  split
  · rw [List.length_drop]; omega
  · omega
/-- The numbers from one on, of names. -/
def numsOf (from_ : Int) (l : List ByteArray) : List Int := l.filterMap fun f => (numB f).bind fun n => if from_ ≤ (n : Int) then some (n : Int) else none
def numI (from_ : Int) (f : ByteArray) : Option Int := (numB f).bind fun n => if from_ ≤ (n : Int) then some (n : Int) else none
theorem numsOf_snoc (from_ : Int) (l : List ByteArray) (x : ByteArray) : numsOf from_ (l ++ [x]) = numsOf from_ l ++ (numI from_ x).toList := by
  have e : ∀ l, numsOf from_ l = l.filterMap (numI from_) := fun _ => rfl
  rw [e, e, List.filterMap_append]
  cases h : numI from_ x <;> simp [h]
theorem numsOf_len (from_ : Int) (l : List ByteArray) : (numsOf from_ l).length ≤ l.length := List.length_filterMap_le _ _
theorem intsLaid : laidOk Tryz.prog 31 3 1 = true := by kernel_rfl
theorem intone : ∀ x : Int, (Value.int .i64 x).oneCell' = true := fun _ => rfl

theorem parts_ok {w : World} {s : Nat} {F : Nat → Prop} {a : AS} (h : Stt w s F a) (hV : Vars w) (hsz : ∀ n ∈ a.names, n.size ≤ 18) (hlen : a.names.length ≤ 67108864) (from_ : Int) (R : Value → World → Prop)
    (hR : ∀ w' p l c ys, Els (Value.int .i64) 3 w' p l c ys → ys.Perm (numsOf from_ a.names) → Srt ys 0 ys.length → Mod no w w' → (∀ k, rowB p k → w.heap.size ≤ k) → R (.slice p l c) w') :
    Ca Tryz.prog 29 #[.pointer (some ⟨s, 0, none⟩), .int .i64 from_] w R := by
  refine ca29 (some ⟨s, 0, none⟩) from_ w R ?_
  refine names_ok h _ fun w1 p2 l2 c2 hs m1 n1 => ⟨p2, l2, c2, rfl, ?_⟩
  have hl2 := hs.len.1
  refine ⟨fun p n c x w' => ∃ i : Nat, x = i ∧ i ≤ l2 ∧ Els (Value.int .i64) 3 w' p n c (numsOf from_ (a.names.take i)) ∧ Mod no w1 w' ∧ ∀ k, rowB p k → w1.heap.size ≤ k, fun _ _ _ x _ => ((l2 : Int) - x).toNat,
    ⟨0, rfl, by omega, Els.nil _ _, Mod.refl _ _, fun k hk => by simp [rowB] at hk⟩, ?_⟩
  rintro _ p n c _ w3 ⟨i, rfl, hi, he, m3, hnew⟩
  have hn := he.len.1
  refine ifK_dec (fun hlt => ?_) (fun hge => ?_)
  · have hil : i < a.names.length := by omega
    have e1 : IntKind.i64.wrap ((i : Int) + 1) = ((i + 1 : Nat) : Int) := by rw [wrap64 (by omega) (by omega)]; rfl
    have hmeas : ((l2 : Int) - ((i + 1 : Nat) : Int)).toNat < ((l2 : Int) - (i : Int)).toNat := by omega
    rw [e1]
    obtain ⟨f, hf⟩ : ∃ f, f = a.names[i] := ⟨_, rfl⟩
    have hfs : f.size ≤ 18 := by rw [hf]; exact hsz _ (List.getElem_mem hil)
    have htk : a.names.take (i + 1) = a.names.take i ++ [f] := by rw [hf]; exact List.take_succ_eq_append_getElem hil
    have hs3 : Els Value.string 9 w3 p2 l2 c2 a.names := row_mod hs m3 fun _ _ => id
    have hall := hs3.all fun _ => rfl
    have hp2 : ∃ ad, p2 = some ad := by
      cases hp : p2 with
      | none => have := hall.2 hp; omega
      | some ad => exact ⟨ad, rfl⟩
    obtain ⟨ad, had⟩ := hp2
    have hcell : w3.cell? (Addr.add ad (Int.toNat (i : Int) * 1)) = some (.string f) := by
      rw [Int.toNat_natCast, Nat.mul_one]
      exact hall.1 ad had i _ (by rw [List.getElem?_map, List.getElem?_eq_getElem hil, hf]; rfl)
    -- a round that adds nothing
    have skip : ∀ w', Mod no w3 w' → numI from_ f = none → (∃ i' : Nat, ((i + 1 : Nat) : Int) = i' ∧ i' ≤ l2 ∧ Els (Value.int .i64) 3 w' p n c (numsOf from_ (a.names.take i')) ∧ Mod no w1 w' ∧ ∀ k, rowB p k → w1.heap.size ≤ k) ∧ ((l2 : Int) - ((i + 1 : Nat) : Int)).toNat < ((l2 : Int) - (i : Int)).toNat := fun w' m hnone => by
      refine ⟨⟨i + 1, rfl, by omega, ?_, m3.trans m, hnew⟩, hmeas⟩
      rw [htk, numsOf_snoc, hnone]
      simp only [Option.toList_none, List.append_nil]
      exact row_mod he m fun _ _ => id
    refine ⟨ad, had, by omega, by omega, f, hcell, prefix_ok f _ w3 _ ⟨_, _, rfl, ?_⟩⟩
    have tsz := trim_size f hfs
    have htl : (ByteArray.mk (Lib.trimPrefix f.data.toList logL).toArray).data.toList = Lib.trimPrefix f.data.toList logL := List.toList_toArray ..
    have hV3 := (hV.no m1).no m3
    obtain ⟨tp, pv, herr⟩ := hV3.err
    cases ha : Lib.atoi (Lib.trimPrefix f.data.toList logL) with
    | none =>
      have hnone : numI from_ f = none := by
        rw [numI, numB]
        split
        · rw [ha]; rfl
        · rfl
      refine atoi_bad _ tsz (by rw [htl]; exact ha) tp pv w3 herr _ fun w4 t q m4 => ⟨_, _, rfl, ifK_of (fun _ => ⟨false, rfl, (ifK_of (fun h => by cases h) (fun _ => skip w4 m4 hnone) : ifK false _ _)⟩) (fun _ => skip w4 m4 hnone)⟩
    | some z =>
      refine atoi_ok _ z tsz (by rw [htl]; exact ha) w3 _ fun w4 m4 => ⟨_, _, rfl, ifK_of (fun hpf => ⟨true, rfl, (ifK_of (fun _ => ?_) (fun h => by cases h) : ifK true _ _)⟩) (fun hpf => skip w4 m4 ?_)⟩
      · have hpf : Lib.hasPrefix f.data.toList logL = true := hpf
        refine name_ok (hV3.no m4) z _ fun w5 m5 => ⟨_, rfl, ifK_of (fun heq => ?_) (fun hne => skip w5 (m4.trans m5) ?_)⟩
        · have heq : nameI z = f := by
            have h1 := eq_of_beq heq
            rw [byteArray_toList, byteArray_toList] at h1
            exact ByteArray.ext (Array.toList_inj.1 h1)
          have hz : 1 ≤ z := by
            apply Classical.byContradiction
            intro hz
            rw [nameI, if_neg (by omega)] at heq
            rw [← heq] at hpf
            cases hpf
          have hnum : numI from_ f = if from_ ≤ z then some z else none := by
            have : numB f = some z.toNat := by rw [numB, if_pos hpf, ha]; simp only [Option.bind]; rw [if_pos ⟨heq, hz⟩]
            rw [numI, this]
            simp only [Option.bind, Int.toNat_of_nonneg (show 0 ≤ z by omega)]
          refine ifK_dec (fun hge => ?_) (fun hlt2 => skip w5 (m4.trans m5) (by rw [hnum, if_neg (by omega)]))
          intro w6 e6
          have m6 : Mod no w5 w6 := by subst e6; exact Mod.alloc _ _
          have c6 : w6.heap[w5.heap.size]? = some (.cells #[.int .i64 z] 3 (0, 0)) := by subst e6; exact new_at _ _
          clear e6
          have m36 := (m4.trans m5).trans m6
          have he6 : Els (Value.int .i64) 3 w6 p n c (numsOf from_ (a.names.take i)) := row_mod he m36 fun _ _ => id
          have hlt3 := numsOf_len from_ (a.names.take i)
          rw [List.length_take] at hlt3
          obtain ⟨p', c', w7, hrun, he7, m7, hb⟩ := he6.push1 (P := Tryz.prog) (t := 31) (ty := 31) intone intsLaid c6 (by omega)
          refine ⟨_, w7, hrun, _, _, _, rfl, ⟨i + 1, rfl, by omega, ?_, (m3.trans m36).new m7 hnew, fun k hk => ?_⟩, hmeas⟩
          · rw [htk, numsOf_snoc, hnum, if_pos (by omega)]
            exact he7
          · rcases hb k hk with h | h
            · exact hnew k h
            · exact Nat.le_trans (Nat.le_trans m3.size m36.size) h
        · rw [numI, numB, if_pos hpf, ha]
          simp only [Option.bind]
          rw [if_neg fun h => by rw [h.1, beq_self_eq_true] at hne; cases hne]
      · have hpf : Lib.hasPrefix f.data.toList logL = false := hpf
        rw [numI, numB, if_neg (by rw [hpf]; simp)]
        rfl
  · rw [List.take_of_length_le (by omega)] at he hn
    refine Sortint.sort_ok 3 p n c _ w3 he (by have := numsOf_len from_ a.names; omega) _ fun w4 ys hy hperm hsrt m4 => ⟨rfl, ?_⟩
    have hyl := hy.len.1
    exact hR w4 p n c ys hy hperm (by rw [hyl]; exact hsrt) (m1.trans (m3.new m4 hnew)) fun k hk => Nat.le_trans m1.size (hnew k hk)
end Go.Proofs.YtgjdandnncjegaaGreatDoor

/- A ledger in plain Lean: what each call makes of a store and of the ledger. It names no program. -/
namespace Go.Proofs.YtgjdandnncjegaaGreatDoor
open Go Go.Proofs.YtgjdandnncjegaaGreatDoor.St

/-- Steps one behind the other, up to the first error. -/
def thn (x : AS × Int) (f : AS → AS × Int) : AS × Int := if x.2 = 0 then f x.1 else x

structure AL where
  part : Int
  last : Int
  waits : List Bs
  dead : Bool

/-- The numbers of the parts from one on, rising. -/
def AS.partsL (a : AS) (from_ : Int) : List Int := (numsOf from_ a.names).mergeSort fun x y => decide (x ≤ y)
/-- The first part, and the checkpoint's bytes. -/
def AS.found (a : AS) : Option (Int × Bs) :=
  if (a.read nCheck).2 ≠ 0 then some (1, [])
  else if (openB sumB (a.read nCheck).1).2.2 ≠ 0 ∨ (openB sumB (a.read nCheck).1).2.1 < (a.read nCheck).1.length ∨ (openB sumB (a.read nCheck).1).1.length < 8 ∨
      getN 8 (openB sumB (a.read nCheck).1).1 < 1 ∨ 999999999 < getN 8 (openB sumB (a.read nCheck).1).1 then none
  else some (getN 8 (openB sumB (a.read nCheck).1).1, (openB sumB (a.read nCheck).1).1.drop 8)
/-- The records of parts; how many bytes of the last one are right. -/
def AS.gather (a : AS) (first : Int) : Nat → List Int → List Bs → Int → Option (List Bs × Int)
  | _, [], rs, torn => some (rs, torn)
  | i, n :: r, rs, torn =>
    if n ≠ first + i ∨ ((wholeB sumB (a.read (nameI n)).1).2 ≠ (a.read (nameI n)).1.length ∧ r ≠ []) then none
    else a.gather first (i + 1) r (rs ++ (wholeB sumB (a.read (nameI n)).1).1) (if (wholeB sumB (a.read (nameI n)).1).2 = (a.read (nameI n)).1.length then torn else (wholeB sumB (a.read (nameI n)).1).2)
def lastOf (first : Int) (all : List Int) : Int := all.getLast?.getD first
def AS.mend (a : AS) (first : Int) (all : List Int) (torn : Int) : AS × Int :=
  if 0 ≤ torn then thn (a.cut (nameI (lastOf first all)) torn) fun a => a.sync (nameI (lastOf first all))
  else if all = [] then thn (a.make (nameI first)) fun a => a.commit else (a, 0)
def AS.openL (a : AS) (part : Int) : AS × Int × Option (AL × Bs × List Bs) :=
  if a.dark then (a, 9, none) else if part < 1 ∨ 1048576 < part then (a, 2, none) else
  match a.found with
  | none => (a, 7, none)
  | some (first, check) =>
    match a.gather first 0 (a.partsL first) [] (-1) with
    | none => (a, 7, none)
    | some (rs, torn) => if (a.mend first (a.partsL first) torn).2 = 0 then ((a.mend first (a.partsL first) torn).1, 0, some (⟨part, lastOf first (a.partsL first), [], false⟩, check, rs)) else ((a.mend first (a.partsL first) torn).1, (a.mend first (a.partsL first) torn).2, none)

def AL.may (l : AL) (a : AS) : Int := if l.dead = true ∨ a.dark = true then 9 else 0
def AL.told (l : AL) (e : Int) : AL := { l with dead := l.dead || e == 9 }
def AL.add (l : AL) (a : AS) (b : Bs) : AL × Int := if l.may a ≠ 0 then (l, l.may a) else if 1048512 < b.length ∨ 1000 ≤ l.waits.length then (l, 5) else ({ l with waits := l.waits ++ [b] }, 0)
/-- The next part is the last one. -/
def AL.turn (l : AL) (a : AS) : AS × AL × Int :=
  if (a.make (nameI (l.last + 1))).2 = 9 then ((a.make (nameI (l.last + 1))).1, l.told 9, 9)
  else if (a.make (nameI (l.last + 1))).2 ≠ 0 then ((a.make (nameI (l.last + 1))).1, l, 0)
  else if (a.make (nameI (l.last + 1))).1.commit.2 ≠ 0 then ((a.make (nameI (l.last + 1))).1.commit.1, l.told (a.make (nameI (l.last + 1))).1.commit.2, (a.make (nameI (l.last + 1))).1.commit.2)
  else ((a.make (nameI (l.last + 1))).1.commit.1, { l with last := l.last + 1 }, 0)
def AL.put (l : AL) (a : AS) : AS × Int := thn (a.write (nameI l.last) (sealsB sumB l.waits)) fun a => a.sync (nameI l.last)
def AL.flush (l : AL) (a : AS) : AS × AL × Int :=
  if l.may a ≠ 0 ∨ l.waits = [] then (a, l, l.may a)
  else if (l.put a).2 ≠ 0 then ((l.put a).1, l.told (l.put a).2, (l.put a).2)
  else if (((l.put a).1.read (nameI l.last)).1.length : Int) ≤ l.part ∨ 999999999 ≤ l.last then ((l.put a).1, { l with waits := [] }, 0)
  else AL.turn { l with waits := [] } (l.put a).1
/-- The steps of a checkpoint. -/
def AS.marks (a : AS) (next : Int) (check : Bs) : AS × Int :=
  thn (thn (thn (thn (thn (thn (if (a.read nComing).2 ≠ 0 then (a, 0) else a.drop nComing) fun a => a.make nComing) fun a => a.write nComing (sealB sumB (putN 8 next.toNat ++ check))) fun a => a.sync nComing) fun a => a.make (nameI next)) fun a => a.move nComing nCheck) fun a => a.commit
def AS.drops (last : Int) : List Int → AS → AS × Int
  | [], a => (a, 0)
  | n :: r, a => if n = last then a.drops last r else if (a.drop (nameI n)).2 ≠ 0 then ((a.drop (nameI n)).1, (a.drop (nameI n)).2) else (a.drop (nameI n)).1.drops last r
def AS.clean (a : AS) (last : Int) : AS × Int := thn (AS.drops last (a.partsL 1) a) fun a => a.commit
def AL.mark (l : AL) (a : AS) (check : Bs) : AS × AL × Int :=
  if l.may a ≠ 0 then (a, l, l.may a) else if 1048512 < check.length then (a, l, 5)
  else if (l.flush a).2.2 ≠ 0 then l.flush a
  else if 999999999 ≤ (l.flush a).2.1.last then ((l.flush a).1, (l.flush a).2.1, 11)
  else if ((l.flush a).1.marks ((l.flush a).2.1.last + 1) check).2 ≠ 0 then
    (((l.flush a).1.marks ((l.flush a).2.1.last + 1) check).1, (l.flush a).2.1.told ((l.flush a).1.marks ((l.flush a).2.1.last + 1) check).2, ((l.flush a).1.marks ((l.flush a).2.1.last + 1) check).2)
  else ((((l.flush a).1.marks ((l.flush a).2.1.last + 1) check).1.clean ((l.flush a).2.1.last + 1)).1,
    AL.told { (l.flush a).2.1 with last := (l.flush a).2.1.last + 1 } (((l.flush a).1.marks ((l.flush a).2.1.last + 1) check).1.clean ((l.flush a).2.1.last + 1)).2,
    (((l.flush a).1.marks ((l.flush a).2.1.last + 1) check).1.clean ((l.flush a).2.1.last + 1)).2)
def AL.parts (l : AL) (a : AS) : List Int := if a.dark then [] else a.partsL 1

theorem partsL_of {from_ : Int} {a : AS} {ys : List Int} (h : ys.Perm (numsOf from_ a.names)) (hs : Srt ys 0 ys.length) : ys = a.partsL from_ := by
  have p2 : (a.partsL from_).Pairwise (· ≤ ·) := by
    have := List.pairwise_mergeSort (le := fun x y : Int => decide (x ≤ y)) (fun x y z h1 h2 => by simp at *; omega) (fun x y => by simp; omega) (numsOf from_ a.names)
    exact this.imp fun h => by simpa using h
  have p1 : ys.Pairwise (· ≤ ·) := by
    rw [List.pairwise_iff_getElem]
    intro i j hi hj hij
    have := hs i j (Nat.zero_le _) hij hj
    simpa [at0, hi, hj] using this
  exact (h.trans (List.mergeSort_perm _ _).symm).eq_of_pairwise (fun x y _ _ h1 h2 => Int.le_antisymm h1 h2) p1 p2
end Go.Proofs.YtgjdandnncjegaaGreatDoor

/- A store with what is around it, and a ledger over it, as they lie; steps of the store one behind the other. -/
namespace Go.Proofs.YtgjdandnncjegaaGreatDoor
open Go Go.Proofs.YtgjdandnncjegaaGreatDoor.St

/-! ### Short names stay short -/
structure AS.Named (a : AS) : Prop where
  dirs : ∀ p ∈ a.dir, p.1.size ≤ 18
  sures : ∀ p ∈ a.sure, p.1.size ≤ 18
  lens : ∀ f ∈ a.all, (f.1.length : Int) ≤ a.room ∧ (f.2.length : Int) ≤ a.room
  dn : (a.dir.length : Int) * 16 ≤ a.room
  sn : (a.sure.length : Int) * 16 ≤ a.room
  rm : a.room ≤ 4194304
section
variable {a : AS} {n : ByteArray}
theorem AS.Named.of_eq {b : AS} (h : a.Named) (h1 : b.dir = a.dir) (h2 : b.sure = a.sure) (h3 : b.all = a.all) (h4 : b.room = a.room) : b.Named := ⟨by rw [h1]; exact h.dirs, by rw [h2]; exact h.sures, by rw [h3, h4]; exact h.lens, by rw [h1, h4]; exact h.dn, by rw [h2, h4]; exact h.sn, by rw [h4]; exact h.rm⟩
theorem AS.Named.new {room : Int} (h : 0 ≤ room) (h' : room ≤ 4194304) : (AS.new room).Named := ⟨fun _ h => (nomatch h), fun _ h => (nomatch h), fun _ h => (nomatch h), by simpa [AS.new] using h, by simpa [AS.new] using h, h'⟩
theorem AS.Named.fail (h : a.Named) (k : Int) : (a.fail k).Named := by
  unfold AS.fail
  split
  · exact h
  · refine ⟨h.sures, h.sures, fun f hf => ?_, h.sn, h.sn, h.rm⟩
    obtain ⟨g, hg, rfl⟩ := List.mem_map.1 hf
    have := h.lens g hg
    unfold failF
    split
    · simp only [List.length_take]; omega
    · exact ⟨this.2, this.2⟩
theorem AS.Named.counted (h : a.Named) {f : AS → AS} (hf : ∀ c l, (f { a with count := c, left := l }).Named) : (a.counted f).1.Named := by
  unfold AS.counted
  split
  · split
    · exact AS.Named.fail (a := a.tick.less) (h.of_eq rfl rfl rfl rfl) _
    · exact hf _ _
  · exact hf _ _
theorem AS.Named.make (h : a.Named) (hn : n.size ≤ 18) : (a.make n).1.Named := by
  unfold AS.make
  split
  · exact h
  · split
    · split
      · exact h
      · rename_i hr
        have hge := a.need_ge
        have hl := dset_length n a.all.length a.dir
        refine h.counted fun c l => ⟨fun p hp => ?_, h.sures, fun f hf => ?_, by simp only; omega, h.sn, h.rm⟩
        · rcases mem_dset.1 hp with rfl | hp
          · exact hn
          · exact h.dirs p hp.1
        · simp only [List.mem_append, List.mem_singleton] at hf
          rcases hf with hf | rfl
          · exact h.lens f hf
          · have := h.dn; simp only [List.length_nil]; omega
    · exact h
theorem AS.Named.upd (h : a.Named) {i : Nat} {g : Bs × Bs → Bs × Bs} (hg : ∀ f ∈ a.all[i]?, ((g f).1.length : Int) ≤ a.room ∧ ((g f).2.length : Int) ≤ a.room) (c l : Int) : (({ a with count := c, left := l } : AS).upd i g).Named := by
  refine ⟨h.dirs, h.sures, fun f hf => ?_, h.dn, h.sn, h.rm⟩
  obtain ⟨j, hj, rfl⟩ := List.getElem_of_mem hf
  have hj' : j < a.all.length := by simpa [AS.upd] using hj
  simp only [AS.upd, List.getElem_modify]
  split
  · rename_i e
    subst e
    exact hg _ (by simp [hj'])
  · exact h.lens _ (List.getElem_mem hj')
theorem AS.Named.write (h : a.Named) (b : Bs) : (a.write n b).1.Named := by
  unfold AS.write
  split
  · rename_i hk
    split
    · exact h
    · rename_i hr
      obtain ⟨_, _, i, hi, hx⟩ := AS.known0 hk
      refine h.counted fun c l => h.upd (fun f hf => ?_) c l
      have e : ({ a with count := c, left := l } : AS).idx n = i := hx
      simp only [e, Option.mem_def] at hf
      have h3 := h.lens f (List.mem_of_getElem? hf)
      have h4 : a.len i = f.1.length := by rw [AS.len, AS.file, hf]; rfl
      have h1 := a.need_mem (dget_some hi)
      simp only [h4] at h1
      simp only [List.length_append]
      omega
  · exact h
theorem AS.Named.cut (h : a.Named) (k : Int) : (a.cut n k).1.Named := by
  unfold AS.cut
  split
  · split
    · exact h
    · exact h.counted fun c l => h.upd (fun f hf => by have := h.lens f (List.mem_of_getElem? hf); simp only [List.length_take]; omega) c l
  · exact h
theorem AS.Named.sync (h : a.Named) : (a.sync n).1.Named := by
  unfold AS.sync
  split
  · exact h.counted fun c l => h.upd (fun f hf => by have := h.lens f (List.mem_of_getElem? hf); exact ⟨this.1, this.1⟩) c l
  · exact h
theorem AS.Named.drop (h : a.Named) : (a.drop n).1.Named := by
  unfold AS.drop
  split
  · refine h.counted fun c l => ⟨fun p hp => h.dirs p (mem_ddel.1 hp).1, h.sures, h.lens, ?_, h.sn, h.rm⟩
    have := ddel_length n a.dir
    have := h.dn
    simp only; omega
  · exact h
theorem AS.Named.move {to : ByteArray} (h : a.Named) (hn : to.size ≤ 18) : (a.move n to).1.Named := by
  unfold AS.move
  split
  · exact h
  · split
    · exact h
    · split
      · exact h
      · rename_i hd
        obtain ⟨f, hf⟩ : ∃ f, dget a.dir n = some f := by cases hg : dget a.dir n with | none => exact absurd hg hd | some f => exact ⟨f, rfl⟩
        have h1 := ddel_less hf
        have h2 := h.dn
        refine h.counted fun c l => ⟨fun p hp => ?_, h.sures, h.lens, ?_, h.sn, h.rm⟩
        · rcases mem_dset.1 hp with rfl | hp
          · exact hn
          · exact h.dirs p (mem_ddel.1 hp.1).1
        · have h3 := dset_length to (({ a with count := c, left := l } : AS).idx n) (ddel n a.dir)
          simp only at h3 ⊢; omega
theorem AS.Named.commit (h : a.Named) : a.commit.1.Named := by
  unfold AS.commit
  split
  · exact h
  · exact h.counted fun c l => ⟨h.dirs, h.dirs, h.lens, h.dn, h.dn, h.rm⟩
theorem AS.Named.power (h : a.Named) : a.power.Named := h.of_eq rfl rfl rfl rfl
theorem AS.Named.plan (h : a.Named) (k e : Int) : (a.plan k e).1.Named := by
  unfold AS.plan
  split
  · exact h
  · split
    · exact h
    · exact h.of_eq rfl rfl rfl rfl
theorem AS.Named.thn {x : AS × Int} {f : AS → AS × Int} (h : x.1.Named) (hf : (f x.1).1.Named) : (thn x f).1.Named := by
  unfold Go.Proofs.YtgjdandnncjegaaGreatDoor.thn
  split
  · exact hf
  · exact h
theorem AS.Named.names (h : a.Named) : ∀ n ∈ a.names, n.size ≤ 18 := by
  intro n hn
  unfold AS.names at hn
  split at hn
  · cases hn
  · obtain ⟨p, hp, rfl⟩ := List.mem_map.1 hn
    exact h.dirs p hp
/-- How much is read at most, of how many parts. -/
theorem AS.Named.big (h : a.Named) (h0 : 0 ≤ a.room) (f : Int) : (∀ n, ((a.read n).1.length : Int) ≤ a.room) ∧ ((a.partsL f).length : Int) * 16 ≤ a.room := by
  constructor
  · intro n
    rw [AS.read]
    split
    · rename_i hk
      obtain ⟨_, _, i, hi, hx⟩ := AS.known0 hk
      rw [hx, AS.file]
      cases hg : a.all[i]? with
      | none => simpa using h0
      | some g => exact (h.lens g (List.mem_of_getElem? hg)).1
    · simpa using h0
  · have h1 : (a.partsL f).length ≤ a.dir.length := by
      rw [AS.partsL, List.length_mergeSort]
      refine Nat.le_trans (numsOf_len _ _) ?_
      unfold AS.names
      split <;> simp
    have := h.dn
    omega
theorem nameI_size (n : Int) : (nameI n).size ≤ 18 := by
  unfold nameI
  split
  · exact Nat.le_trans (nameL_size (by omega)) (by decide)
  · decide
end

/-! ### Blocks that lie there -/
def Has (w : World) (L : List (Nat × Array Value × TypeId)) : Prop := ∀ x ∈ L, w.heap[x.1]? = some (.cells x.2.1 x.2.2 (0, 0))
section
variable {w w' : World} {L : List (Nat × Array Value × TypeId)} {T : Nat → Prop}
theorem Has.nil (w : World) : Has w [] := fun _ h => by cases h
theorem Has.get (h : Has w L) (i : Nat) {k : Nat} {cs : Array Value} {t : TypeId} (hi : L[i]? = some (k, cs, t)) : w.heap[k]? = some (.cells cs t (0, 0)) := h _ (List.mem_of_getElem? hi)
theorem Has.mod (h : Has w L) (hm : Mod T w w') (hs : ∀ x ∈ L, ¬ T x.1) : Has w' L := fun x hx => hm.at (h x hx) (hs x hx)
theorem Has.no (h : Has w L) (hm : Mod St.no w w') : Has w' L := h.mod hm fun _ _ => id
theorem Has.cons (h : Has w L) {k : Nat} {cs : Array Value} {t : TypeId} (hk : w.heap[k]? = some (.cells cs t (0, 0))) : Has w ((k, cs, t) :: L) := fun x hx => by
  rcases List.mem_cons.1 hx with rfl | hx
  · exact hk
  · exact h x hx
theorem Has.lt (h : Has w L) : ∀ x ∈ L, x.1 < w.heap.size := fun x hx => lt_of_heap (h x hx)
end
/-- A value that is put into a box of its own. -/
theorem boxG {t : TypeId} (z v : Value) (w2 : World) (K : World → Prop) (hK : ∀ w7, w7.heap[w2.heap.size]? = some (.cells #[v] t (0, 0)) → Mod no w2 w7 → w2.heap.size < w7.heap.size → K w7) :
    atW (w2.alloc (.cells #[z] t)) fun w5 => (∃ v6 : Value, w5.cell? (Addr.add ⟨w2.heap.size, 0, none⟩ 0) = some v6) ∧ w5.frozen? (Addr.add ⟨w2.heap.size, 0, none⟩ 0) = false ∧ atW (w5.setCell (Addr.add ⟨w2.heap.size, 0, none⟩ 0) v) fun w7 => K w7 := by
  intro w5 e5
  have m5 : Mod no w2 w5 := by subst e5; exact Mod.alloc _ _
  have b5 : w5.heap[w2.heap.size]? = some (.cells #[z] t (0, 0)) := by subst e5; exact new_at _ _
  clear e5
  refine ⟨⟨_, by rw [cl1 b5]; rfl⟩, fz1 b5 _, fun w7 e7 => ?_⟩
  have m7 : Mod (on w2.heap.size) w5 w7 := by subst e7; exact Mod.set1 _ _ _ _
  have b7 : w7.heap[w2.heap.size]? = some (.cells #[v] t (0, 0)) := by subst e7; rw [set1 b5]; rfl
  exact hK w7 b7 (m5.new m7 fun k hk => by cases hk; exact Nat.le_refl _) (lt_of_heap b7)
theorem newG {t : TypeId} (cs : Array Value) (w2 : World) (K : World → Prop) (hK : ∀ w7, w7.heap[w2.heap.size]? = some (.cells cs t (0, 0)) → Mod no w2 w7 → w2.heap.size < w7.heap.size → K w7) : atW (w2.alloc (.cells cs t)) K := by
  intro w5 e5
  have m5 : Mod no w2 w5 := by subst e5; exact Mod.alloc _ _
  have b5 : w5.heap[w2.heap.size]? = some (.cells cs t (0, 0)) := by subst e5; exact new_at _ _
  exact hK w5 b5 m5 (lt_of_heap b5)
theorem drewG (w : World) (K : World → Prop) (hK : ∀ w', Mod no w w' → K w') : atW w.drew K := by
  intro w' e
  exact hK w' (by subst e; exact Mod.drew _)

/-! ### A store, with the variables that are read -/
theorem SR.old {w : World} {s : Nat} {F : Nat → Prop} {a : AS} {nb sb : Nat} {N S : List (ByteArray × Nat)} {φ : Nat → Nat} (h : SR w s F a nb sb N S φ) : SR w s (fun k => F k ∧ k < w.heap.size) a nb sb N S φ :=
  ⟨h.st, h.now, h.sure, fun i hi => (h.file i hi).old, h.inj, h.ne, h.ok, ⟨h.fs, lt_of_heap h.st.cell⟩, ⟨h.fn, h.st.now.lt⟩, ⟨h.fb, h.st.sure.lt⟩, fun i hi => ⟨h.ff i hi, by obtain ⟨cs, hc⟩ := (h.file i hi).cell; exact lt_of_heap hc⟩⟩
theorem Stt.old {w : World} {s : Nat} {F : Nat → Prop} {a : AS} (h : Stt w s F a) : Stt w s (fun k => F k ∧ k < w.heap.size) a := let ⟨_, _, _, _, _, h⟩ := h; ⟨_, _, _, _, _, h.old⟩
structure St1 (w : World) (s : Nat) (H : Nat → Prop) (a : AS) : Prop where
  st : Stt w s H a
  vars : Vars w
  old : ∀ k, H k → 6 ≤ k ∧ k < w.heap.size
  named : a.Named
def St1P (s : Nat) (H : Nat → Prop) (w : World) (a' : AS) (w' : World) : Prop := ∃ H', St1 w' s H' a' ∧ (∀ k, H' k → H k ∨ w.heap.size ≤ k) ∧ Mod H w w'
section
variable {w w' w'' : World} {s : Nat} {H T : Nat → Prop} {a b : AS}
theorem St1.no (h : St1 w s H a) (hm : Mod no w w') : St1 w' s H a := ⟨h.st.no hm, h.vars.no hm, fun k hk => ⟨(h.old k hk).1, Nat.lt_of_lt_of_le (h.old k hk).2 hm.size⟩, h.named⟩
theorem St1.mod (h : St1 w s H a) (hm : Mod T w w') (hs : ∀ k, H k → ¬ T k) (hv : ∀ k, k < 6 → ¬ T k) : St1 w' s H a :=
  ⟨h.st.mod hm hs, h.vars.mod hm hv, fun k hk => ⟨(h.old k hk).1, Nat.lt_of_lt_of_le (h.old k hk).2 hm.size⟩, h.named⟩
theorem Stt.in {F : Nat → Prop} (h : Stt w s F a) : F s := by obtain ⟨_, _, _, _, _, h⟩ := h; exact h.fs
theorem St1.big (h : St1 w s H a) : 6 < w.heap.size := by
  have := h.old s h.st.in
  omega
theorem St1P.of (h : St1 w s H a) (hp : StP s H w b w') (hn : b.Named) : St1P s H w b w' := by
  obtain ⟨F', h1, h2, h3⟩ := hp
  refine ⟨fun k => F' k ∧ k < w'.heap.size, ⟨h1.old, h.vars.mod h3 fun k hk hH => by have := h.old k hH; omega, fun k hk => ⟨?_, hk.2⟩, hn⟩, fun k hk => h2 k hk.1, h3⟩
  rcases h2 k hk.1 with hk | hk
  · exact (h.old k hk).1
  · have := h.big; omega
theorem St1P.refl (h : St1 w s H a) : St1P s H w a w := ⟨H, h, fun _ h => .inl h, Mod.refl _ _⟩
theorem St1P.of_no (h : St1 w s H a) (hm : Mod no w w') : St1P s H w a w' := ⟨H, h.no hm, fun _ h => .inl h, hm.of_no⟩
theorem St1P.pre (hm : Mod no w w') (h : St1P s H w' a w'') : St1P s H w a w'' :=
  let ⟨F', h1, h2, h3⟩ := h
  ⟨F', h1, fun k hk => (h2 k hk).imp id fun h => Nat.le_trans hm.size h, hm.no_trans h3⟩
theorem St1P.post (h : St1P s H w a w') (hm : Mod no w' w'') : St1P s H w a w'' :=
  let ⟨F', h1, h2, h3⟩ := h
  ⟨F', h1.no hm, h2, h3.trans_no hm⟩
theorem St1P.trans (h : St1P s H w a w') (h' : ∀ F', St1 w' s F' a → (∀ k, F' k → H k ∨ w.heap.size ≤ k) → Mod H w w' → St1P s F' w' b w'') : St1P s H w b w'' := by
  obtain ⟨F1, h1, h2, h3⟩ := h
  obtain ⟨F2, g1, g2, g3⟩ := h' F1 h1 h2 h3
  refine ⟨F2, g1, fun k hk => ?_, h3.trans' g3 fun k hk hf => ?_⟩
  · rcases g2 k hk with h | h
    · exact h2 k h
    · exact .inr (Nat.le_trans h3.size h)
  · rcases h2 k hf with h | h
    · exact h
    · omega
theorem Has.step {L : List (Nat × Array Value × TypeId)} (h : Has w L) (hm : Mod H w w') (hs : ∀ x ∈ L, ¬ H x.1) : Has w' L := h.mod hm hs
theorem off_new {L : List (Nat × Array Value × TypeId)} (h : Has w L) (hs : ∀ x ∈ L, ¬ H x.1) {F' : Nat → Prop} (hF : ∀ k, F' k → H k ∨ w.heap.size ≤ k) : ∀ x ∈ L, ¬ F' x.1 := fun x hx hf => by
  rcases hF _ hf with h1 | h1
  · exact hs x hx h1
  · have := h.lt x hx; omega
end

/-! ### Steps of the store, as function values -/
def StepV (s : Nat) (L : List (Nat × Array Value × TypeId)) (fv : Value) (f : AS → AS × Int) : Prop :=
  ∀ (w : World) (H : Nat → Prop) (a : AS), St1 w s H a → Has w L → (∀ x ∈ L, ¬ H x.1) → ∀ R : Value → World → Prop, (∀ w', St1P s H w (f a).1 w' → R (.int .i64 (f a).2) w') → CaV Tryz.prog fv #[] w R
def runs : List (AS → AS × Int) → AS → AS × Int
  | [], a => (a, 0)
  | f :: r, a => thn (f a) (runs r)
theorem thn_pure (x : AS × Int) : thn x (fun a => (a, 0)) = x := by
  unfold thn
  split
  · rename_i h; exact Prod.ext rfl h.symm
  · rfl
theorem chain_steps {s : Nat} {L : List (Nat × Array Value × TypeId)} {b : Nat} {cs : Array Value} {t : TypeId} (hb : (b, cs, t) ∈ L) : ∀ (steps : List (Value × (AS → AS × Int))), (∀ p ∈ steps, StepV s L p.1 p.2) →
    ∀ (w : World) (H : Nat → Prop) (a : AS), St1 w s H a → Has w L → (∀ x ∈ L, ¬ H x.1) → ∀ R : Value → World → Prop, (∀ w', St1P s H w (runs (steps.map (·.2)) a).1 w' → R (.int .i64 (runs (steps.map (·.2)) a).2) w') →
      Chain (fun w' => w'.heap[b]? = some (.cells cs t (0, 0))) (steps.map (·.1)) w R
  | [], _, w, H, a, h, _, _, R, hR => hR w (St1P.refl h)
  | p :: r, hst, w, H, a, h, hL, hs, R, hR => by
    refine hst p (by simp) w H a h hL hs _ fun w1 h1 => ⟨_, rfl, ?_, fun hne => ?_, fun heq => ?_⟩
    · obtain ⟨H1, g1, g2, g3⟩ := h1
      exact (hL.step g3 hs) _ hb
    · have e : runs ((p :: r).map (·.2)) a = p.2 a := by rw [List.map_cons, runs, thn, if_neg hne]
      rw [e] at hR
      exact hR w1 h1
    · have e : runs ((p :: r).map (·.2)) a = runs (r.map (·.2)) (p.2 a).1 := by rw [List.map_cons, runs, thn, if_pos heq]
      rw [e] at hR
      have h1' := h1
      obtain ⟨H1, g1, g2, g3⟩ := h1
      exact chain_steps hb r (fun q hq => hst q (List.mem_cons_of_mem _ hq)) w1 H1 (p.2 a).1 g1 (hL.step g3 hs) (off_new hL hs g2) R fun w2 h2 => hR w2 (by
        obtain ⟨H2, k1, k2, k3⟩ := h2
        refine ⟨H2, k1, fun k hk => ?_, g3.trans' k3 fun k hk hf => ?_⟩
        · rcases k2 k hk with hk | hk
          · exact g2 k hk
          · exact .inr (Nat.le_trans g3.size hk)
        · rcases g2 k hf with hk' | hk'
          · exact hk'
          · omega)
end Go.Proofs.YtgjdandnncjegaaGreatDoor

/- Contracts of ledger's found, gather, and of the steps that Open takes. -/
namespace Go.Proofs.YtgjdandnncjegaaGreatDoor
open Go Go.Proofs.YtgjdandnncjegaaGreatDoor.St

theorem whole_count (b : Bs) : (wholeB sumB b).1.length ≤ (wholeB sumB b).2 := by
  induction hn : b.length using Nat.strongRecOn generalizing b with
  | _ n ih =>
    by_cases h : (openB sumB b).2.2 = 0
    · rw [wholeB_go sumB h]
      have h1 := openB_bounds sumB b h
      have h2 := ih (b.drop (openB sumB b).2.1).length (by rw [List.length_drop]; omega) _ rfl
      simp only [List.length_cons]
      omega
    · rw [wholeB_stop sumB h]
      exact Nat.zero_le _
section
variable {w : World} {s : Nat} {H : Nat → Prop} {a : AS}
theorem parts2_ok (h : St1 w s H a) (from_ : Int) (R : Value → World → Prop) (hR : ∀ w' p c, Els (Value.int .i64) 3 w' p (a.partsL from_).length c (a.partsL from_) → Mod no w w' → (∀ k, rowB p k → w.heap.size ≤ k) → R (.slice p (a.partsL from_).length c) w') :
    Ca Tryz.prog 29 #[.pointer (some ⟨s, 0, none⟩), .int .i64 from_] w R := by
  refine parts_ok h.st h.vars h.named.names ?_ from_ R fun w' p l c ys hy hp hs m hnew => ?_
  · have := h.st.ok.dirN
    unfold AS.names
    split
    · simp
    · simpa using this
  · have e := partsL_of hp hs
    subst e
    have hl := hy.len.1
    subst hl
    exact hR w' p c hy m hnew
theorem found_ok (h : St1 w s H a) (R : Value → World → Prop)
    (h0 : a.found = none → ∀ w', Mod no w w' → R (.tuple #[.int .i64 0, .slice none 0 0, .int .i64 7]) w')
    (h1 : ∀ f b, a.found = some (f, b) → ∀ w' p l c, Rd w' p l c b → Mod no w w' → (∀ k, rowB p k → w.heap.size ≤ k ∧ k < w'.heap.size) → R (.tuple #[.int .i64 f, .slice p l c, .int .i64 0]) w') :
    Ca Tryz.prog 28 #[.pointer (some ⟨s, 0, none⟩)] w R := by
  refine ca28 (some ⟨s, 0, none⟩) w R ?_
  refine read_ok h.st nCheck (by decide) _ fun w1 p2 n3 n4 e1 m1 r1 => ⟨p2, n3, n4, _, rfl, ifNe (fun hne => ?_) (fun heq => ?_)⟩
  · refine h1 1 [] ?_ w1 none 0 0 (Rd.nil0 _) m1 fun k hk => by simp [rowB] at hk
    rw [AS.found, if_pos hne]
  · have hr := Rd.of_els e1
    have hl := hr.len
    have hlen := (h.st.ok.flen (a.idx nCheck)).1
    have hn : n3 ≤ 1073741824 := by
      rw [← hl, AS.read]
      split
      · exact hlen
      · simp
    have hV1 := h.vars.no m1
    refine open_ok hV1.wid hr (by omega) _ fun w7 p8 n9 n10 e7 m7 r7 => ⟨p8, n9, n10, _, _, rfl, ?_⟩
    have hr7 := Rd.of_els e7
    have hl7 := hr7.len
    have bad : ∀ {x : Prop}, (x → ((openB sumB (a.read nCheck).1).2.2 ≠ 0 ∨ (openB sumB (a.read nCheck).1).2.1 < (a.read nCheck).1.length ∨ (openB sumB (a.read nCheck).1).1.length < 8 ∨
      getN 8 (openB sumB (a.read nCheck).1).1 < 1 ∨ 999999999 < getN 8 (openB sumB (a.read nCheck).1).1)) → x → R (.tuple #[.int .i64 0, .slice none 0 0, .int .i64 7]) w7 := fun hx x => by
      refine h0 ?_ w7 (m1.trans m7)
      rw [AS.found, if_neg (by simpa using heq), if_pos (hx x)]
    refine get_ok (hV1.no m7).wid hr7 8 (by decide) _ (fun hlt => ⟨_, _, rfl, ?_⟩) (fun hge => ⟨_, _, rfl, ?_⟩)
    · refine ifNe (bad fun h => .inl h) fun e2 => ifK_dec (bad fun h => .inr (.inl (by omega))) fun h3 => ?_
      exact (ifK_of (fun _ => bad (x := True) (fun _ => .inr (.inr (.inl (by omega)))) trivial) (fun h => by cases h) : ifK true _ _)
    · refine ifNe (bad fun h => .inl h) fun e2 => ifK_dec (bad fun h => .inr (.inl (by omega))) fun h3 => ?_
      refine (ifK_of (fun h => by cases h) (fun _ => ?_) : ifK false _ _)
      refine ifK_dec (bad fun h => .inr (.inr (.inr (.inl (by omega))))) fun h4 => ifK_dec (bad fun h => .inr (.inr (.inr (.inr (by omega))))) fun h5 => ?_
      refine drewG w7 _ fun w17 m17 => ?_
      have hle := hr7.le
      refine ⟨by omega, by omega, by omega, ?_⟩
      have e1 : IntKind.i64.wrap ((getN 8 (openB sumB (a.read nCheck).1).1 : Nat) : Int) = ((getN 8 (openB sumB (a.read nCheck).1).1 : Nat) : Int) := wrap64 (by omega) (by omega)
      rw [e1]
      refine h1 _ _ ?_ w17 _ _ _ ((hr7.no m17).drop (k := 8) (by omega)) ((m1.trans m7).trans m17) fun k hk => ?_
      · rw [AS.found, if_neg (by simpa using heq), if_neg (by omega)]
      · have hk8 : rowB p8 k := by
          split at hk
          · exact hk
          · cases p8 with
            | none => simp [rowB] at hk
            | some ad => simpa [rowB, block_add] using hk
        obtain ⟨cs, hcs⟩ := els_row e7 hk8
        exact ⟨Nat.le_trans m1.size (r7 k hk8), Nat.lt_of_lt_of_le (lt_of_heap hcs) m17.size⟩
theorem gather_ok (h : St1 w s H a) {alla : Option Addr} {allc : Nat} {all : List Int} (hel : Els (Value.int .i64) 3 w alla all.length allc all) {M : Nat} (hM : ∀ n, (a.read n).1.length ≤ M) (hn : all.length * M ≤ 1099511627776) (hn2 : all.length ≤ 67108864) (first : Int) (hf : 0 ≤ first ∧ first ≤ 999999999) (R : Value → World → Prop)
    (h0 : a.gather first 0 all [] (-1) = none → ∀ w', Mod no w w' → R (.tuple #[.slice none 0 0, .int .i64 0, .int .i64 7]) w')
    (h1 : ∀ rs torn, a.gather first 0 all [] (-1) = some (rs, torn) → ∀ w' p c, BIn (fun k => w.heap.size ≤ k) w' p rs.length c rs → Mod no w w' → R (.tuple #[.slice p rs.length c, .int .i64 torn, .int .i64 0]) w') :
    Ca Tryz.prog 30 #[.pointer (some ⟨s, 0, none⟩), .slice alla all.length allc, .int .i64 first] w R := by
  refine ca30 (some ⟨s, 0, none⟩) alla all.length allc first w R ?_
  have hMi : ∀ i, i ≤ all.length → i * M ≤ 1099511627776 := fun i hi => Nat.le_trans (Nat.mul_le_mul_right _ hi) hn
  refine ⟨fun p n c t x w' => ∃ (i : Nat) (rs : List Bs), x = i ∧ n = rs.length ∧ i ≤ all.length ∧ rs.length ≤ i * M ∧ BIn (fun k => w.heap.size ≤ k) w' p rs.length c rs ∧ Mod no w w' ∧ a.gather first i (all.drop i) rs t = a.gather first 0 all [] (-1),
    fun _ _ _ _ x _ => ((all.length : Int) - x).toNat, ⟨0, [], rfl, rfl, by omega, by simp, BIn.nil _ _, Mod.refl _ _, by simp⟩, ?_⟩
  rintro _ p n c t _ w8 ⟨i, rs, rfl, rfl, hi, hrl, hB, m8, hg⟩
  refine ifK_dec (fun hlt => ?_) (fun hge => ?_)
  · have hil : i < all.length := by omega
    have hall := (hel.all intone)
    obtain ⟨ad, had⟩ : ∃ ad, alla = some ad := by
      cases hp : alla with
      | none => have := (hall.2 hp).1; omega
      | some ad => exact ⟨ad, rfl⟩
    have hcell : w8.cell? (Addr.add ad (Int.toNat (i : Int) * 1)) = some (.int .i64 all[i]) := by
      have h8 : Els (Value.int .i64) 3 w8 alla all.length allc all := row_mod hel m8 fun _ _ => id
      rw [Int.toNat_natCast, Nat.mul_one]
      exact (h8.all intone).1 ad had i _ (by rw [List.getElem?_map, List.getElem?_eq_getElem hil]; rfl)
    have hdrop : all.drop i = all[i] :: all.drop (i + 1) := List.drop_eq_getElem_cons hil
    rw [hdrop, AS.gather] at hg
    refine ⟨ad, had, by omega, by omega, all[i], hcell, name_ok (h.vars.no m8) _ _ fun w12 m12 => ⟨_, rfl, ?_⟩⟩
    refine read_ok (h.st.no (m8.trans m12)) _ (by have := nameI_size all[i]; omega) _ fun w15 p16 n17 n18 e15 m15 r15 => ⟨p16, n17, n18, _, rfl, ?_⟩
    have hr15 := Rd.of_els e15
    have hl15 := hr15.len
    have hb15 := hM (nameI all[i])
    have hb15' : (a.read (nameI all[i])).1.length ≤ 1073741824 := by
      rw [AS.read]
      split
      · exact (h.st.ok.flen _).1
      · simp
    have hMi1 := hMi (i + 1) hil
    rw [Nat.add_mul, Nat.one_mul] at hMi1
    refine whole_ok (((h.vars.no m8).no m12).no m15).wid hr15 (by omega) _ fun w21 p22 n23 n24 b21 m21 => ⟨p22, n23, n24, _, rfl, ?_⟩
    have m21' := ((m8.trans m12).trans m15).trans m21
    have hwl := wholeB_le sumB (a.read (nameI all[i])).1
    have hwc : (wholeB sumB (a.read (nameI all[i])).1).1.length ≤ (wholeB sumB (a.read (nameI all[i])).1).2 := whole_count _
    have e1 : IntKind.i64.wrap (first + (i : Int)) = first + i := wrap64 (by omega) (by omega)
    have e2 : IntKind.i64.wrap ((i : Int) + 1) = ((i + 1 : Nat) : Int) := by rw [wrap64 (by omega) (by omega)]; rfl
    have e3 : IntKind.i64.wrap ((all.length : Int) - 1) = (all.length : Int) - 1 := wrap64 (by omega) (by omega)
    have hmeas : ((all.length : Int) - ((i + 1 : Nat) : Int)).toNat < ((all.length : Int) - (i : Int)).toNat := by omega
    rw [e1, e2, e3]
    have hbl := b21.len
    have hB21 : BIn (fun k => w.heap.size ≤ k) w21 p rs.length c rs := hB.no (((m12.trans m15).trans m21))
    have hY : BIn (fun k => w.heap.size ≤ k) w21 p22 n23 n24 (wholeB sumB (a.read (nameI all[i])).1).1 := b21.mono fun k hk => Nat.le_trans (((m8.trans m12).trans m15)).size hk
    obtain ⟨q, qc, w27, hrun, hB27, m27, _, hG27, _⟩ := hB21.cat hY (by omega)
    have m27' : Mod no w w27 := m21'.new m27 fun k hk => hG27 k hk
    have hB27' : BIn (fun k => w.heap.size ≤ k) w27 q (rs ++ (wholeB sumB (a.read (nameI all[i])).1).1).length qc (rs ++ (wholeB sumB (a.read (nameI all[i])).1).1) := by
      rw [List.length_append, hbl.1]
      exact hB27.mono fun k hk => hk.elim id fun h => Nat.le_trans m21'.size h
    have hlast : (all.drop (i + 1) ≠ []) ↔ (i : Int) < (all.length : Int) - 1 := by
      rw [Ne, List.drop_eq_nil_iff]; omega
    refine ifNe (fun hne => ?_) (fun heq => ?_)
    · rw [if_pos (.inl hne)] at hg
      exact h0 hg.symm w21 m21'
    · have go : ∀ t', (a.gather first (i + 1) (all.drop (i + 1)) (rs ++ (wholeB sumB (a.read (nameI all[i])).1).1) t' = a.gather first 0 all [] (-1)) →
          (∃ (i' : Nat) (rs' : List Bs), ((i + 1 : Nat) : Int) = i' ∧ rs.length + n23 = rs'.length ∧ i' ≤ all.length ∧ rs'.length ≤ i' * M ∧ BIn (fun k => w.heap.size ≤ k) w27 q rs'.length qc rs' ∧ Mod no w w27 ∧ a.gather first i' (all.drop i') rs' t' = a.gather first 0 all [] (-1)) ∧
            ((all.length : Int) - ((i + 1 : Nat) : Int)).toNat < ((all.length : Int) - (i : Int)).toNat := fun t' ht =>
        ⟨⟨i + 1, _, rfl, by rw [List.length_append, hbl.1], by omega, by rw [List.length_append, Nat.add_mul, Nat.one_mul]; omega, hB27', m27', ht⟩, hmeas⟩
      have hgo : ¬ all[i] ≠ first + (i : Int) := by simpa using heq
      cases hw : (((wholeB sumB (a.read (nameI all[i])).1).2 : Int) == (n17 : Int)) with
      | true =>
        have hw' : (wholeB sumB (a.read (nameI all[i])).1).2 = (a.read (nameI all[i])).1.length := by have := eq_of_beq hw; omega
        rw [if_neg fun hx => hx.elim hgo fun hx => hx.1 hw', if_pos hw'] at hg
        refine (ifK_of (fun h => by cases h) (fun _ => ?_) : ifK (!true) _ _)
        refine ⟨_, w27, hrun, q, _, qc, rfl, (ifK_of (fun h => by cases h) (fun _ => ?_) : ifK (!true) _ _)⟩
        exact go _ hg
      | false =>
        have hw' : (wholeB sumB (a.read (nameI all[i])).1).2 ≠ (a.read (nameI all[i])).1.length := fun h => by rw [h, hl15, beq_self_eq_true] at hw; cases hw
        refine (ifK_of (fun _ => ?_) (fun h => by cases h) : ifK (!false) _ _)
        refine ifK_dec (fun h4 => ?_) (fun h4 => ?_)
        · rw [if_pos (.inr ⟨hw', hlast.2 h4⟩)] at hg
          exact h0 hg.symm w21 m21'
        · rw [if_neg fun hx => hx.elim hgo fun hx => h4 (hlast.1 hx.2), if_neg hw'] at hg
          refine ⟨_, w27, hrun, q, _, qc, rfl, (ifK_of (fun _ => ?_) (fun h => by cases h) : ifK (!false) _ _)⟩
          exact go _ hg
  · rw [List.drop_of_length_le (by omega), AS.gather] at hg
    exact h1 rs t hg.symm w8 p c hB m8
end
end Go.Proofs.YtgjdandnncjegaaGreatDoor

/- The store's calls in plain Lean once more, as a log uses them: what a call that may fail leaves. It names no program. -/
namespace Go.Proofs.YtgjdandnncjegaaGreatDoor
open Go Go.Proofs.YtgjdandnncjegaaGreatDoor.St

theorem dget_dset {D : List (ByteArray × Nat)} (h : Rises D) (k : ByteArray) (f : Nat) (k' : ByteArray) : dget (dset k f D) k' = if k' = k then some f else dget D k' := by
  have hn := (dset_rises (k := k) (f := f) h).nodup
  split
  · rename_i e
    subst e
    exact dget_mem hn (mem_dset.2 (.inl rfl))
  · rename_i e
    cases hg : dget D k' with
    | none =>
      refine dget_none.2 fun p hp hk => ?_
      rcases mem_dset.1 hp with rfl | hp
      · exact e hk.symm
      · exact dget_none.1 hg p hp.1 hk
    | some g => exact dget_mem hn (mem_dset.2 (.inr ⟨dget_some hg, e⟩))
theorem dget_ddel {D : List (ByteArray × Nat)} (h : Rises D) (k k' : ByteArray) : dget (ddel k D) k' = if k' = k then none else dget D k' := by
  have hn := (ddel_rises (k := k) h).nodup
  split
  · rename_i e
    subst e
    exact dget_none.2 fun p hp => (mem_ddel.1 hp).2
  · rename_i e
    cases hg : dget D k' with
    | none => exact dget_none.2 fun p hp hk => dget_none.1 hg p (mem_ddel.1 hp).1 hk
    | some g => exact dget_mem hn (mem_ddel.2 ⟨dget_some hg, e⟩)

/-! ### Room -/
def phi (all : List (Bs × Bs)) : Nat := (all.map fun f => 16 + max f.1.length f.2.length).sum
/-- Each file has one name. -/
def Inj (D : List (ByteArray × Nat)) : Prop := (D.map (·.2)).Nodup
theorem sum_filter_le {α : Type} (g : α → Nat) (p : α → Bool) : ∀ l : List α, ((l.filter p).map g).sum ≤ (l.map g).sum
  | [] => Nat.le_refl _
  | x :: l => by
    have := sum_filter_le g p l
    rw [List.filter_cons]
    split <;> simp only [List.map_cons, List.sum_cons] <;> omega
theorem sum_range (all : List (Bs × Bs)) (g : Bs × Bs → Nat) : ((List.range all.length).map fun i => g ((all[i]?).getD ([], []))).sum = (all.map g).sum := by
  congr 1
  apply List.ext_getElem
  · simp
  · intro i h1 h2
    simp at h1 h2 ⊢
    simp [h1]
theorem need_le_phi {a : AS} (hi : Inj a.dir) (hv : ∀ p ∈ a.dir, p.2 < a.all.length) : a.need ≤ phi a.all := by
  have e1 : a.need = ((a.dir.map (·.2)).map fun i => 16 + (a.file i).1.length).sum := by rw [AS.need, List.map_map]; rfl
  have hp : (a.dir.map (·.2)).Perm ((List.range a.all.length).filter fun i => (a.dir.map (·.2)).contains i) := by
    refine (List.perm_ext_iff_of_nodup hi (List.nodup_range.filter _)).2 fun i => ?_
    rw [List.mem_filter, List.mem_range]
    refine ⟨fun h => ⟨?_, by simpa using h⟩, fun h => by simpa using h.2⟩
    obtain ⟨p, hp, rfl⟩ := List.mem_map.1 h
    exact hv p hp
  rw [e1, (hp.map _).sum_nat]
  refine Nat.le_trans (sum_filter_le _ _ _) ?_
  rw [phi, ← sum_range a.all fun f => 16 + max f.1.length f.2.length]
  have : ∀ l : List Nat, (l.map fun i => 16 + (a.file i).1.length).sum ≤ (l.map fun i => 16 + max ((a.all[i]?).getD ([], [])).1.length ((a.all[i]?).getD ([], [])).2.length).sum := by
    intro l
    induction l with
    | nil => exact Nat.le_refl _
    | cons x l ih =>
      simp only [List.map_cons, List.sum_cons]
      have : (a.file x).1.length ≤ max ((a.all[x]?).getD ([], [])).1.length ((a.all[x]?).getD ([], [])).2.length := Nat.le_max_left _ _
      omega
  exact this _
theorem phi_modify (g : Bs × Bs → Bs × Bs) (k : Nat) (hg : ∀ f, max (g f).1.length (g f).2.length ≤ max f.1.length f.2.length + k) : ∀ (all : List (Bs × Bs)) (i : Nat), phi (all.modify i g) ≤ phi all + k
  | [], i => by simp [phi]
  | x :: l, 0 => by
    have := hg x
    simp only [List.modify_zero_cons, phi, List.map_cons, List.sum_cons]
    omega
  | x :: l, i + 1 => by
    have := phi_modify g k hg l i
    simp only [List.modify_succ_cons, phi, List.map_cons, List.sum_cons] at *
    omega
theorem phi_add (all : List (Bs × Bs)) : phi (all ++ [([], [])]) = phi all + 16 := by simp [phi]
theorem ddel_inj {D : List (ByteArray × Nat)} (h : Inj D) (k : ByteArray) : Inj (ddel k D) := by
  rw [Inj, List.Nodup, List.pairwise_map] at h ⊢
  exact List.Pairwise.filter _ h
theorem dset_inj {D : List (ByteArray × Nat)} (h : Inj D) (k : ByteArray) (f : Nat) (hf : ∀ p ∈ D, p.1 ≠ k → p.2 ≠ f) : Inj (dset k f D) := by
  refine (((dset_perm k f D).map (·.2)).nodup_iff).2 ?_
  rw [List.map_cons, List.nodup_cons]
  refine ⟨fun hm => ?_, ddel_inj h k⟩
  obtain ⟨p, hp, e⟩ := List.mem_map.1 hm
  exact hf p (mem_ddel.1 hp).1 (mem_ddel.1 hp).2 e

/-! ### A call that may fail -/
/-- Q holds of whatever a failure leaves. -/
def Dur (a : AS) (Q : AS → Prop) : Prop := ∀ c l : Int, Q (({ a with count := c, left := l } : AS).fail a.keep)
/-- A call went wrong for want of power, or made this. -/
def Nx (a : AS) (Q : AS → Prop) (all : List (Bs × Bs)) (dir sure : List (ByteArray × Nat)) (r : AS × Int) : Prop :=
  (r.2 = 9 ∧ a.left ≠ 0 ∧ Q r.1) ∨ ∃ c l, r = (⟨a.room, all, dir, sure, false, c, l, a.keep⟩, 0) ∧ (a.left = 0 → l = 0)
theorem nx_counted {a : AS} {Q : AS → Prop} (hd : Dur a Q) {f : AS → AS} {all : List (Bs × Bs)} {dir sure : List (ByteArray × Nat)} (hf : ∀ c l, f { a with count := c, left := l } = ⟨a.room, all, dir, sure, false, c, l, a.keep⟩) : Nx a Q all dir sure (a.counted f) := by
  unfold AS.counted
  split
  · rename_i h
    split
    · exact .inl ⟨rfl, by omega, hd _ _⟩
    · exact .inr ⟨_, _, by rw [← hf]; rfl, fun h0 => by omega⟩
  · exact .inr ⟨_, _, by rw [← hf]; rfl, fun h0 => h0⟩
section
variable {a : AS} {Q : AS → Prop} {n : ByteArray}
theorem known_in (ho : a.dark = false) (hg : goodB n = true) {i : Nat} (hi : dget a.dir n = some i) : a.known n = 0 ∧ a.idx n = i := AS.known_of ho hg hi
theorem known_not (ho : a.dark = false) (hg : goodB n = true) (hi : dget a.dir n = none) : a.known n = 3 := by
  rw [AS.known, ho, hg, hi]; simp
theorem nx_make (hd : Dur a Q) (ho : a.dark = false) (hg : goodB n = true) (hi : dget a.dir n = none) (hr : (a.need : Int) + 16 ≤ a.room) : Nx a Q (a.all ++ [([], [])]) (dset n a.all.length a.dir) a.sure (a.make n) := by
  have hk := known_not ho hg hi
  rw [AS.make, if_neg (by omega), if_pos hk, if_neg (by omega)]
  exact nx_counted hd fun c l => by rw [ho]
theorem nx_write (hd : Dur a Q) (ho : a.dark = false) (hg : goodB n = true) {i : Nat} (hi : dget a.dir n = some i) (b : Bs) (hr : (a.need : Int) + b.length ≤ a.room) : Nx a Q (a.all.modify i fun x => (x.1 ++ b, x.2)) a.dir a.sure (a.write n b) := by
  obtain ⟨hk, hx⟩ := known_in ho hg hi
  rw [AS.write, if_pos hk, if_neg (by omega)]
  refine nx_counted hd fun c l => ?_
  have : ({ a with count := c, left := l } : AS).idx n = i := hx
  rw [this]
  simp only [AS.upd, ho]
theorem nx_cut (hd : Dur a Q) (ho : a.dark = false) (hg : goodB n = true) {i : Nat} (hi : dget a.dir n = some i) {k : Int} (h0 : 0 ≤ k) (hk' : k ≤ (a.file i).1.length) : Nx a Q (a.all.modify i fun x => (x.1.take k.toNat, x.2)) a.dir a.sure (a.cut n k) := by
  obtain ⟨hk, hx⟩ := known_in ho hg hi
  rw [AS.cut, if_pos hk, if_neg (by rw [hx, AS.len]; omega)]
  refine nx_counted hd fun c l => ?_
  have : ({ a with count := c, left := l } : AS).idx n = i := hx
  rw [this]
  simp only [AS.upd, ho]
theorem nx_sync (hd : Dur a Q) (ho : a.dark = false) (hg : goodB n = true) {i : Nat} (hi : dget a.dir n = some i) : Nx a Q (a.all.modify i fun x => (x.1, x.1)) a.dir a.sure (a.sync n) := by
  obtain ⟨hk, hx⟩ := known_in ho hg hi
  rw [AS.sync, if_pos hk]
  refine nx_counted hd fun c l => ?_
  have : ({ a with count := c, left := l } : AS).idx n = i := hx
  rw [this]
  simp only [AS.upd, ho]
theorem nx_drop (hd : Dur a Q) (ho : a.dark = false) (hg : goodB n = true) {i : Nat} (hi : dget a.dir n = some i) : Nx a Q a.all (ddel n a.dir) a.sure (a.drop n) := by
  obtain ⟨hk, hx⟩ := known_in ho hg hi
  rw [AS.drop, if_pos hk]
  exact nx_counted hd fun c l => by simp only [ho]
theorem nx_move (hd : Dur a Q) (ho : a.dark = false) (hg : goodB n = true) {to : ByteArray} (ht : goodB to = true) {i : Nat} (hi : dget a.dir n = some i) : Nx a Q a.all (dset to i (ddel n a.dir)) a.sure (a.move n to) := by
  obtain ⟨hk, hx⟩ := known_in ho hg hi
  rw [AS.move, if_neg (by rw [ho]; simp), if_neg (by rw [hg, ht]; simp), if_neg (by rw [hi]; simp)]
  refine nx_counted hd fun c l => ?_
  have : ({ a with count := c, left := l } : AS).idx n = i := hx
  rw [this]
  simp only [ho]
theorem nx_commit (hd : Dur a Q) (ho : a.dark = false) : Nx a Q a.all a.dir a.dir a.commit := by
  rw [AS.commit, if_neg (by rw [ho]; simp)]
  exact nx_counted hd fun c l => by simp only [ho]
theorem Nx.thn {all : List (Bs × Bs)} {dir sure : List (ByteArray × Nat)} {r : AS × Int} (h : Nx a Q all dir sure r) {f : AS → AS × Int} {G : AS × Int → Prop} (hG : ∀ x, x.2 = 9 → a.left ≠ 0 → Q x.1 → G x)
    (hf : ∀ c l, (a.left = 0 → l = 0) → G (f ⟨a.room, all, dir, sure, false, c, l, a.keep⟩)) : G (thn r f) := by
  rcases h with ⟨h1, h2, h3⟩ | ⟨c, l, rfl, h2⟩
  · rw [Go.Proofs.YtgjdandnncjegaaGreatDoor.thn, if_neg (by omega)]
    exact hG _ h1 h2 h3
  · rw [Go.Proofs.YtgjdandnncjegaaGreatDoor.thn, if_pos rfl]
    exact hf c l h2
theorem Nx.fin {all : List (Bs × Bs)} {dir sure : List (ByteArray × Nat)} {r : AS × Int} (h : Nx a Q all dir sure r) {G : AS × Int → Prop} (hG : ∀ x, x.2 = 9 → a.left ≠ 0 → Q x.1 → G x)
    (hf : ∀ c l, (a.left = 0 → l = 0) → G (⟨a.room, all, dir, sure, false, c, l, a.keep⟩, 0)) : G r := by
  rcases h with ⟨h1, h2, h3⟩ | ⟨c, l, rfl, h2⟩
  · exact hG _ h1 h2 h3
  · exact hf c l h2
end

theorem AS.Ok.same {a b : AS} (h : a.Ok) (h1 : b.room = a.room) (h2 : b.all = a.all) (h3 : b.dir = a.dir) (h4 : b.sure = a.sure) : b.Ok := h.of_eq h1 h2 h3 h4

/-! ### Names -/
theorem good_check : goodB nCheck = true := by decide +kernel
theorem good_coming : goodB nComing = true := by decide +kernel
theorem good_name {n : Nat} (h : n ≤ 999999999) : goodB (nameL n) = true := by
  have hs := nameL_size h
  have h4 : 4 ≤ (nameL n).size := by
    have : (nameL n).size = (nameL n).data.toList.length := rfl
    rw [this, nameL_list, List.length_append]
    simp [logL]
  have hg : goodL (nameL n) = true := by
    refine goodL_of fun i hi => ?_
    have hb : byteAt (nameL n) i = (((logL ++ Lib.decDigits n)[i]?.getD 0).toNat : Int) := by
      rw [byteAt, ← Array.getElem?_toList, nameL_list]
    rw [hb, Int.toNat_natCast]
    by_cases h4 : i < 4
    · rw [List.getElem?_append_left (by simp [logL]; omega)]
      have : i = 0 ∨ i = 1 ∨ i = 2 ∨ i = 3 := by omega
      rcases this with rfl | rfl | rfl | rfl <;> rfl
    · have hl : (nameL n).size = (logL ++ Lib.decDigits n).length := by rw [← nameL_list]; rfl
      rw [List.length_append] at hl
      have h3 : logL.length = 4 := rfl
      rw [List.getElem?_append_right (by omega), List.getElem?_eq_getElem (by omega), Option.getD_some]
      have := digits_all n _ (List.getElem_mem (l := Lib.decDigits n) (n := i - logL.length) (by omega))
      have hi0 : (i == 0) = false := by simp; omega
      rw [gch, hi0]
      simp only [Bool.not_false, Bool.true_and, Bool.or_eq_true, Bool.and_eq_true, decide_eq_true_eq, beq_iff_eq]
      omega
  rw [goodB, hg]
  simp
  omega
end Go.Proofs.YtgjdandnncjegaaGreatDoor

/- Logs in plain Lean: what a store holds of one, and what Open tells of it. It names no program. -/
namespace Go.Proofs.YtgjdandnncjegaaGreatDoor
open Go Go.Proofs.YtgjdandnncjegaaGreatDoor.St

/-- A directory and its files' bytes hold a log: its first part, its checkpoint, the records of its parts; what is torn behind them. -/
structure LogAt (D : List (ByteArray × Nat)) (cont : Nat → Bs) (first : Nat) (chk : Bs) (PS : List (List Bs)) (tail : Bs) : Prop where
  named : ∀ p ∈ D, p.1 = nCheck ∨ p.1 = nComing ∨ ∃ n, 1 ≤ n ∧ n ≤ 999999999 ∧ p.1 = nameL n
  rises : Rises D
  first1 : 1 ≤ first
  last9 : first + PS.length ≤ 1000000000
  ne : PS ≠ []
  check : (dget D nCheck = none ∧ first = 1 ∧ chk = []) ∨ ∃ i, dget D nCheck = some i ∧ cont i = sealB sumB (putN 8 first ++ chk)
  chkL : chk.length ≤ 1048512
  part : ∀ j, j < PS.length → ∃ i, dget D (nameL (first + j)) = some i ∧ cont i = sealsB sumB (PS.getD j []) ++ (if j + 1 = PS.length then tail else [])
  over : ∀ n, first + PS.length ≤ n → dget D (nameL n) = none
  recs : ∀ p ∈ PS, ∀ b ∈ p, b.length ≤ 1048512
  tail : wholeB sumB tail = ([], 0)

theorem LogAt.congr {D : List (ByteArray × Nat)} {cont cont' : Nat → Bs} {first : Nat} {chk : Bs} {PS : List (List Bs)} {tail : Bs} (h : LogAt D cont first chk PS tail) (hc : ∀ p ∈ D, cont' p.2 = cont p.2) : LogAt D cont' first chk PS tail := by
  refine ⟨h.named, h.rises, h.first1, h.last9, h.ne, ?_, h.chkL, fun j hj => ?_, h.over, h.recs, h.tail⟩
  · rcases h.check with h | ⟨i, h1, h2⟩
    · exact .inl h
    · exact .inr ⟨i, h1, by rw [← h2]; exact hc _ (dget_some h1)⟩
  · obtain ⟨i, h1, h2⟩ := h.part j hj
    exact ⟨i, h1, by rw [← h2]; exact hc _ (dget_some h1)⟩

theorem numB_some {f : ByteArray} {n : Nat} (h : numB f = some n) : f = nameI n ∧ 1 ≤ n := by
  unfold numB at h
  split at h
  · cases ha : Lib.atoi (Lib.trimPrefix f.data.toList logL) with
    | none => rw [ha] at h; cases h
    | some z =>
      rw [ha] at h
      simp only [Option.bind] at h
      split at h
      · rename_i hz
        injection h with h
        subst h
        exact ⟨by rw [Int.toNat_of_nonneg (by omega)]; exact hz.1.symm, by omega⟩
      · cases h
  · cases h
theorem numI_some {from_ z : Int} {f : ByteArray} (h : numI from_ f = some z) : f = nameI z ∧ from_ ≤ z ∧ 1 ≤ z := by
  unfold numI at h
  cases hn : numB f with
  | none => rw [hn] at h; cases h
  | some n =>
    rw [hn] at h
    simp only [Option.bind] at h
    split at h
    · injection h with h
      subst h
      obtain ⟨h1, h2⟩ := numB_some hn
      exact ⟨h1, by assumption, by omega⟩
    · cases h
theorem numsOf_eq (from_ : Int) (l : List ByteArray) : numsOf from_ l = l.filterMap (numI from_) := rfl
theorem numsOf_nodup {l : List ByteArray} (h : l.Nodup) (from_ : Int) : (numsOf from_ l).Nodup := by
  rw [numsOf_eq, List.Nodup, List.pairwise_filterMap]
  refine h.imp fun hne y hy z hz e => ?_
  subst e
  exact hne ((numI_some hy).1.trans (numI_some hz).1.symm)
/-- The numbers of a directory's parts. -/
theorem partsL_range {a : AS} (ho : a.dark = false) (hr : Rises a.dir) (m f L : Nat) (hm : 1 ≤ m) (hmf : m ≤ f) (hbel : ∀ n, m ≤ n → n < f → dget a.dir (nameL n) = none) (h9 : f + L ≤ 1000000000) (hin : ∀ j, j < L → dget a.dir (nameL (f + j)) ≠ none) (hover : ∀ n, f + L ≤ n → dget a.dir (nameL n) = none) :
    a.partsL m = (List.range L).map fun j => ((f + j : Nat) : Int) := by
  have hnames : a.names = a.dir.map (·.1) := by rw [AS.names, if_neg (by rw [ho]; simp)]
  have hmem : ∀ k : ByteArray, k ∈ a.names ↔ dget a.dir k ≠ none := by
    intro k
    rw [hnames, Ne, dget_none]
    refine ⟨fun h hn => ?_, fun h => ?_⟩
    · obtain ⟨p, hp, rfl⟩ := List.mem_map.1 h
      exact hn p hp rfl
    · apply Classical.byContradiction
      intro hk
      exact h fun p hp e => hk (by rw [← e]; exact List.mem_map_of_mem hp)
  have hnd : (numsOf (m : Int) a.names).Nodup := numsOf_nodup (by rw [hnames]; exact hr.nodup) _
  have hnd2 : ((List.range L).map fun j => ((f + j : Nat) : Int)).Nodup := by
    rw [List.Nodup, List.pairwise_map]
    exact List.nodup_range.imp fun hne e => hne (by omega)
  have hp : (numsOf (m : Int) a.names).Perm ((List.range L).map fun j => ((f + j : Nat) : Int)) := by
    refine (List.perm_ext_iff_of_nodup hnd hnd2).2 fun z => ?_
    rw [numsOf_eq, List.mem_filterMap, List.mem_map]
    constructor
    · rintro ⟨k, hk, hz⟩
      obtain ⟨e1, e2, e3⟩ := numI_some hz
      have hz9 : z ≤ 999999999 := by
        apply Classical.byContradiction
        intro h
        rw [nameI, if_neg (by omega)] at e1
        subst e1
        have : numI (m : Int) ⟨#[]⟩ = none := rfl
        rw [this] at hz
        cases hz
      rw [nameI, if_pos ⟨e3, hz9⟩] at e1
      subst e1
      have hf : f ≤ z.toNat := by
        apply Classical.byContradiction
        intro h
        exact (hmem _).1 hk (hbel z.toNat (by omega) (by omega))
      refine ⟨z.toNat - f, ?_, by omega⟩
      rw [List.mem_range]
      apply Classical.byContradiction
      intro h
      exact (hmem _).1 hk (hover z.toNat (by omega))
    · rintro ⟨j, hj, rfl⟩
      rw [List.mem_range] at hj
      refine ⟨nameL (f + j), (hmem _).2 (hin j hj), ?_⟩
      rw [numI, numB_name (by omega) (by omega)]
      simp only [Option.bind]
      rw [if_pos (by omega)]
  have hs : ((List.range L).map fun j => ((f + j : Nat) : Int)).Pairwise (· ≤ ·) := by
    rw [List.pairwise_map]
    exact List.pairwise_lt_range.imp fun h => by omega
  have p2 : (a.partsL m).Pairwise (· ≤ ·) := by
    have := List.pairwise_mergeSort (le := fun x y : Int => decide (x ≤ y)) (fun x y z h1 h2 => by simp at *; omega) (fun x y => by simp; omega) (numsOf m a.names)
    exact this.imp fun h => by simpa using h
  exact ((List.mergeSort_perm _ _).trans hp).eq_of_pairwise (fun x y _ _ h1 h2 => Int.le_antisymm h1 h2) p2 hs

theorem read_at {a : AS} {n : ByteArray} (ho : a.dark = false) (hg : goodB n = true) {i : Nat} (hi : dget a.dir n = some i) : a.read n = ((a.file i).1, 0) := by
  obtain ⟨hk, hx⟩ := known_in ho hg hi
  rw [AS.read, if_pos hk, hx]
theorem read_not {a : AS} {n : ByteArray} (ho : a.dark = false) (hg : goodB n = true) (hi : dget a.dir n = none) : a.read n = ([], 3) := by
  have hk := known_not ho hg hi
  rw [AS.read, if_neg (by omega), hk]

def now (a : AS) (i : Nat) : Bs := (a.file i).1
section
variable {a : AS} {first : Nat} {chk : Bs} {PS : List (List Bs)} {tail : Bs}
theorem found_log (ho : a.dark = false) (h : LogAt a.dir (now a) first chk PS tail) : a.found = some ((first : Int), chk) := by
  have hl := h.last9
  have hp : 0 < PS.length := List.length_pos_iff.2 h.ne
  rcases h.check with ⟨h1, rfl, rfl⟩ | ⟨i, h1, h2⟩
  · rw [AS.found, read_not ho good_check h1, if_pos (by decide)]; rfl
  · have hc := h.chkL
    have ho' := open_seal sumB sumB_lt (putN 8 first ++ chk) [] (by rw [List.length_append, putN_len]; omega)
    rw [List.append_nil] at ho'
    have hg : getN 8 (putN 8 first ++ chk) = first := getN_put 8 first (by have := h.first1; omega) chk
    have hr : a.read nCheck = (sealB sumB (putN 8 first ++ chk), 0) := by rw [read_at ho good_check h1, ← h2]; rfl
    have h1 := h.first1
    rw [AS.found, hr]
    simp only [ho', hg, sealB_len, List.length_append, putN_len]
    rw [if_neg (by simp), if_neg (by omega)]
    congr 2
theorem whole_part (l : List Bs) (hl : ∀ b ∈ l, b.length ≤ 1048512) (t : Bs) (ht : wholeB sumB t = ([], 0)) : wholeB sumB (sealsB sumB l ++ t) = (l, sizeB sumB l) := by
  rw [whole_seals sumB sumB_lt l (fun b hb => Nat.le_trans (hl b hb) (by omega)), ht]
  simp
theorem sizeB_len (l : List Bs) : (sealsB sumB l).length = sizeB sumB l := rfl
theorem gather_log (ho : a.dark = false) (h : LogAt a.dir (now a) first chk PS tail) :
    a.gather first 0 (a.partsL first) [] (-1) = some (PS.flatten, if tail = [] then -1 else (sizeB sumB (PS.getD (PS.length - 1) []) : Int)) := by
  have hl := h.last9
  have hp : 0 < PS.length := List.length_pos_iff.2 h.ne
  have h1 := h.first1
  rw [partsL_range ho h.rises first first PS.length h.first1 (Nat.le_refl _) (fun n h1 h2 => by omega) hl (fun j hj => by obtain ⟨i, h1, _⟩ := h.part j hj; rw [h1]; simp) h.over]
  have key : ∀ d k, d + k = PS.length → ∀ rs, a.gather first k ((List.range d).map fun j => ((first + (k + j) : Nat) : Int)) rs (-1) = some (rs ++ (PS.drop k).flatten, if tail = [] ∨ d = 0 then -1 else (sizeB sumB (PS.getD (PS.length - 1) []) : Int)) := by
    intro d
    induction d with
    | zero => intro k hk rs; rw [List.drop_of_length_le (by omega)]; simp [AS.gather]
    | succ d ih =>
      intro k hk rs
      obtain ⟨i, g1, g2⟩ := h.part k (by omega)
      have hnm : nameI ((first + (k + 0) : Nat) : Int) = nameL (first + k) := by rw [Nat.add_zero]; exact nameI_nat (by omega) (by omega)
      have hr : a.read (nameI ((first + (k + 0) : Nat) : Int)) = (sealsB sumB (PS.getD k []) ++ (if k + 1 = PS.length then tail else []), 0) := by
        rw [hnm, read_at ho (good_name (by omega)) g1, ← g2]; rfl
      have hmem : ∀ b ∈ PS.getD k [], b.length ≤ 1048512 := by
        intro b hb
        refine h.recs (PS.getD k []) ?_ b hb
        rw [List.getD_eq_getElem?_getD, List.getElem?_eq_getElem (by omega), Option.getD_some]
        exact List.getElem_mem _
      have hwh : wholeB sumB (sealsB sumB (PS.getD k []) ++ (if k + 1 = PS.length then tail else [])) = (PS.getD k [], sizeB sumB (PS.getD k [])) := by
        refine whole_part _ hmem _ ?_
        split
        · exact h.tail
        · exact wholeB_stop sumB (by simp [openB])
      have hd : PS.drop k = PS.getD k [] :: PS.drop (k + 1) := by
        rw [List.drop_eq_getElem_cons (by omega), List.getD_eq_getElem?_getD, List.getElem?_eq_getElem (by omega), Option.getD_some]
      rw [List.range_succ_eq_map, List.map_cons, List.map_map, AS.gather, hr]
      simp only [hwh, List.length_append, sizeB_len]
      have hmap : (List.map ((fun j => ((first + (k + j) : Nat) : Int)) ∘ Nat.succ) (List.range d)) = (List.range d).map fun j => ((first + (k + 1 + j) : Nat) : Int) := by
        apply List.map_congr_left
        intro j _
        simp only [Function.comp]
        omega
      rw [hmap]
      by_cases hlast : k + 1 = PS.length
      · have hd0 : d = 0 := by omega
        subst hd0
        rw [if_neg (by simp)]
        simp only [if_pos hlast, List.range_zero, List.map_nil, AS.gather, Nat.add_one_ne_zero, or_false, hd, List.drop_of_length_le (show PS.length ≤ k + 1 by omega), List.flatten_cons, List.flatten_nil, List.append_nil]
        congr 2
        by_cases ht : tail = []
        · rw [if_pos (by rw [ht]; simp), if_pos ht]
        · have : 0 < tail.length := List.length_pos_iff.2 ht
          rw [if_neg (by omega), if_neg ht, show PS.length - 1 = k by omega]
      · rw [if_neg (by simp [if_neg hlast])]
        simp only [if_neg hlast, List.length_nil, Nat.add_zero, if_true]
        rw [ih (k + 1) (by omega), hd, List.flatten_cons, List.append_assoc]
        have hd0 : ¬ d = 0 := by omega
        simp [hd0]
  have := key PS.length 0 (by omega) []
  simp only [Nat.zero_add, List.nil_append, List.drop_zero] at this
  rw [this]
  have hp0 : ¬ PS.length = 0 := by omega
  simp [hp0]
theorem lastOf_range (f L : Nat) (hL : 0 < L) : lastOf f ((List.range L).map fun j => ((f + j : Nat) : Int)) = ((f + (L - 1) : Nat) : Int) := by
  obtain ⟨m, rfl⟩ : ∃ m, L = m + 1 := ⟨L - 1, by omega⟩
  rw [lastOf, List.range_succ, List.map_append, List.map_cons, List.map_nil, List.getLast?_append]
  simp
end
end Go.Proofs.YtgjdandnncjegaaGreatDoor

/- Contract of ledger's Open. -/
namespace Go.Proofs.YtgjdandnncjegaaGreatDoor
open Go Go.Proofs.YtgjdandnncjegaaGreatDoor.St

/-! ### The steps -/
section
variable {s : Nat} {L : List (Nat × Array Value × TypeId)} {b0 b1 b2 : Nat} {last torn : Int}
theorem step_cut (h0 : (b0, #[.pointer (some ⟨s, 0, none⟩)], 24) ∈ L) (h1 : (b1, #[.int .i64 last], 3) ∈ L) (h2 : (b2, #[.int .i64 torn], 3) ∈ L) :
    StepV s L (.func (.func 32) #[] #[.pointer (some ⟨b0, 0, none⟩), .pointer (some ⟨b1, 0, none⟩), .pointer (some ⟨b2, 0, none⟩)]) fun a => a.cut (nameI last) torn := by
  intro w H a h hL hs R hR
  refine (show Ca Tryz.prog _ _ w R from ?_)
  refine ca32 (some ⟨b0, 0, none⟩) (some ⟨b1, 0, none⟩) (some ⟨b2, 0, none⟩) w R ?_
  refine drewG w _ fun w0 m0 => ?_
  have L0 := hL.no m0
  refine ⟨_, by rw [cl (L0 _ h0)]; rfl, _, by rw [cl (L0 _ h1)]; rfl, _, by rw [cl (L0 _ h2)]; rfl, ?_⟩
  refine name_ok (h.vars.no m0) last _ fun w8 m8 => ⟨_, rfl, ?_⟩
  have L8 := L0.no m8
  refine ⟨by rw [cl1 (L8 _ h0)]; rfl, by rw [cl1 (L8 _ h2)]; rfl, ?_⟩
  have m08 := m0.trans m8
  exact cut_ok (h.no m08).st _ (by have := nameI_size last; omega) torn _ fun w13 hp => ⟨_, rfl, hR w13 ((St1P.of (h.no m08) hp (h.named.cut _)).pre m08)⟩
theorem step_sync (h0 : (b0, #[.pointer (some ⟨s, 0, none⟩)], 24) ∈ L) (h1 : (b1, #[.int .i64 last], 3) ∈ L) :
    StepV s L (.func (.func 33) #[] #[.pointer (some ⟨b0, 0, none⟩), .pointer (some ⟨b1, 0, none⟩)]) fun a => a.sync (nameI last) := by
  intro w H a h hL hs R hR
  refine (show Ca Tryz.prog _ _ w R from ?_)
  refine ca33 (some ⟨b0, 0, none⟩) (some ⟨b1, 0, none⟩) w R ?_
  refine drewG w _ fun w0 m0 => ?_
  have L0 := hL.no m0
  refine ⟨_, by rw [cl (L0 _ h0)]; rfl, _, by rw [cl (L0 _ h1)]; rfl, ?_⟩
  refine name_ok (h.vars.no m0) last _ fun w8 m8 => ⟨_, rfl, ?_⟩
  have L8 := L0.no m8
  refine ⟨by rw [cl1 (L8 _ h0)]; rfl, ?_⟩
  have m08 := m0.trans m8
  exact sync_ok (h.no m08).st _ (by have := nameI_size last; omega) _ fun w13 hp => ⟨_, rfl, hR w13 ((St1P.of (h.no m08) hp h.named.sync).pre m08)⟩
theorem step_make (h0 : (b0, #[.pointer (some ⟨s, 0, none⟩)], 24) ∈ L) (h1 : (b1, #[.int .i64 last], 3) ∈ L) :
    StepV s L (.func (.func 35) #[] #[.pointer (some ⟨b0, 0, none⟩), .pointer (some ⟨b1, 0, none⟩)]) fun a => a.make (nameI last) := by
  intro w H a h hL hs R hR
  refine (show Ca Tryz.prog _ _ w R from ?_)
  refine ca35 (some ⟨b0, 0, none⟩) (some ⟨b1, 0, none⟩) w R ?_
  refine drewG w _ fun w0 m0 => ?_
  have L0 := hL.no m0
  refine ⟨_, by rw [cl (L0 _ h0)]; rfl, _, by rw [cl (L0 _ h1)]; rfl, ?_⟩
  refine name_ok (h.vars.no m0) last _ fun w8 m8 => ⟨_, rfl, ?_⟩
  have L8 := L0.no m8
  refine ⟨by rw [cl1 (L8 _ h0)]; rfl, ?_⟩
  have m08 := m0.trans m8
  exact make_ok (h.no m08).st _ (by have := nameI_size last; omega) _ fun w13 hp => ⟨_, rfl, hR w13 ((St1P.of (h.no m08) hp (h.named.make (nameI_size last))).pre m08)⟩
theorem step_commit (s : Nat) (L : List (Nat × Array Value × TypeId)) : StepV s L (.func (.func 37) #[.pointer (some ⟨s, 0, none⟩)] #[]) fun a => a.commit := by
  intro w H a h hL hs R hR
  refine (show Ca Tryz.prog _ _ w R from ?_)
  exact commit_ok h.st _ fun w13 hp => hR w13 (St1P.of h hp h.named.commit)
end

/-! ### A ledger as it lies -/
structure AL.Ok (l : AL) : Prop where
  l1 : 1 ≤ l.last
  l9 : l.last ≤ 999999999
  p1 : 1 ≤ l.part
  p2 : l.part ≤ 1048576
  n : l.waits.length ≤ 1000
  b : ∀ x ∈ l.waits, x.length ≤ 1048512
structure LW (w : World) (g : Nat) (G : Nat → Prop) (s : Nat) (l : AL) : Prop where
  at_ : ∃ a c, LAt w g s l.part l.last a l.waits.length c l.dead ∧ BIn G w a l.waits.length c l.waits
  own : G g
  ok : l.Ok
section
variable {w w' : World} {g s : Nat} {G T : Nat → Prop} {l : AL}
theorem LW.mod (h : LW w g G s l) (hm : Mod T w w') (hT : ∀ k, T k → ¬ G k) : LW w' g G s l :=
  let ⟨⟨a, c, h1, h2⟩, h3, h4⟩ := h
  ⟨⟨a, c, hm.at h1 fun hk => hT _ hk h3, h2.mod hm hT⟩, h3, h4⟩
theorem LW.no (h : LW w g G s l) (hm : Mod no w w') : LW w' g G s l := h.mod hm fun _ hk => hk.elim
end
/-- What Open leaves: the store, the ledger, the checkpoint and the records, each in blocks of its own. -/
structure Opened (s : Nat) (H : Nat → Prop) (w : World) (a' : AS) (w' : World) (g : Nat) (l : AL) (cp : Option Addr) (cl cc : Nat) (check : Bs) (rp : Option Addr) (rl rc : Nat) (rs : List Bs) : Prop where
  ex : ∃ H', St1 w' s H' a' ∧ (∀ k, H' k → H k ∨ w.heap.size ≤ k) ∧ Mod H w w' ∧ LW w' g (fun k => k = g) s l ∧ (w.heap.size ≤ g ∧ ¬ H' g) ∧ Rd w' cp cl cc check ∧ (∀ k, rowB cp k → w.heap.size ≤ k ∧ ¬ H' k) ∧ BIn (fun k => w.heap.size ≤ k ∧ ¬ H' k) w' rp rl rc rs

theorem partsL_mem {a : AS} {m z : Int} (hz : z ∈ a.partsL m) : m ≤ z ∧ 1 ≤ z ∧ z ≤ 999999999 := by
  rw [AS.partsL, (List.mergeSort_perm _ _).mem_iff, numsOf_eq, List.mem_filterMap] at hz
  obtain ⟨f, _, hf⟩ := hz
  obtain ⟨h1, h2, h3⟩ := numI_some hf
  refine ⟨h2, h3, ?_⟩
  apply Classical.byContradiction
  intro h
  rw [nameI, if_neg (by omega)] at h1
  subst h1
  have : numI m ⟨#[]⟩ = none := rfl
  rw [this] at hf
  cases hf
theorem found_some {a : AS} {f : Int} {b : Bs} (h : a.found = some (f, b)) : 1 ≤ f ∧ f ≤ 999999999 := by
  unfold AS.found at h
  split at h
  · injection h with h; injection h with h1 h2; omega
  · split at h
    · cases h
    · rename_i h3
      injection h with h; injection h with h1 h2
      omega
theorem lastOf_mem {a : AS} {f : Int} (hf : 1 ≤ f ∧ f ≤ 999999999) : 1 ≤ lastOf f (a.partsL f) ∧ lastOf f (a.partsL f) ≤ 999999999 := by
  unfold lastOf
  cases hl : (a.partsL f).getLast? with
  | none => exact hf
  | some z => exact (partsL_mem (List.mem_of_getLast? hl)).2

theorem read_known (a : AS) : (a.read nCheck).2 = a.known nCheck := by
  rw [AS.read]
  split
  · rename_i h; exact h.symm
  · rfl
theorem runs2 (f g : AS → AS × Int) (a : AS) : runs [f, g] a = thn (f a) g := by
  have e : runs [g] = g := funext fun a => thn_pure (g a)
  rw [runs, e]
theorem BIn.old {G : Nat → Prop} {w : World} {a : Option Addr} {l c : Nat} {xs : List Bs} (h : BIn G w a l c xs) : BIn (fun k => G k ∧ k < w.heap.size) w a l c xs := by
  obtain ⟨ss, h1, h2, h3, h4⟩ := h
  refine ⟨ss, h1, h2, fun k hk => ⟨h3 k hk, ?_⟩, fun i s b hs hb => ⟨(h4 i s b hs hb).1, fun k hk => ⟨(h4 i s b hs hb).2 k hk, ?_⟩⟩⟩
  · obtain ⟨cs, hc⟩ := slv_row h1 hk
    exact lt_of_heap hc
  · obtain ⟨cs, hc⟩ := els_row (h4 i s b hs hb).1 hk
    exact lt_of_heap hc
theorem Rd.off {w w' : World} {a : Option Addr} {l c : Nat} {bs : Bs} {T : Nat → Prop} (h : Rd w a l c bs) (hm : Mod T w w') (hs : ∀ k, rowB a k → ¬ T k) : Rd w' a l c bs := h.mod hm hs

set_option maxHeartbeats 2000000 in
theorem open_l_ok {w : World} {s : Nat} {H : Nat → Prop} {a : AS} (h : St1 w s H a) (part : Int) (R : Value → World → Prop)
    (h0 : ∀ e, (a.openL part).2 = (e, none) → ∀ w', St1P s H w (a.openL part).1 w' → R (.tuple #[.pointer none, .slice none 0 0, .slice none 0 0, .int .i64 e]) w')
    (h1 : ∀ l check rs, (a.openL part).2 = (0, some (l, check, rs)) → ∀ w' g cp cl cc rp rl rc, Opened s H w (a.openL part).1 w' g l cp cl cc check rp rl rc rs → R (.tuple #[.pointer (some ⟨g, 0, none⟩), .slice cp cl cc, .slice rp rl rc, .int .i64 0]) w') :
    Ca Tryz.prog 9 #[.pointer (some ⟨s, 0, none⟩), .int .i64 part] w R := by
  refine ca9 (some ⟨s, 0, none⟩) part w R ?_
  refine newG _ w _ fun w0 B0 m0 z0 => ?_
  refine ⟨_, by rw [cl B0]; rfl, ?_⟩
  refine read_ok (h.no m0).st nCheck (by decide) _ fun w3 p4 n5 n6 e3 m3 r3 => ⟨p4, n5, n6, _, rfl, ?_⟩
  have m03 := m0.trans m3
  have hk := read_known a
  have hd : (a.read nCheck).2 = 9 ↔ a.dark = true := by
    rw [hk, AS.known]
    cases a.dark with
    | true => simp
    | false => rw [good_check]; simp; split <;> simp
  have hn1 : (a.read nCheck).2 ≠ 1 := by
    rw [hk]
    rcases AS.known_cases a nCheck with h | h | h | h <;> omega
  refine ifK_eq (fun h => absurd h hn1) fun _ => ifK_eq (fun h9 => ?_) fun h9 => ?_
  · have he : a.openL part = (a, 9, none) := by rw [AS.openL, if_pos (hd.1 h9)]
    rw [he] at h0
    rw [h9]
    exact h0 9 rfl w3 (St1P.of_no h m03)
  have hon : ¬ a.dark = true := fun h => h9 (hd.2 h)
  have bad : (part < 1 ∨ 1048576 < part) → R (.tuple #[.pointer none, .slice none 0 0, .slice none 0 0, .int .i64 2]) w3 := fun hp => by
    have he : a.openL part = (a, 2, none) := by rw [AS.openL, if_neg hon, if_pos hp]
    rw [he] at h0
    exact h0 2 rfl w3 (St1P.of_no h m03)
  refine ifK_dec (fun hp => bad (.inl hp)) fun hp1 => ifK_dec (fun hp => bad (.inr hp)) fun hp2 => ?_
  have hpart : ¬ (part < 1 ∨ 1048576 < part) := by omega
  have hp3 : 1 ≤ part ∧ part ≤ 1048576 := by omega
  refine ⟨_, by rw [cl (m3.at' B0)]; rfl, ?_⟩
  refine found_ok (h.no m03) _ (fun hf w10 m10 => ⟨_, _, _, _, _, rfl, ?_⟩) (fun first check hf w10 p12 n13 n14 r10 m10 o10 => ⟨_, _, _, _, _, rfl, ?_⟩)
  · refine boxG _ _ w10 _ fun w18 B18 m18 z18 => ?_
    refine (ifK_of (fun _ => ?_) (fun h => by cases h) : ifK true _ _)
    have he : a.openL part = (a, 7, none) := by rw [AS.openL, if_neg hon, if_neg hpart, hf]
    rw [he] at h0
    exact h0 7 rfl w18 (St1P.of_no h ((m03.trans m10).trans m18))
  obtain ⟨f1, f9⟩ := found_some hf
  refine boxG _ _ w10 _ fun w18 B18 m18 z18 => ?_
  refine (ifK_of (fun h => by cases h) (fun _ => ?_) : ifK false _ _)
  have L18 : Has w18 [(w10.heap.size, #[.int .i64 first], 3), (w.heap.size, #[.pointer (some ⟨s, 0, none⟩)], 24)] := ((Has.nil w18).cons (m18.at' (m10.at' (m3.at' B0)))).cons B18
  have m0_18 := (m03.trans m10).trans m18
  refine ⟨_, by rw [cl (L18.get 1 rfl)]; rfl, _, by rw [cl (L18.get 0 rfl)]; rfl, ?_⟩
  refine parts2_ok (h.no m0_18) first _ fun w22 p23 n25 e22 m22 _ => ⟨p23, _, n25, rfl, ?_⟩
  have L22 := L18.no m22
  have m0_22 := m0_18.trans m22
  refine ⟨_, by rw [cl (L22.get 1 rfl)]; rfl, _, by rw [cl (L22.get 0 rfl)]; rfl, ?_⟩
  obtain ⟨hbM, hbP⟩ := h.named.big h.st.ok.room0 first
  have hr0 := h.st.ok.room0
  have hroom := h.named.rm
  obtain ⟨M, hM⟩ : ∃ M : Nat, a.room = (M : Int) := ⟨a.room.toNat, by omega⟩
  have hMP : (a.partsL first).length * M ≤ 1099511627776 := by
    have h1 : (a.partsL first).length ≤ 262144 := by omega
    have h2 : M ≤ 4194304 := by omega
    exact Nat.le_trans (Nat.mul_le_mul h1 h2) (by decide)
  refine gather_ok (h.no m0_22) e22 (M := M) (fun n => by have := hbM n; omega) hMP (by omega) first ⟨by omega, by omega⟩ _ (fun hg w29 m29 => ⟨_, _, _, _, _, rfl, ?_⟩) (fun rs torn hg w29 p30 n32 b29 m29 => ⟨_, _, _, _, _, rfl, ?_⟩)
  · refine boxG _ _ w29 _ fun w37 B37 m37 z37 => ?_
    refine (ifK_of (fun _ => ?_) (fun h => by cases h) : ifK true _ _)
    have he : a.openL part = (a, 7, none) := by rw [AS.openL, if_neg hon, if_neg hpart, hf]; simp only [hg]
    rw [he] at h0
    exact h0 7 rfl w37 (St1P.of_no h ((m0_22.trans m29).trans m37))
  refine boxG _ _ w29 _ fun w37 B37 m37 z37 => ?_
  refine (ifK_of (fun h => by cases h) (fun _ => ?_) : ifK false _ _)
  have L37 : Has w37 [(w29.heap.size, #[.int .i64 torn], 3), (w10.heap.size, #[.int .i64 first], 3), (w.heap.size, #[.pointer (some ⟨s, 0, none⟩)], 24)] := ((L22.no m29).no m37).cons B37
  refine ⟨_, by rw [cl (L37.get 1 rfl)]; rfl, ?_⟩
  refine boxG _ _ w37 _ fun w41 B41 m41 z41 => ?_
  have L41 := (L37.no m41)
  have m22_41 := (m29.trans m37).trans m41
  have m0_41 := m0_22.trans m22_41
  -- the last part's number
  have hels : Els (Value.int .i64) 3 w41 p23 (a.partsL first).length n25 (a.partsL first) := row_mod e22 m22_41 fun _ _ => id
  refine ⟨fun w' => w'.heap[w37.heap.size]? = some (.cells #[.int .i64 (lastOf first (a.partsL first))] 3 (0, 0)) ∧ Mod no w37 w', ?_, ?_⟩
  · refine ifK_dec (fun hlt => ?_) fun hge => ?_
    · obtain ⟨init, lst, hsn⟩ : ∃ init lst, a.partsL first = init ++ [lst] := by
        have hne : a.partsL first ≠ [] := fun e => by rw [e] at hlt; simp at hlt
        exact ⟨_, _, (List.dropLast_concat_getLast hne).symm⟩
      have hlast : lastOf first (a.partsL first) = lst := by rw [lastOf, hsn]; simp
      have hall := hels.all intone
      obtain ⟨ad, had⟩ : ∃ ad, p23 = some ad := by
        cases hp : p23 with
        | none => have := (hall.2 hp).1; omega
        | some ad => exact ⟨ad, rfl⟩
      have e1 : IntKind.i64.wrap (((a.partsL first).length : Int) - 1) = ((init.length : Nat) : Int) := by
        rw [wrap64 (by omega) (by omega), hsn]; simp
      rw [e1]
      refine ⟨ad, had, by omega, by rw [hsn]; simp; omega, lst, ?_, ?_⟩
      · rw [Int.toNat_natCast, Nat.mul_one]
        exact hall.1 ad had init.length _ (by rw [hsn]; simp)
      · refine ⟨⟨_, by rw [cl1 B41]; rfl⟩, fz1 B41 _, fun w46 e46 => ?_⟩
        have m46 : Mod (on w37.heap.size) w41 w46 := by subst e46; exact Mod.set1 _ _ _ _
        have B46 : w46.heap[w37.heap.size]? = some (.cells #[.int .i64 lst] 3 (0, 0)) := by subst e46; rw [set1 B41]; rfl
        exact ⟨by rw [hlast]; exact B46, m41.new m46 fun k hk => by cases hk; exact Nat.le_refl _⟩
    · have hne : a.partsL first = [] := List.length_eq_zero_iff.1 (by omega)
      exact ⟨by rw [hne]; exact B41, m41⟩
  intro _ w48 ⟨B48, m48⟩
  have m0_48 := ((m0_22.trans m29).trans m37).trans m48
  obtain ⟨L, L48, off48, q0, q1, q2, q3⟩ : ∃ L, Has w48 L ∧ (∀ x ∈ L, w.heap.size ≤ x.1) ∧ (w37.heap.size, #[Value.int .i64 (lastOf first (a.partsL first))], 3) ∈ L ∧ (w29.heap.size, #[.int .i64 torn], 3) ∈ L ∧ (w10.heap.size, #[.int .i64 first], 3) ∈ L ∧ (w.heap.size, #[.pointer (some ⟨s, 0, none⟩)], 24) ∈ L := by
    refine ⟨_, (L37.no m48).cons B48, fun x hx => ?_, List.mem_cons_self .., by simp, by simp, by simp⟩
    have s1 := m03.size
    have s2 := m0_18.size
    have s3 := (m0_22.trans m29).size
    have s4 := (m03.trans m10).size
    have s5 := ((m0_22.trans m29).trans m37).size
    simp only [List.mem_cons, List.not_mem_nil, or_false] at hx
    rcases hx with rfl | rfl | rfl | rfl
    · exact s5
    · exact s3
    · exact s4
    · exact Nat.le_refl _
  have h48 := h.no m0_48
  have r48 := (((((r10.no m18).no m22).no m29).no m37).no m48)
  have b48 := (b29.old.no m37).no m48
  have z29 : w29.heap.size ≤ w48.heap.size := Nat.le_trans m37.size m48.size
  have z10 : w10.heap.size ≤ w48.heap.size := Nat.le_trans (Nat.le_trans m18.size (Nat.le_trans m22.size m29.size)) z29
  have z3 := m03.size
  have z22 := m0_22.size
  have z48 := m0_48.size
  clear L37 L41 L22 L18 B48 B41 B37 B18 B0 hels e22 m41 m22_41 m0_41 m37 m29 m22 m18 m10 m48 e3 m3 m03 m0 b29 r10
  refine ⟨fun e w' => e = (a.mend first (a.partsL first) torn).2 ∧ ∃ H', St1 w' s H' (a.mend first (a.partsL first) torn).1 ∧ (∀ k, H' k → H k ∨ w48.heap.size ≤ k) ∧ Mod H w48 w', ?_, ?_⟩
  · have each : ∀ (t : TypeId) (fs : List Value) (steps : List (Value × (AS → AS × Int))), steps.map (·.1) = fs → fs.length = 2 → ∀ w51, w51.heap[w48.heap.size]? = some (.cells ⟨fs⟩ t (0, 0)) → Mod no w48 w51 → (∀ p ∈ steps, StepV s ((w48.heap.size, ⟨fs⟩, t) :: L) p.1 p.2) →
        ∀ K : Value → World → Prop, (∀ w', St1P s H w48 (runs (steps.map (·.2)) a).1 w' → K (.int .i64 (runs (steps.map (·.2)) a).2) w') → Ca Tryz.prog 31 #[.slice (some ⟨w48.heap.size, 0, none⟩) 2 2] w51 K := by
      intro t fs steps hfs hlen w51 B51 m51 hst K hK
      subst hfs
      refine each_ok B51 (by omega) K ?_ 2 hlen.symm
      have L51 := (L48.no m51).cons B51
      refine chain_steps (List.mem_cons_self ..) steps hst w51 H a (h48.no m51) L51 (fun x hx hHx => ?_) K fun w' hp => hK w' (hp.pre m51)
      have hx0 := (h.old _ hHx).2
      rcases List.mem_cons.1 hx with rfl | hx
      · simp only at hx0; omega
      · have := off48 x hx; omega
    have fin : ∀ f g, a.mend first (a.partsL first) torn = thn (f a) g → ∀ w', St1P s H w48 (runs [f, g] a).1 w' → (runs [f, g] a).2 = (a.mend first (a.partsL first) torn).2 ∧ ∃ H', St1 w' s H' (a.mend first (a.partsL first) torn).1 ∧ (∀ k, H' k → H k ∨ w48.heap.size ≤ k) ∧ Mod H w48 w' := by
      intro f g he w' hp
      rw [runs2] at hp ⊢
      rw [he]
      exact ⟨rfl, hp⟩
    refine ⟨torn, by rw [cl (L48 _ q1)]; rfl, ifK_dec (fun ht => ?_) fun ht => ?_⟩
    · refine newG _ w48 _ fun w51 B51 m51 _ => ?_
      refine each _ _ [(.func (.func 32) #[] #[.pointer (some ⟨w.heap.size, 0, none⟩), .pointer (some ⟨w37.heap.size, 0, none⟩), .pointer (some ⟨w29.heap.size, 0, none⟩)], fun x => x.cut (nameI (lastOf first (a.partsL first))) torn), (.func (.func 33) #[] #[.pointer (some ⟨w.heap.size, 0, none⟩), .pointer (some ⟨w37.heap.size, 0, none⟩)], fun x => x.sync (nameI (lastOf first (a.partsL first))))] rfl rfl w51 B51 m51 ?_ _ fun w' hp => ⟨_, rfl, fin (fun x => x.cut (nameI (lastOf first (a.partsL first))) torn) _ (by rw [AS.mend, if_pos ht]) w' hp⟩
      intro p hp
      simp only [List.mem_cons, List.not_mem_nil, or_false] at hp
      rcases hp with rfl | rfl
      · exact step_cut (List.mem_cons_of_mem _ q3) (List.mem_cons_of_mem _ q0) (List.mem_cons_of_mem _ q1)
      · exact step_sync (List.mem_cons_of_mem _ q3) (List.mem_cons_of_mem _ q0)
    · refine ifK_eq (fun hz => ?_) fun hz => ?_
      · have hne : a.partsL first = [] := List.length_eq_zero_iff.1 (by omega)
        refine ⟨_, by rw [cl (L48 _ q3)]; rfl, ?_⟩
        refine newG _ w48 _ fun w51 B51 m51 _ => ?_
        refine each _ _ [(.func (.func 35) #[] #[.pointer (some ⟨w.heap.size, 0, none⟩), .pointer (some ⟨w10.heap.size, 0, none⟩)], fun a => a.make (nameI first)), (.func (.func 37) #[.pointer (some ⟨s, 0, none⟩)] #[], fun a => a.commit)] rfl rfl w51 B51 m51 ?_ _ fun w' hp => ⟨_, rfl, fin (fun a => a.make (nameI first)) _ (by rw [AS.mend, if_neg ht, if_pos hne]) w' hp⟩
        intro p hp
        simp only [List.mem_cons, List.not_mem_nil, or_false] at hp
        rcases hp with rfl | rfl
        · exact step_make (List.mem_cons_of_mem _ q3) (List.mem_cons_of_mem _ q2)
        · exact step_commit _ _
      · have hne : ¬ a.partsL first = [] := fun e => hz (by rw [e]; rfl)
        rw [AS.mend, if_neg ht, if_neg hne]
        exact ⟨rfl, H, h48, fun _ hk => .inl hk, Mod.refl _ _⟩
  · rintro _ _ w62 ⟨rfl, H', h62, hH', m62⟩
    have offH : ∀ k, w.heap.size ≤ k → ¬ H k := fun k hk hH => by have := (h.old k hH).2; omega
    have L62 : Has w62 L := L48.mod m62 fun x hx => offH _ (off48 x hx)
    have offH' : ∀ k, w.heap.size ≤ k → k < w48.heap.size → ¬ H' k := fun k h1 h2 hH => by
      rcases hH' k hH with h3 | h3
      · exact offH k h1 h3
      · omega
    have hsub : ∀ k, H' k → H k ∨ w.heap.size ≤ k := fun k hk => (hH' k hk).imp id fun h => by omega
    have m0_62 : Mod H w w62 := m0_48.no_trans m62
    refine ifNe (fun hne => ?_) fun heq => ?_
    · have he : a.openL part = ((a.mend first (a.partsL first) torn).1, (a.mend first (a.partsL first) torn).2, none) := by
        rw [AS.openL, if_neg hon, if_neg hpart, hf]; simp only [hg]; rw [if_neg hne]
      rw [he] at h0
      exact h0 _ rfl w62 ⟨H', h62, hsub, m0_62⟩
    · have he : a.openL part = ((a.mend first (a.partsL first) torn).1, 0, some (⟨part, lastOf first (a.partsL first), [], false⟩, check, rs)) := by
        rw [AS.openL, if_neg hon, if_neg hpart, hf]; simp only [hg]; rw [if_pos heq]
      rw [he] at h1
      refine ⟨_, by rw [cl (L62 _ q3)]; rfl, _, by rw [cl (L62 _ q0)]; rfl, ?_⟩
      refine newG _ w62 _ fun w65 B65 m65 _ => ?_
      have hl := lastOf_mem (a := a) ⟨f1, f9⟩
      refine h1 _ _ _ rfl w65 w62.heap.size _ _ _ _ _ _ ⟨H', h62.no m65, hsub, m0_62.trans_no m65, ⟨⟨none, 0, B65, BIn.nil _ _⟩, rfl, ⟨hl.1, hl.2, hp3.1, hp3.2, Nat.zero_le _, fun _ h => by cases h⟩⟩, ⟨m0_62.size, fun hk => ?_⟩, ?_, fun k hk => ?_, ?_⟩
      · have := (h62.old _ hk).2; omega
      · exact (r48.off m62 fun k hk hH => offH k (Nat.le_trans z3 (o10 k hk).1) hH).no m65
      · have := o10 k hk
        exact ⟨by omega, offH' k (by omega) (by omega)⟩
      · refine ((b48.mod m62 fun k hk hG => offH k (by omega) hk).no m65).mono fun k hk => ⟨by omega, offH' k (by omega) (by omega)⟩
end Go.Proofs.YtgjdandnncjegaaGreatDoor

/- A store and a ledger over it as they lie; contracts of told, turn, Add, Pending. -/
namespace Go.Proofs.YtgjdandnncjegaaGreatDoor
open Go Go.Proofs.YtgjdandnncjegaaGreatDoor.St

structure LS (w : World) (s g : Nat) (F G : Nat → Prop) (a : AS) (l : AL) : Prop where
  st : St1 w s F a
  led : LW w g G s l
  apart : ∀ k, F k → ¬ G k
  old : ∀ k, G k → 6 ≤ k ∧ k < w.heap.size
def LSP (s g : Nat) (F G : Nat → Prop) (w : World) (a' : AS) (l' : AL) (w' : World) : Prop :=
  ∃ F' G', LS w' s g F' G' a' l' ∧ (∀ k, F' k → F k ∨ w.heap.size ≤ k) ∧ (∀ k, G' k → G k ∨ w.heap.size ≤ k) ∧ Mod (fun k => F k ∨ G k) w w'

section
variable {w w' w'' : World} {s g : Nat} {F G T : Nat → Prop} {a b : AS} {l m : AL}
theorem LS.no (h : LS w s g F G a l) (hm : Mod no w w') : LS w' s g F G a l := ⟨h.st.no hm, h.led.no hm, h.apart, fun k hk => ⟨(h.old k hk).1, Nat.lt_of_lt_of_le (h.old k hk).2 hm.size⟩⟩
theorem LS.mod (h : LS w s g F G a l) (hm : Mod T w w') (h1 : ∀ k, F k ∨ G k → ¬ T k) (h2 : ∀ k, k < 6 → ¬ T k) : LS w' s g F G a l :=
  ⟨h.st.mod hm (fun k hk => h1 k (.inl hk)) h2, h.led.mod hm fun k hk hG => h1 k (.inr hG) hk, h.apart, fun k hk => ⟨(h.old k hk).1, Nat.lt_of_lt_of_le (h.old k hk).2 hm.size⟩⟩
theorem LSP.refl (h : LS w s g F G a l) : LSP s g F G w a l w := ⟨F, G, h, fun _ => .inl, fun _ => .inl, Mod.refl _ _⟩
theorem LSP.of_no (h : LS w s g F G a l) (hm : Mod no w w') : LSP s g F G w a l w' := ⟨F, G, h.no hm, fun _ => .inl, fun _ => .inl, hm.of_no⟩
theorem LSP.pre (hm : Mod no w w') (h : LSP s g F G w' a l w'') : LSP s g F G w a l w'' :=
  let ⟨F', G', h1, h2, h3, h4⟩ := h
  ⟨F', G', h1, fun k hk => (h2 k hk).imp id (Nat.le_trans hm.size), fun k hk => (h3 k hk).imp id (Nat.le_trans hm.size), hm.no_trans h4⟩
theorem LSP.post (h : LSP s g F G w a l w') (hm : Mod no w' w'') : LSP s g F G w a l w'' :=
  let ⟨F', G', h1, h2, h3, h4⟩ := h
  ⟨F', G', h1.no hm, h2, h3, h4.trans_no hm⟩
theorem LSP.join {F1 G1 : Nat → Prop} (h2 : ∀ k, F1 k → F k ∨ w.heap.size ≤ k) (h3 : ∀ k, G1 k → G k ∨ w.heap.size ≤ k) (h4 : Mod (fun k => F k ∨ G k) w w') (h' : LSP s g F1 G1 w' b m w'') : LSP s g F G w b m w'' := by
  obtain ⟨F2, G2, g1, g2, g3, g4⟩ := h'
  have z := h4.size
  refine ⟨F2, G2, g1, fun k hk => ?_, fun k hk => ?_, h4.trans' g4 fun k hk hf => ?_⟩
  · rcases g2 k hk with h | h
    · exact h2 k h
    · exact .inr (by omega)
  · rcases g3 k hk with h | h
    · exact h3 k h
    · exact .inr (by omega)
  · rcases hf with hf | hf
    · rcases h2 k hf with h | h
      · exact .inl h
      · omega
    · rcases h3 k hf with h | h
      · exact .inr h
      · omega
/-- The store alone has moved. -/
theorem LS.store (h : LS w s g F G a l) (hp : St1P s F w b w') : LSP s g F G w b l w' := by
  obtain ⟨F', h1, h2, h3⟩ := hp
  refine ⟨F', G, ⟨h1, h.led.mod h3 h.apart, fun k hk hG => ?_, fun k hk => ⟨(h.old k hk).1, Nat.lt_of_lt_of_le (h.old k hk).2 h3.size⟩⟩, h2, fun _ => .inl, h3.mono fun k _ hk => .inl hk⟩
  rcases h2 k hk with h4 | h4
  · exact h.apart k h4 hG
  · have := (h.old k hG).2; omega
theorem LW.old (h : LW w g G s l) : LW w g (fun k => G k ∧ k < w.heap.size) s l := by
  obtain ⟨⟨a, c, h1, h2⟩, h3, h4⟩ := h
  exact ⟨⟨a, c, h1, h2.old⟩, ⟨h3, lt_of_heap h1⟩, h4⟩
/-- The ledger alone has moved. -/
theorem LS.mine (h : LS w s g F G a l) {G' : Nat → Prop} (hl : LW w' g G' s m) (hm : Mod G w w') (hG : ∀ k, G' k → G k ∨ w.heap.size ≤ k) : LSP s g F G w a m w' := by
  refine ⟨F, fun k => G' k ∧ k < w'.heap.size, ⟨h.st.mod hm (fun k => h.apart k) fun k hk hGk => by have := (h.old k hGk).1; omega, hl.old, fun k hk hGk => ?_, fun k hk => ⟨?_, hk.2⟩⟩, fun _ => .inl, fun k hk => hG k hk.1, hm.mono fun k _ hk => .inr hk⟩
  · rcases hG k hGk.1 with h4 | h4
    · exact h.apart k hk h4
    · have := (h.st.old k hk).2; omega
  · rcases hG k hk.1 with h4 | h4
    · exact (h.old k h4).1
    · have := h.st.big; omega
/-- A word of the ledger's own cell changes: its rows stand. -/
theorem rows_g {part last : Int} {p : Option Addr} {n c : Nat} {dead : Bool} (h1 : LAt w g s part last p n c dead) {x : Option Addr} {xl xc : Nat} {xs : List Bs} (h2 : BIn G w x xl xc xs) (hm : Mod (on g) w w') : BIn G w' x xl xc xs := by
  refine h2.norow hm (fun k cs z hk hc => ?_) fun k hk hT => ?_
  · cases hk; rw [LAt] at h1; rw [h1] at hc; injection hc with hc; injection hc with _ h5; exact absurd h5 (by decide)
  · cases hT
    obtain ⟨ss, g1, _⟩ := h2
    obtain ⟨cs, hc⟩ := slv_row g1 hk
    rw [LAt] at h1; rw [h1] at hc; injection hc with hc; injection hc with _ h5; exact absurd h5 (by decide)

theorem may2_ok (h : LS w s g F G a l) (R : Value → World → Prop) (hR : R (.int .i64 (l.may a)) w) : Ca Tryz.prog 38 #[.pointer (some ⟨g, 0, none⟩)] w R :=
  let ⟨_, _, h1, _⟩ := h.led.at_
  may_ok h1 h.st.st (by have := h.led.ok.l1; omega) R hR
theorem told2_ok (h : LS w s g F G a l) (e : Int) (R : Value → World → Prop) (hR : ∀ w', LSP s g F G w a (l.told e) w' → R (.int .i64 e) w') : Ca Tryz.prog 46 #[.pointer (some ⟨g, 0, none⟩), .int .i64 e] w R := by
  obtain ⟨p, c, h1, h2⟩ := h.led.at_
  refine told_ok h1 e R fun w' h1' hm => hR w' (h.mine (G' := G) ⟨⟨p, c, h1', rows_g h1 h2 hm⟩, h.led.own, ⟨h.led.ok.l1, h.led.ok.l9, h.led.ok.p1, h.led.ok.p2, h.led.ok.n, h.led.ok.b⟩⟩ (hm.mono fun k _ hk => by cases hk; exact h.led.own) fun _ => .inl)
theorem turn_ok (h : LS w s g F G a l) (h9 : l.last < 999999999) (R : Value → World → Prop) (hR : ∀ w', LSP s g F G w (l.turn a).1 (l.turn a).2.1 w' → R (.int .i64 (l.turn a).2.2) w') :
    Ca Tryz.prog 47 #[.pointer (some ⟨g, 0, none⟩)] w R := by
  have hl1 := h.led.ok.l1
  refine ca47 (some ⟨g, 0, none⟩) w R ?_
  refine drewG w _ fun w0 m0 => ?_
  have h0 := h.no m0
  obtain ⟨p, c, h1, h2⟩ := h0.led.at_
  refine ⟨_, by rw [cl1 h1]; rfl, _, by rw [cl1 h1]; rfl, ?_⟩
  have e1 : IntKind.i64.wrap (l.last + 1) = l.last + 1 := wrap64 (by omega) (by omega)
  rw [e1]
  refine name_ok h0.st.vars (l.last + 1) _ fun w6 m6 => ⟨_, rfl, by rw [cl2 (m6.at' h1)]; rfl, ?_⟩
  have m06 := m0.trans m6
  have h6 := h.no m06
  refine make_ok h6.st.st _ (by have := nameI_size (l.last + 1); omega) _ fun w9 hp => ⟨_, rfl, ?_⟩
  obtain ⟨F9, G9, h9', r1, r2, r3⟩ := (h6.store (St1P.of h6.st hp (h.st.named.make (nameI_size _)))).pre m06
  obtain ⟨p9, c9, k1, k2⟩ := h9'.led.at_
  rw [AL.turn] at hR
  refine ifK_eq (fun hz => ?_) fun hnz => ?_
  · rw [if_neg (by omega), if_neg (by omega)] at hR
    refine ⟨_, by rw [cl1 k1]; rfl, ?_⟩
    refine commit_ok h9'.st.st _ fun w14 hp2 => ⟨_, rfl, ?_⟩
    obtain ⟨F14, G14, h14, q1, q2, q3⟩ := LSP.join r1 r2 r3 (h9'.store (St1P.of h9'.st hp2 h9'.st.named.commit))
    refine ifNe (fun hne => ?_) fun heq => ?_
    · rw [if_pos hne] at hR
      exact told2_ok h14 _ _ fun w17 hp3 => ⟨_, rfl, hR w17 (LSP.join q1 q2 q3 hp3)⟩
    · rw [if_neg (by omega)] at hR
      obtain ⟨p14, c14, k3, k4⟩ := h14.led.at_
      refine ⟨_, by rw [cl1 k3]; rfl, ?_⟩
      rw [e1]
      refine ⟨⟨_, by rw [cl2 k3]; rfl⟩, fz2 k3 _ _, fun w23 e23 => hR w23 ?_⟩
      have m23 : Mod (on g) w14 w23 := by subst e23; exact Mod.set2 _ _ _ _ _
      have B23 : LAt w23 g s l.part (l.last + 1) p14 l.waits.length c14 l.dead := by subst e23; rw [LAt, set2 k3]; rfl
      refine LSP.join q1 q2 q3 (h14.mine (G' := G14) ⟨⟨p14, c14, B23, rows_g k3 k4 m23⟩, h14.led.own, ⟨by simp only; omega, by simp only; omega, h.led.ok.p1, h.led.ok.p2, h.led.ok.n, h.led.ok.b⟩⟩ (m23.mono fun k _ hk => by cases hk; exact h14.led.own) fun _ => .inl)
  · refine ifK_eq (fun h9e => ?_) fun hn9 => ?_
    · rw [if_pos h9e] at hR
      rw [h9e]
      exact told2_ok h9' _ _ fun w25 hp3 => ⟨_, rfl, hR w25 (LSP.join r1 r2 r3 hp3)⟩
    · rw [if_neg hn9, if_pos hnz] at hR
      exact hR w9 ⟨F9, G9, h9', r1, r2, r3⟩
theorem add_ok (h : LS w s g F G a l) {ba : Option Addr} {bl bc : Nat} {bs : Bs} (hb : Rd w ba bl bc bs) (R : Value → World → Prop) (hR : ∀ w', LSP s g F G w a (l.add a bs).1 w' → R (.int .i64 (l.add a bs).2) w') :
    Ca Tryz.prog 11 #[.pointer (some ⟨g, 0, none⟩), .slice ba bl bc] w R := by
  have hbl := hb.len
  have hok := h.led.ok
  have hn := hok.n
  rw [AL.add] at hR
  refine ca11 (some ⟨g, 0, none⟩) ba bl bc w R ?_
  refine may2_ok h _ ⟨_, rfl, ifNe (fun hne => ?_) fun heq => ?_⟩
  · rw [if_pos hne] at hR
    exact hR w (LSP.refl h)
  rw [if_neg (by omega)] at hR
  refine ifK_dec (fun hlt => ?_) fun hge => ?_
  · rw [if_pos (.inl (by omega))] at hR
    exact hR w (LSP.refl h)
  obtain ⟨p, c, h1, h2⟩ := h.led.at_
  refine ⟨_, _, _, by rw [cl1 h1]; rfl, ?_⟩
  refine ifK_dec (fun hlt => ?_) fun hge2 => ?_
  · rw [if_pos (.inr (by omega))] at hR
    exact hR w (LSP.refl h)
  rw [if_neg (by omega)] at hR
  refine drewG w _ fun w7 m7 => ?_
  refine ⟨_, _, _, by rw [cl1 (m7.at' h1)]; rfl, ?_⟩
  refine clone8_ok (hb.no m7) (by omega) _ fun w13 p14 c16 e13 m13 o13 => ⟨_, _, _, rfl, by rw [cl2 (m13.at' (m7.at' h1))]; rfl, ?_⟩
  have m713 := m7.trans m13
  refine newG _ w13 _ fun w17 B17 m17 z17 => ?_
  have m717 := m713.trans m17
  refine ⟨by rw [cl2 (m717.at' h1)]; rfl, ?_⟩
  have h2' : BIn (fun k => G k ∨ w.heap.size ≤ k) w17 p l.waits.length c l.waits := (h2.no m717).mono fun k hk => .inl hk
  obtain ⟨a', c', w19, hrun, hB19, m19, _, hG19, _⟩ := h2'.push (s := (p14, bl, c16)) (b := bs) (by have e := els_mod e13 m17 fun _ _ => id; exact e) (fun k hk => .inr (Nat.le_trans m7.size (o13 k hk))) B17 (by omega)
  refine ⟨_, w19, hrun, _, _, _, rfl, ?_⟩
  have hpG : ∀ k, rowB p k → G k := by obtain ⟨ss, q1, q2, q3, q4⟩ := h2; exact q3
  have hpg : ¬ rowB p g := fun hk => by
    obtain ⟨ss, q1, _⟩ := h2
    obtain ⟨cs, hc⟩ := slv_row q1 hk
    rw [LAt] at h1; rw [h1] at hc; injection hc with hc; injection hc with _ h5; exact absurd h5 (by decide)
  have h119 : LAt w19 g s l.part l.last p l.waits.length c l.dead := m19.at (m717.at' h1) hpg
  refine ⟨⟨_, by rw [cl2 h119]; rfl⟩, fz2 h119 _ _, fun w25 e25 => hR w25 ?_⟩
  have m25 : Mod (on g) w19 w25 := by subst e25; exact Mod.set2 _ _ _ _ _
  have B25 : LAt w25 g s l.part l.last a' (l.waits.length + 1) c' l.dead := by subst e25; rw [LAt, set2 h119]; rfl
  have hlen : (l.waits ++ [bs]).length = l.waits.length + 1 := by simp
  refine h.mine (G' := fun k => (G k ∨ w.heap.size ≤ k) ∨ w17.heap.size ≤ k) ⟨⟨a', c', by simp only [hlen]; exact B25, by simp only [hlen]; exact rows_g h119 hB19 m25⟩, .inl (.inl h.led.own), ⟨hok.l1, hok.l9, hok.p1, hok.p2, by simp only [hlen]; omega, fun x hx => ?_⟩⟩ ?_ fun k hk => ?_
  · rcases List.mem_append.1 hx with hx | hx
    · exact hok.b x hx
    · rw [List.mem_singleton] at hx; subst hx; omega
  · exact ((m717.of_no (S := G)).trans' m19 fun k _ hr => hpG k hr).trans (m25.mono fun k _ hk => by cases hk; exact h.led.own)
  · rcases hk with hk | hk
    · exact hk
    · exact .inr (Nat.le_trans m717.size hk)
theorem pending2_ok (h : LS w s g F G a l) (R : Value → World → Prop) (hR : R (.int .i64 l.waits.length) w) : Ca Tryz.prog 22 #[.pointer (some ⟨g, 0, none⟩)] w R :=
  let ⟨_, _, h1, _⟩ := h.led.at_
  pending_ok h1 R hR
end
end Go.Proofs.YtgjdandnncjegaaGreatDoor

/- Contract of ledger's Flush. -/
namespace Go.Proofs.YtgjdandnncjegaaGreatDoor
open Go Go.Proofs.YtgjdandnncjegaaGreatDoor.St

section
variable {s g : Nat} {L : List (Nat × Array Value × TypeId)} {b0 b1 b2 : Nat} {name : ByteArray} {x1 x2 x3 x4 : Value}
theorem step_write (h0 : (b0, #[.pointer (some ⟨g, 0, none⟩)], 26) ∈ L) (hg : (g, #[.pointer (some ⟨s, 0, none⟩), x1, x2, x3, x4], 47) ∈ L) (hn : (b1, #[.string name], 9) ∈ L) (hs : name.size ≤ 18)
    {ba : Option Addr} {bl bc : Nat} {bs : Bs} {tb : TypeId} (hb : (b2, #[.slice ba bl bc], tb) ∈ L) (hr : ∀ w, Has w L → Rd w ba bl bc bs) (ho : ∀ k, rowB ba k → ∃ x ∈ L, x.1 = k) :
    StepV s L (.func (.func 43) #[] #[.pointer (some ⟨b0, 0, none⟩), .pointer (some ⟨b1, 0, none⟩), .pointer (some ⟨b2, 0, none⟩)]) fun a => a.write name bs := by
  intro w H a h hL hs R hR
  refine (show Ca Tryz.prog _ _ w R from ?_)
  refine ca43 (some ⟨b0, 0, none⟩) (some ⟨b1, 0, none⟩) (some ⟨b2, 0, none⟩) w R ?_
  refine drewG w _ fun w0 m0 => ?_
  have L0 := hL.no m0
  refine ⟨some ⟨g, 0, none⟩, by rw [cl (L0 _ h0)]; rfl, _, by rw [cl1 (L0 _ hg)]; rfl, _, by rw [cl (L0 _ hn)]; rfl, _, _, _, by rw [cl (L0 _ hb)]; rfl, ?_⟩
  exact write_ok (h.no m0).st name (by omega) (hr w0 L0) (fun _ k hk hH => by obtain ⟨x, hx, rfl⟩ := ho k hk; exact hs x hx hH) _ fun w13 hp => ⟨_, rfl, hR w13 ((St1P.of (h.no m0) hp (h.named.write _)).pre m0)⟩
theorem step_sync2 (h0 : (b0, #[.pointer (some ⟨g, 0, none⟩)], 26) ∈ L) (hg : (g, #[.pointer (some ⟨s, 0, none⟩), x1, x2, x3, x4], 47) ∈ L) (hn : (b1, #[.string name], 9) ∈ L) (hs : name.size ≤ 18) :
    StepV s L (.func (.func 45) #[] #[.pointer (some ⟨b0, 0, none⟩), .pointer (some ⟨b1, 0, none⟩)]) fun a => a.sync name := by
  intro w H a h hL hs R hR
  refine (show Ca Tryz.prog _ _ w R from ?_)
  refine ca45 (some ⟨b0, 0, none⟩) (some ⟨b1, 0, none⟩) w R ?_
  refine drewG w _ fun w0 m0 => ?_
  have L0 := hL.no m0
  refine ⟨some ⟨g, 0, none⟩, by rw [cl (L0 _ h0)]; rfl, _, by rw [cl1 (L0 _ hg)]; rfl, _, by rw [cl (L0 _ hn)]; rfl, ?_⟩
  exact sync_ok (h.no m0).st name (by omega) _ fun w13 hp => ⟨_, rfl, hR w13 ((St1P.of (h.no m0) hp h.named.sync).pre m0)⟩
end
/-- The block of a row of bytes that is not empty. -/
theorem els_block {w : World} {a : Option Addr} {l c : Nat} {bs : Bs} (h : Els u8v 5 w a l c bs) (h0 : 0 < l) : ∃ k cur, a = some ⟨k, 0, none⟩ ∧ w.heap[k]? = some (.cells cur 5 (0, 0)) ∧ ∀ w' : World, w'.heap[k]? = some (.cells cur 5 (0, 0)) → Els u8v 5 w' a l c bs := by
  obtain ⟨h1, h2⟩ := h
  rcases h2 with ⟨hv, hx⟩ | ⟨k, cap, cur, hv, hb, hg, rest⟩
  · omega
  · injection hv with e1 e2 e3
    subst e1; subst e3
    exact ⟨k, cur, rfl, hg, fun w' hg' => ⟨h1, .inr ⟨k, c, cur, rfl, hb, hg', rest⟩⟩⟩

/-- A ledger's step, joined to what went ahead. -/
theorem chain_each {s : Nat} {L : List (Nat × Array Value × TypeId)} {w0 w1 : World} {H : Nat → Prop} {a : AS} {t : TypeId} (h : St1 w0 s H a) (hL : Has w0 L) (hoff : ∀ x ∈ L, ¬ H x.1) (steps : List (Value × (AS → AS × Int))) (fs : List Value) (hfs : steps.map (·.1) = fs) (n : Nat) (hlen : fs.length = n) (hn : n < 1000)
    (B1 : w1.heap[w0.heap.size]? = some (.cells ⟨fs⟩ t (0, 0))) (m1 : Mod no w0 w1) (hst : ∀ p ∈ steps, StepV s ((w0.heap.size, ⟨fs⟩, t) :: L) p.1 p.2)
    (r : AS × Int) (hr : runs (steps.map (·.2)) a = r) (K : Value → World → Prop) (hK : ∀ w', St1P s H w0 r.1 w' → K (.int .i64 r.2) w') : Ca Tryz.prog 31 #[.slice (some ⟨w0.heap.size, 0, none⟩) n n] w1 K := by
  subst hfs
  subst hr
  refine each_ok B1 (by omega) K ?_ n hlen.symm
  refine chain_steps (List.mem_cons_self ..) steps hst w1 H a (h.no m1) ((hL.no m1).cons B1) (fun x hx hHx => ?_) K fun w' hp => hK w' (hp.pre m1)
  rcases List.mem_cons.1 hx with rfl | hx
  · have := (h.old _ hHx).2; simp only at this; omega
  · exact hoff x hx hHx

section
variable {w w' : World} {s g : Nat} {F G : Nat → Prop} {a : AS} {l : AL}
set_option maxHeartbeats 1000000 in
theorem flush_ok (h : LS w s g F G a l) (R : Value → World → Prop) (hR : ∀ w', LSP s g F G w (l.flush a).1 (l.flush a).2.1 w' → R (.int .i64 (l.flush a).2.2) w') : Ca Tryz.prog 13 #[.pointer (some ⟨g, 0, none⟩)] w R := by
  have hok := h.led.ok
  have hn := hok.n
  have hl1 := hok.l1
  have hl9 := hok.l9
  refine ca13 (some ⟨g, 0, none⟩) w R ?_
  refine newG _ w _ fun w0 B0 m0 z0 => ⟨_, by rw [cl B0]; rfl, ?_⟩
  refine may2_ok (h.no m0) _ ⟨_, rfl, ifNe (fun hne => ?_) fun heq => ?_⟩
  · have e : l.flush a = (a, l, l.may a) := by rw [AL.flush, if_pos (.inl hne)]
    rw [e] at hR
    exact hR w0 (LSP.of_no h m0)
  refine ⟨_, by rw [cl B0]; rfl, ?_⟩
  obtain ⟨p, c, h1, h2⟩ := h.led.at_
  refine ⟨_, _, _, by rw [cl1 (m0.at' h1)]; rfl, ifK_eq (fun hz => ?_) fun hnz => ?_⟩
  · have hw : l.waits = [] := List.length_eq_zero_iff.1 (by omega)
    have e : l.flush a = (a, l, l.may a) := by rw [AL.flush, if_pos (.inr hw)]
    rw [e] at hR
    exact hR w0 (LSP.of_no h m0)
  have hw : l.waits ≠ [] := fun e => hnz (by rw [e]; rfl)
  refine newG _ w0 _ fun w10 B10 m10 z10 => ?_
  have m010 := m0.trans m10
  refine ⟨some ⟨g, 0, none⟩, by rw [cl (m10.at' B0)]; rfl, _, _, _, by rw [cl1 (m010.at' h1)]; rfl, ?_⟩
  have hsz : ∀ i, sizeB sumB (l.waits.take i) ≤ i * 1048520 := fun i => by
    have : ∀ (xs : List Bs), (∀ x ∈ xs, x.length ≤ 1048512) → sizeB sumB xs ≤ xs.length * 1048520 := by
      intro xs
      induction xs with
      | nil => intro _; simp [sizeB, sealsB]
      | cons x xs ih =>
        intro hx
        have := ih fun y hy => hx y (List.mem_cons_of_mem _ hy)
        have hx1 := hx x (by simp)
        simp only [sizeB, sealsB, List.length_append, sealB_len, List.length_cons] at this ⊢
        omega
    have h3 := this (l.waits.take i) fun x hx => hok.b x (List.mem_of_mem_take hx)
    have h4 : (l.waits.take i).length ≤ i := by rw [List.length_take]; omega
    exact Nat.le_trans h3 (Nat.mul_le_mul_right _ h4)
  refine ⟨fun x w' => ∃ (i : Nat) (pb : Option Addr) (cb : Nat), x = i ∧ i ≤ l.waits.length ∧ w'.heap[w0.heap.size]? = some (.cells #[.slice pb (sizeB sumB (l.waits.take i)) cb] 27 (0, 0)) ∧ Els u8v 5 w' pb (sizeB sumB (l.waits.take i)) cb (sealsB sumB (l.waits.take i)) ∧
      (∀ k, rowB pb k → w0.heap.size < k) ∧ Mod no w0 w', fun x _ => ((l.waits.length : Int) - x).toNat, ⟨0, none, 0, rfl, Nat.zero_le _, B10, Els.nil _ _, fun k hk => by simp [rowB] at hk, m10⟩, ?_⟩
  rintro _ _ w20 ⟨i, pb, cb, rfl, hi, B20, E20, O20, m20⟩
  have h20 := h.no (m0.trans m20)
  refine ifK_dec (fun hlt => ?_) fun hge => ?_
  · have hil : i < l.waits.length := by omega
    obtain ⟨ad, sl, had, hcell, hEl, _⟩ := (h2.no (m0.trans m20)).get hil
    refine ⟨ad, had, by omega, by omega, sl.1, sl.2.1, sl.2.2, by rw [Int.toNat_natCast]; exact hcell, ?_⟩
    refine drewG w20 _ fun w25 m25 => ?_
    have hel25 := els_mod hEl m25 fun _ _ => id
    have hlen25 := hel25.len.1
    have hb25 := hok.b _ (List.getElem_mem hil)
    refine ⟨_, _, _, by rw [cl (m25.at' B20)]; rfl, ?_⟩
    refine seal_ok (h20.no m25).st.vars.wid (Rd.of_els hel25) (by omega) _ fun w30 pa ca e30 m30 o30 => ⟨_, _, _, rfl, by rw [cl1 (m30.at' (m25.at' B20))]; rfl, ?_⟩
    have m2030 := m25.trans m30
    have E30 := els_mod E20 m2030 fun _ _ => id
    have htk : l.waits.take (i + 1) = l.waits.take i ++ [l.waits[i]] := List.take_succ_eq_append_getElem hil
    have hss : sealsB sumB (l.waits.take (i + 1)) = sealsB sumB (l.waits.take i) ++ sealB sumB l.waits[i] := by rw [htk, sealsB_append]; simp [sealsB]
    have hs1 := hsz i
    have hal := e30.all u8one
    obtain ⟨pc, cc, w35, hrun, e35, m35, o35⟩ := E30.push (P := Tryz.prog) (t := 27) (ty := 27) u8one bytesLaid (ys := sealB sumB l.waits[i]) e30.len.1 hal.1 hal.2 (by omega)
    have hszs : sizeB sumB (l.waits.take (i + 1)) = sizeB sumB (l.waits.take i) + (sl.2.1 + 8) := by rw [sizeB, hss, List.length_append, sealB_len, ← hlen25]; rfl
    refine ⟨_, w35, hrun, _, _, _, rfl, ?_⟩
    have hb0 : ¬ rowB pb w0.heap.size := fun hk => by have := O20 _ hk; omega
    have B35 := m35.at (m2030.at' B20) hb0
    refine ⟨⟨_, by rw [cl1 B35]; rfl⟩, fz1 B35 _, fun w40 e40 => ?_⟩
    have m40 : Mod (on w0.heap.size) w35 w40 := by subst e40; exact Mod.set1 _ _ _ _
    have B40 : w40.heap[w0.heap.size]? = some (.cells #[.slice pc (sizeB sumB (l.waits.take i) + (sl.2.1 + 8)) cc] 27 (0, 0)) := by subst e40; rw [set1 B35]; rfl
    have z20 := lt_of_heap B20
    have z30 := m2030.size
    have O35 : ∀ k, rowB pc k → w0.heap.size < k := fun k hk => by
      rcases o35 k hk with h | h
      · exact O20 k h
      · omega
    have e1 : IntKind.i64.wrap ((i : Int) + 1) = ((i + 1 : Nat) : Int) := by rw [wrap64 (by omega) (by omega)]; rfl
    rw [e1]
    refine ⟨⟨i + 1, pc, cc, rfl, hil, by rw [hszs]; exact B40, ?_, O35, ?_⟩, ?_⟩
    · rw [hszs, hss]
      exact els_mod e35 m40 fun k hk he => by cases he; have := O35 _ hk; omega
    · exact ((m20.trans m2030).new m35 fun k hk => Nat.le_of_lt (O20 k hk)).new m40 fun k hk => by cases hk; exact Nat.le_refl _
    · show ((l.waits.length : Int) - ((i + 1 : Nat) : Int)).toNat < ((l.waits.length : Int) - (i : Int)).toNat
      omega
  have hi' : i = l.waits.length := by omega
  subst hi'
  rw [List.take_length] at B20 E20
  have m0_20 := m0.trans m20
  refine ⟨some ⟨g, 0, none⟩, by rw [cl (m20.at' B0)]; rfl, _, by rw [cl1 (m0_20.at' h1)]; rfl, ?_⟩
  refine name_ok h20.st.vars l.last _ fun w45 m45 => ⟨_, rfl, ?_⟩
  refine boxG _ _ w45 _ fun w49 B49 m49 z49 => ?_
  have m20_49 := m45.trans m49
  have hpos : 0 < sizeB sumB l.waits := by
    cases hlw : l.waits with
    | nil => exact absurd hlw hw
    | cons x r => simp only [sizeB, sealsB, List.length_append, sealB_len]; omega
  obtain ⟨kb, cur, hpb, hkb, hall⟩ := els_block E20 hpos
  have hkb0 : w0.heap.size < kb := O20 kb (by rw [hpb]; rfl)
  have hgw := (h.old g h.led.own).2
  have z45 := (m0_20.trans m45).size
  have h49 := h.no (m0_20.trans m20_49)
  obtain ⟨L, L49, hoff, q0, q1, q2, q3, q4⟩ : ∃ L, Has w49 L ∧ (∀ x ∈ L, ¬ F x.1) ∧ (w45.heap.size, #[Value.string (nameI l.last)], 9) ∈ L ∧ (w0.heap.size, #[Value.slice pb (sizeB sumB l.waits) cb], 27) ∈ L ∧ (w.heap.size, #[Value.pointer (some ⟨g, 0, none⟩)], 26) ∈ L ∧
      (g, #[Value.pointer (some ⟨s, 0, none⟩), .int .i64 l.part, .int .i64 l.last, .slice p l.waits.length c, .bool l.dead], 47) ∈ L ∧ (kb, cur, 5) ∈ L := by
    refine ⟨_, (((((Has.nil w49).cons (m20_49.at' hkb)).cons ((m0_20.trans m20_49).at' h1)).cons ((m20.trans m20_49).at' B0)).cons (m20_49.at' B20)).cons B49, fun x hx hF => ?_, by simp, by simp, by simp, by simp, by simp⟩
    have hxo := (h.st.old _ hF).2
    simp only [List.mem_cons, List.not_mem_nil, or_false] at hx
    rcases hx with rfl | rfl | rfl | rfl | rfl
    · simp only at hxo; omega
    · simp only at hxo; omega
    · simp only at hxo; omega
    · exact h.apart _ hF h.led.own
    · simp only at hxo; omega
  refine newG _ w49 _ fun w50 B50 m50 _ => ?_
  refine chain_each h49.st L49 hoff [(.func (.func 43) #[] #[.pointer (some ⟨w.heap.size, 0, none⟩), .pointer (some ⟨w45.heap.size, 0, none⟩), .pointer (some ⟨w0.heap.size, 0, none⟩)], fun x => x.write (nameI l.last) (sealsB sumB l.waits)),
    (.func (.func 45) #[] #[.pointer (some ⟨w.heap.size, 0, none⟩), .pointer (some ⟨w45.heap.size, 0, none⟩)], fun x => x.sync (nameI l.last))] _ rfl 2 rfl (by omega) B50 m50 ?_ (l.put a) (runs2 _ _ _) _ fun w52 hp => ⟨_, rfl, ?_⟩
  · intro q hq
    simp only [List.mem_cons, List.not_mem_nil, or_false] at hq
    rcases hq with rfl | rfl
    · exact step_write (List.mem_cons_of_mem _ q2) (List.mem_cons_of_mem _ q3) (List.mem_cons_of_mem _ q0) (nameI_size _) (List.mem_cons_of_mem _ q1) (fun w' hw' => Rd.of_els (hall w' (hw' _ (List.mem_cons_of_mem _ q4)))) fun k hk => by
        rw [hpb] at hk
        simp [rowB] at hk
        subst hk
        exact ⟨_, List.mem_cons_of_mem _ q4, rfl⟩
    · exact step_sync2 (List.mem_cons_of_mem _ q2) (List.mem_cons_of_mem _ q3) (List.mem_cons_of_mem _ q0) (nameI_size _)
  obtain ⟨F', s1, s2, s3⟩ := hp
  have L52 := L49.mod s3 hoff
  obtain ⟨F52, G52, h52, r1, r2, r3⟩ := LSP.pre (m0_20.trans m20_49) (h49.store ⟨F', s1, s2, s3⟩)
  rw [AL.flush, if_neg (fun hx => hx.elim (fun hx => hx heq) hw)] at hR
  clear L49 hoff h49 h20 B50 m50 hall hkb B49 B20 E20 B10 m20_49 m49 m45 hsz
  refine ifNe (fun hne => ?_) fun heq2 => ?_
  · rw [if_pos hne] at hR
    refine ⟨_, by rw [cl (L52 _ q2)]; rfl, ?_⟩
    exact told2_ok h52 _ _ fun w56 hp3 => ⟨_, rfl, hR w56 (LSP.join r1 r2 r3 hp3)⟩
  rw [if_neg (by omega)] at hR
  obtain ⟨p5, c5, k1, k2⟩ := h52.led.at_
  refine ⟨some ⟨g, 0, none⟩, by rw [cl (L52 _ q2)]; rfl, ⟨_, by rw [cl2 k1]; rfl⟩, fz2 k1 _ _, fun w61 e61 => ?_⟩
  have m61 : Mod (on g) w52 w61 := by subst e61; exact Mod.set2 _ _ _ _ _
  have B61 : LAt w61 g s l.part l.last none 0 0 l.dead := by subst e61; rw [LAt, set2 k1]; rfl
  clear e61
  obtain ⟨F61, G61, h61, t1, t2, t3⟩ := LSP.join r1 r2 r3 (h52.mine (m := { l with waits := [] }) (G' := G52) ⟨⟨none, 0, B61, BIn.nil _ _⟩, h52.led.own, ⟨hok.l1, hok.l9, hok.p1, hok.p2, Nat.zero_le _, fun _ h => by cases h⟩⟩ (m61.mono fun k _ hk => by cases hk; exact h52.led.own) fun _ => .inl)
  have P61 := m61.at (L52 _ q2) (fun e => by simp only [on] at e; omega)
  have N61 := m61.at (L52 _ q0) (fun e => by simp only [on] at e; omega)
  refine drewG w61 _ fun w62 m62 => ?_
  refine ⟨some ⟨g, 0, none⟩, by rw [cl (m62.at' P61)]; rfl, _, by rw [cl1 (m62.at' B61)]; rfl, _, by rw [cl (m62.at' N61)]; rfl, ?_⟩
  refine read_ok (h61.no m62).st.st _ (by have := nameI_size l.last; omega) _ fun w68 p8 n8 c8 e8 m8 _ => ⟨_, _, _, _, rfl, ?_⟩
  have m68 := m62.trans m8
  have hn8 := e8.len.1
  refine ⟨some ⟨g, 0, none⟩, by rw [cl (m68.at' P61)]; rfl, _, by rw [cl1 (m68.at' B61)]; rfl, ifK_dec (fun hle => ?_) fun hgt => ?_⟩
  · rw [if_pos (.inl (by omega))] at hR
    exact hR w68 (LSP.post ⟨F61, G61, h61, t1, t2, t3⟩ m68)
  refine ⟨some ⟨g, 0, none⟩, by rw [cl (m68.at' P61)]; rfl, _, by rw [cl1 (m68.at' B61)]; rfl, ifK_dec (fun hle => ?_) fun hgt2 => ?_⟩
  · rw [if_pos (.inr (by omega))] at hR
    exact hR w68 (LSP.post ⟨F61, G61, h61, t1, t2, t3⟩ m68)
  rw [if_neg (by omega)] at hR
  refine ⟨_, by rw [cl (m68.at' P61)]; rfl, ?_⟩
  exact turn_ok (h61.no m68) (by simp only; omega) _ fun w81 hp4 => ⟨_, rfl, hR w81 (LSP.join t1 t2 t3 (hp4.pre m68))⟩
end
end Go.Proofs.YtgjdandnncjegaaGreatDoor

/- Contracts of ledger's clean, Parts, and of the steps that Mark takes. -/
namespace Go.Proofs.YtgjdandnncjegaaGreatDoor
open Go Go.Proofs.YtgjdandnncjegaaGreatDoor.St

section
variable {w w' : World} {s g : Nat} {F G : Nat → Prop} {a : AS} {l : AL}
theorem clean_ok (h : LS w s g F G a l) (R : Value → World → Prop) (hR : ∀ w', LSP s g F G w (a.clean l.last).1 l w' → R (.int .i64 (a.clean l.last).2) w') : Ca Tryz.prog 61 #[.pointer (some ⟨g, 0, none⟩)] w R := by
  obtain ⟨p, c, h1, h2⟩ := h.led.at_
  refine ca61 (some ⟨g, 0, none⟩) w R ?_
  refine ⟨_, by rw [cl1 h1]; rfl, ?_⟩
  refine parts2_ok h.st 1 _ fun w3 p4 c6 e3 m3 n3 => ⟨p4, _, c6, rfl, ?_⟩
  have h3 := h.no m3
  have hg : ¬ F g := fun hf => h.apart g hf h.led.own
  have hall := e3.all intone
  have hoff : ∀ k, rowB p4 k → ¬ F k := fun k hk hf => by have := n3 k hk; have := (h.st.old k hf).2; omega
  refine ⟨fun x w' => ∃ (i : Nat) (a' : AS) (F' : Nat → Prop), x = i ∧ i ≤ (a.partsL 1).length ∧ St1 w' s F' a' ∧ (∀ k, F' k → F k ∨ w3.heap.size ≤ k) ∧ Mod F w3 w' ∧ AS.drops l.last ((a.partsL 1).drop i) a' = AS.drops l.last (a.partsL 1) a,
    fun x _ => (((a.partsL 1).length : Int) - x).toNat, ⟨0, a, F, rfl, Nat.zero_le _, h3.st, fun _ => .inl, Mod.refl _ _, rfl⟩, ?_⟩
  rintro _ _ w11 ⟨i, a', F', rfl, hi, st', hF', m11, hdr⟩
  have B11 := m11.at (m3.at' h1) hg
  have hg' : ¬ F' g := fun hf => by
    rcases hF' g hf with h4 | h4
    · exact hg h4
    · have := (h.old g h.led.own).2; have := m3.size; omega
  refine ifK_dec (fun hlt => ?_) fun hge => ?_
  · have hil : i < (a.partsL 1).length := by omega
    obtain ⟨ad, had⟩ : ∃ ad, p4 = some ad := by
      cases hp : p4 with
      | none => have := (hall.2 hp).1; omega
      | some ad => exact ⟨ad, rfl⟩
    have hcell : w11.cell? (Addr.add ad (Int.toNat (i : Int) * 1)) = some (.int .i64 (a.partsL 1)[i]) := by
      have e11 : Els (Value.int .i64) 3 w11 p4 (a.partsL 1).length c6 (a.partsL 1) := row_mod e3 m11 hoff
      rw [Int.toNat_natCast, Nat.mul_one]
      exact (e11.all intone).1 ad had i _ (by rw [List.getElem?_map, List.getElem?_eq_getElem hil]; rfl)
    have e1 : IntKind.i64.wrap ((i : Int) + 1) = ((i + 1 : Nat) : Int) := by
      have := h.st.st.ok.dirN
      have h5 : (a.partsL 1).length ≤ 67108864 := by
        rw [AS.partsL, List.length_mergeSort]
        refine Nat.le_trans (numsOf_len _ _) ?_
        unfold AS.names
        split
        · simp
        · simpa using this
      rw [wrap64 (by omega) (by omega)]; omega
    have hmeas : (((a.partsL 1).length : Int) - ((i + 1 : Nat) : Int)).toNat < (((a.partsL 1).length : Int) - (i : Int)).toNat := by omega
    have hdrop : (a.partsL 1).drop i = (a.partsL 1)[i] :: (a.partsL 1).drop (i + 1) := List.drop_eq_getElem_cons hil
    rw [hdrop, AS.drops] at hdr
    rw [e1]
    refine ⟨ad, had, by omega, by omega, _, hcell, _, by rw [cl1 B11]; rfl, ifK_eq (fun heq => ?_) fun hne => ?_⟩
    · rw [if_pos heq] at hdr
      exact ⟨⟨i + 1, a', F', rfl, by omega, st', hF', m11, hdr⟩, hmeas⟩
    rw [if_neg hne] at hdr
    refine drewG w11 _ fun w16 m16 => ⟨_, by rw [cl1 (m16.at' B11)]; rfl, ?_⟩
    refine name_ok (st'.no m16).vars _ _ fun w20 m20 => ⟨_, rfl, by rw [cl2 (m20.at' (m16.at' B11))]; rfl, ?_⟩
    have m1620 := m16.trans m20
    refine drop_ok (st'.no m1620).st _ (by have := nameI_size (a.partsL 1)[i]; omega) _ fun w23 hp => ⟨_, rfl, ?_⟩
    obtain ⟨F2, s2, t1, t2⟩ := St1P.pre m1620 (St1P.of (st'.no m1620) hp st'.named.drop)
    have m323 : Mod F w3 w23 := m11.trans' t2 fun k hk hf => by
      rcases hF' k hf with h4 | h4
      · exact h4
      · omega
    have hF2 : ∀ k, F2 k → F k ∨ w3.heap.size ≤ k := fun k hk => by
      rcases t1 k hk with h4 | h4
      · exact hF' k h4
      · exact .inr (Nat.le_trans m11.size h4)
    refine ifNe (fun hne2 => ?_) fun heq2 => ?_
    · rw [if_pos hne2] at hdr
      have e : a.clean l.last = ((a'.drop (nameI (a.partsL 1)[i])).1, (a'.drop (nameI (a.partsL 1)[i])).2) := by rw [AS.clean, ← hdr, thn, if_neg hne2]
      rw [e] at hR
      exact hR w23 ((h3.store ⟨F2, s2, hF2, m323⟩).pre m3)
    · rw [if_neg (by omega)] at hdr
      exact ⟨⟨i + 1, _, F2, rfl, by omega, s2, hF2, m323, hdr⟩, hmeas⟩
  · rw [List.drop_of_length_le (by omega), AS.drops] at hdr
    have e : a.clean l.last = a'.commit := by rw [AS.clean, ← hdr, thn, if_pos rfl]
    rw [e] at hR
    refine ⟨_, by rw [cl1 B11]; rfl, ?_⟩
    refine commit_ok st'.st _ fun w28 hp => ⟨_, rfl, hR w28 ?_⟩
    obtain ⟨F2, s2, t1, t2⟩ := St1P.of st' hp st'.named.commit
    refine (h3.store ⟨F2, s2, fun k hk => ?_, m11.trans' t2 fun k hk hf => ?_⟩).pre m3
    · rcases t1 k hk with h4 | h4
      · exact hF' k h4
      · exact .inr (Nat.le_trans m11.size h4)
    · rcases hF' k hf with h4 | h4
      · exact h4
      · omega
theorem partsM_ok (h : LS w s g F G a l) (R : Value → World → Prop) (hR : ∀ w' p n c, n = (l.parts a).length → Mod no w w' → R (.slice p n c) w') : Ca Tryz.prog 20 #[.pointer (some ⟨g, 0, none⟩)] w R := by
  obtain ⟨p, c, h1, h2⟩ := h.led.at_
  refine ca20 (some ⟨g, 0, none⟩) w R ?_
  refine may2_ok h _ ⟨_, rfl, ifNe (fun hne => ?_) fun heq => ?_⟩
  · refine (ifK_of (fun h => by cases h) (fun _ => ?_) : ifK false _ _)
    have hl := h.led.ok.l1
    refine ⟨_, by rw [cl1 h1]; rfl, ifK_eq (fun hz => by omega) fun _ => ⟨_, by rw [cl1 h1]; rfl, on2_ok h.st.st _ ⟨_, rfl, ?_⟩⟩⟩
    cases hd : a.dark with
    | true => exact (ifK_of (fun _ => hR w _ _ _ (by rw [AL.parts, if_pos hd, List.length_nil]) (Mod.refl _ _)) (fun h => by cases h) : ifK true _ _)
    | false =>
      refine (ifK_of (fun h => by cases h) (fun _ => ?_) : ifK false _ _)
      refine ⟨_, by rw [cl1 h1]; rfl, parts2_ok h.st 1 _ fun w13 p4 c6 e3 m3 _ => ⟨_, _, _, rfl, hR _ _ _ _ (by rw [AL.parts, if_neg (by rw [hd]; simp)]) m3⟩⟩
  · have hd : a.dark = false := by
      rw [AL.may] at heq
      split at heq
      · cases heq
      · rename_i hx
        cases hd : a.dark with
        | true => exact absurd (.inr hd) hx
        | false => rfl
    refine ⟨_, by rw [cl1 h1]; rfl, parts2_ok h.st 1 _ fun w13 p4 c6 e3 m3 _ => ⟨_, _, _, rfl, hR _ _ _ _ (by rw [AL.parts, if_neg (by rw [hd]; simp)]) m3⟩⟩
end
end Go.Proofs.YtgjdandnncjegaaGreatDoor

/- Contract of ledger's Mark. -/
namespace Go.Proofs.YtgjdandnncjegaaGreatDoor
open Go Go.Proofs.YtgjdandnncjegaaGreatDoor.St

section
variable {s g : Nat} {L : List (Nat × Array Value × TypeId)} {b0 b1 b2 : Nat} {next : Int} {x1 x2 x3 x4 : Value}
theorem mark1 (h0 : (b0, #[.pointer (some ⟨g, 0, none⟩)], 26) ∈ L) (hg : (g, #[.pointer (some ⟨s, 0, none⟩), x1, x2, x3, x4], 47) ∈ L) :
    StepV s L (.func (.func 53) #[] #[.pointer (some ⟨b0, 0, none⟩)]) fun a => if (a.read nComing).2 ≠ 0 then (a, 0) else a.drop nComing := by
  intro w H a h hL hs R hR
  refine (show Ca Tryz.prog _ _ w R from ?_)
  refine ca53 (some ⟨b0, 0, none⟩) w R ?_
  refine ⟨some ⟨g, 0, none⟩, by rw [cl (hL _ h0)]; rfl, _, by rw [cl1 (hL _ hg)]; rfl, ?_⟩
  refine read_ok h.st nComing (by decide) _ fun w5 p6 n7 n8 e5 m5 _ => ⟨_, _, _, _, rfl, ifNe (fun hne => ?_) fun heq => ?_⟩
  · simp only [if_pos hne] at hR
    exact hR w5 (St1P.of_no h m5)
  · simp only [if_neg (show ¬ (a.read nComing).2 ≠ 0 by simpa using heq)] at hR
    have L5 := hL.no m5
    refine ⟨some ⟨g, 0, none⟩, by rw [cl (L5 _ h0)]; rfl, _, by rw [cl1 (L5 _ hg)]; rfl, ?_⟩
    exact drop_ok (h.no m5).st nComing (by decide) _ fun w13 hp => ⟨_, rfl, hR w13 ((St1P.of (h.no m5) hp h.named.drop).pre m5)⟩
theorem mark2 (h0 : (b0, #[.pointer (some ⟨g, 0, none⟩)], 26) ∈ L) (hg : (g, #[.pointer (some ⟨s, 0, none⟩), x1, x2, x3, x4], 47) ∈ L) :
    StepV s L (.func (.func 55) #[] #[.pointer (some ⟨b0, 0, none⟩)]) fun a => a.make nComing := by
  intro w H a h hL hs R hR
  refine (show Ca Tryz.prog _ _ w R from ?_)
  refine ca55 (some ⟨b0, 0, none⟩) w R ?_
  refine ⟨some ⟨g, 0, none⟩, by rw [cl (hL _ h0)]; rfl, _, by rw [cl1 (hL _ hg)]; rfl, ?_⟩
  exact make_ok h.st nComing (by decide) _ fun w13 hp => ⟨_, rfl, hR w13 (St1P.of h hp (h.named.make (by decide)))⟩
theorem mark3 (h0 : (b0, #[.pointer (some ⟨g, 0, none⟩)], 26) ∈ L) (hg : (g, #[.pointer (some ⟨s, 0, none⟩), x1, x2, x3, x4], 47) ∈ L)
    {ba : Option Addr} {bl bc : Nat} {bs : Bs} {tb : TypeId} (hb : (b1, #[.slice ba bl bc], tb) ∈ L) (hr : ∀ w, Has w L → Rd w ba bl bc bs) (ho : ∀ k, rowB ba k → ∃ x ∈ L, x.1 = k) :
    StepV s L (.func (.func 56) #[] #[.pointer (some ⟨b0, 0, none⟩), .pointer (some ⟨b1, 0, none⟩)]) fun a => a.write nComing bs := by
  intro w H a h hL hs R hR
  refine (show Ca Tryz.prog _ _ w R from ?_)
  refine ca56 (some ⟨b0, 0, none⟩) (some ⟨b1, 0, none⟩) w R ?_
  refine drewG w _ fun w0 m0 => ?_
  have L0 := hL.no m0
  refine ⟨some ⟨g, 0, none⟩, by rw [cl (L0 _ h0)]; rfl, _, by rw [cl1 (L0 _ hg)]; rfl, _, _, _, by rw [cl (L0 _ hb)]; rfl, ?_⟩
  exact write_ok (h.no m0).st nComing (by decide) (hr w0 L0) (fun _ k hk hH => by obtain ⟨x, hx, rfl⟩ := ho k hk; exact hs x hx hH) _ fun w13 hp => ⟨_, rfl, hR w13 ((St1P.of (h.no m0) hp (h.named.write _)).pre m0)⟩
theorem mark4 (h0 : (b0, #[.pointer (some ⟨g, 0, none⟩)], 26) ∈ L) (hg : (g, #[.pointer (some ⟨s, 0, none⟩), x1, x2, x3, x4], 47) ∈ L) :
    StepV s L (.func (.func 57) #[] #[.pointer (some ⟨b0, 0, none⟩)]) fun a => a.sync nComing := by
  intro w H a h hL hs R hR
  refine (show Ca Tryz.prog _ _ w R from ?_)
  refine ca57 (some ⟨b0, 0, none⟩) w R ?_
  refine ⟨some ⟨g, 0, none⟩, by rw [cl (hL _ h0)]; rfl, _, by rw [cl1 (hL _ hg)]; rfl, ?_⟩
  exact sync_ok h.st nComing (by decide) _ fun w13 hp => ⟨_, rfl, hR w13 (St1P.of h hp h.named.sync)⟩
theorem mark5 (h0 : (b0, #[.pointer (some ⟨g, 0, none⟩)], 26) ∈ L) (hg : (g, #[.pointer (some ⟨s, 0, none⟩), x1, x2, x3, x4], 47) ∈ L) (hn : (b1, #[.int .i64 next], 3) ∈ L) :
    StepV s L (.func (.func 58) #[] #[.pointer (some ⟨b0, 0, none⟩), .pointer (some ⟨b1, 0, none⟩)]) fun a => a.make (nameI next) := by
  intro w H a h hL hs R hR
  refine (show Ca Tryz.prog _ _ w R from ?_)
  refine ca58 (some ⟨b0, 0, none⟩) (some ⟨b1, 0, none⟩) w R ?_
  refine drewG w _ fun w0 m0 => ?_
  have L0 := hL.no m0
  refine ⟨some ⟨g, 0, none⟩, by rw [cl (L0 _ h0)]; rfl, _, by rw [cl1 (L0 _ hg)]; rfl, _, by rw [cl (L0 _ hn)]; rfl, ?_⟩
  refine name_ok (h.vars.no m0) next _ fun w8 m8 => ⟨_, rfl, ?_⟩
  have L8 := L0.no m8
  have m08 := m0.trans m8
  refine ⟨by rw [cl1 (L8 _ h0)]; rfl, by rw [cl2 (L8 _ hg)]; rfl, ?_⟩
  exact make_ok (h.no m08).st _ (by have := nameI_size next; omega) _ fun w13 hp => ⟨_, rfl, hR w13 ((St1P.of (h.no m08) hp (h.named.make (nameI_size next))).pre m08)⟩
theorem mark6 (h0 : (b0, #[.pointer (some ⟨g, 0, none⟩)], 26) ∈ L) (hg : (g, #[.pointer (some ⟨s, 0, none⟩), x1, x2, x3, x4], 47) ∈ L) :
    StepV s L (.func (.func 59) #[] #[.pointer (some ⟨b0, 0, none⟩)]) fun a => a.move nComing nCheck := by
  intro w H a h hL hs R hR
  refine (show Ca Tryz.prog _ _ w R from ?_)
  refine ca59 (some ⟨b0, 0, none⟩) w R ?_
  refine ⟨some ⟨g, 0, none⟩, by rw [cl (hL _ h0)]; rfl, _, by rw [cl1 (hL _ hg)]; rfl, ?_⟩
  exact move_ok h.st nComing nCheck (by decide) (by decide) _ fun w13 hp => ⟨_, rfl, hR w13 (St1P.of h hp (h.named.move (by decide)))⟩
end
theorem thn_assoc (x : AS × Int) (f k : AS → AS × Int) : thn (thn x f) k = thn x fun a => thn (f a) k := by
  unfold thn
  split <;> rfl
theorem runs_marks (next : Int) (check : Bs) (a : AS) : runs [fun a => if (a.read nComing).2 ≠ 0 then (a, 0) else a.drop nComing, fun a => a.make nComing, fun a => a.write nComing (sealB sumB (putN 8 next.toNat ++ check)), fun a => a.sync nComing,
    fun a => a.make (nameI next), fun a => a.move nComing nCheck, fun a => a.commit] a = a.marks next check := by
  have e : ∀ (f : AS → AS × Int) r, runs (f :: r) = fun a => thn (f a) (runs r) := fun f r => funext fun _ => rfl
  have e0 : runs [] = fun a => (a, 0) := funext fun _ => rfl
  rw [AS.marks]
  simp only [thn_assoc, e, e0, thn_pure]

section
variable {w w' : World} {s g : Nat} {F G : Nat → Prop} {a : AS} {l : AL}
set_option maxHeartbeats 1000000 in
theorem mark_ok (h : LS w s g F G a l) {ba : Option Addr} {bl bc : Nat} {bs : Bs} (hb : Rd w ba bl bc bs) (hbo : 0 < bl → ∀ k, rowB ba k → ¬ (F k ∨ G k)) (R : Value → World → Prop) (hR : ∀ w', LSP s g F G w (l.mark a bs).1 (l.mark a bs).2.1 w' → R (.int .i64 (l.mark a bs).2.2) w') :
    Ca Tryz.prog 19 #[.pointer (some ⟨g, 0, none⟩), .slice ba bl bc] w R := by
  have hbl := hb.len
  refine ca19 (some ⟨g, 0, none⟩) ba bl bc w R ?_
  refine newG _ w _ fun w0 B0 m0 z0 => ⟨_, by rw [cl B0]; rfl, ?_⟩
  have hgw := (h.old g h.led.own).2
  rw [AL.mark] at hR
  refine may2_ok (h.no m0) _ ⟨_, rfl, ifNe (fun hne => ?_) fun heq => ?_⟩
  · rw [if_pos hne] at hR
    exact hR w0 (LSP.of_no h m0)
  rw [if_neg (by omega)] at hR
  refine ifK_dec (fun hlt => ?_) fun hge => ?_
  · rw [if_pos (by omega)] at hR
    exact hR w0 (LSP.of_no h m0)
  rw [if_neg (by omega)] at hR
  refine ⟨_, by rw [cl B0]; rfl, ?_⟩
  refine flush_ok (h.no m0) _ fun w7 hp7 => ⟨_, rfl, ?_⟩
  obtain ⟨F7, G7, h7, r1, r2, r3⟩ := hp7
  have r1' : ∀ k, F7 k → F k ∨ w.heap.size ≤ k := fun k hk => (r1 k hk).imp id (Nat.le_trans m0.size)
  have r2' : ∀ k, G7 k → G k ∨ w.heap.size ≤ k := fun k hk => (r2 k hk).imp id (Nat.le_trans m0.size)
  have r3' : Mod (fun k => F k ∨ G k) w w7 := m0.no_trans r3
  have hw0 : ¬ (F w.heap.size ∨ G w.heap.size) := fun hx => by
    rcases hx with hx | hx
    · have := (h.st.old _ hx).2; omega
    · have := (h.old _ hx).2; omega
  have B7 := r3.at B0 hw0
  have hb7 : Rd w7 ba bl bc bs := hb.mod' r3' hbo
  generalize l.flush a = fl at *
  obtain ⟨a7, l7, e7⟩ := fl
  dsimp only at h7 hR ⊢
  refine ifNe (fun hne => ?_) fun heq7 => ?_
  · rw [if_pos hne] at hR
    exact hR w7 ⟨F7, G7, h7, r1', r2', r3'⟩
  rw [if_neg (by omega)] at hR
  obtain ⟨p7, c7, k1, k2⟩ := h7.led.at_
  have hl1 := h7.led.ok.l1
  have hl9 := h7.led.ok.l9
  refine ⟨some ⟨g, 0, none⟩, by rw [cl B7]; rfl, _, by rw [cl1 k1]; rfl, ifK_dec (fun h9 => ?_) fun h9 => ?_⟩
  · rw [if_pos (by omega)] at hR
    exact hR w7 ⟨F7, G7, h7, r1', r2', r3'⟩
  rw [if_neg (by omega)] at hR
  refine ⟨some ⟨g, 0, none⟩, by rw [cl B7]; rfl, _, by rw [cl1 k1]; rfl, ?_⟩
  have e1 : IntKind.i64.wrap (l7.last + 1) = l7.last + 1 := wrap64 (by omega) (by omega)
  rw [e1]
  refine boxG _ _ w7 _ fun w17 B17 m17 z17 => ⟨_, by rw [cl B17]; rfl, ?_⟩
  have e2 : IntKind.u64.wrap (l7.last + 1) = (((l7.last + 1).toNat : Nat) : Int) := by rw [IntKind.wrap_u64]; omega
  rw [e2]
  refine put_ok (h7.no m17).st.vars.wid (Rd.nil0 w17) (by omega) 8 (by decide) _ _ fun w20 p21 c23 e20 m20 o20 => ⟨_, _, _, rfl, ?_⟩
  have hb20 := (hb7.no m17).no m20
  obtain ⟨p26, c28, w25, hrun, e25, m25, o25⟩ := e20.push (P := Tryz.prog) (t := 27) (ty := 27) u8one bytesLaid (ys := bs) hb20.len hb20.all hb20.nil (by omega)
  rw [List.nil_append] at e25
  refine ⟨_, w25, hrun, _, _, _, rfl, ?_⟩
  have m7_25 : Mod no w7 w25 := (m17.trans m20).new m25 fun k hk => Nat.le_trans m17.size (o20 k hk)
  refine seal_ok (h7.no m7_25).st.vars.wid (Rd.of_els e25) (by omega) _ fun w30 p31 c33 e30 m30 o30 => ⟨_, _, _, rfl, ?_⟩
  refine boxG _ _ w30 _ fun w36 B36 m36 z36 => ?_
  have m7_36 := (m7_25.trans m30).trans m36
  have h36 := h7.no m7_36
  have z7 := r3'.size
  have z730 := (m7_25.trans m30).size
  have z725 := m7_25.size
  obtain ⟨kb, cur, hpb, hkb, hall⟩ := els_block e30 (by omega)
  have hkb0 : w7.heap.size ≤ kb := Nat.le_trans z725 (o30 kb (by rw [hpb]; rfl))
  have B17' := (((m20.trans (Mod.refl no _)).new m25 fun k hk => o20 k hk).trans (m30.trans m36)).at' B17
  obtain ⟨L, L36, hoff, q0, q1, q2, q3, q4⟩ : ∃ L, Has w36 L ∧ (∀ x ∈ L, ¬ F7 x.1) ∧ (w7.heap.size, #[Value.int .i64 (l7.last + 1)], 3) ∈ L ∧ (w30.heap.size, #[Value.slice p31 (0 + 8 + bl + 8) c33], 27) ∈ L ∧ (w.heap.size, #[Value.pointer (some ⟨g, 0, none⟩)], 26) ∈ L ∧
      (g, #[Value.pointer (some ⟨s, 0, none⟩), .int .i64 l7.part, .int .i64 l7.last, .slice p7 l7.waits.length c7, .bool l7.dead], 47) ∈ L ∧ (kb, cur, 5) ∈ L := by
    refine ⟨_, (((((Has.nil w36).cons (m36.at' hkb)).cons (m7_36.at' k1)).cons (m7_36.at' B7)).cons B36).cons B17', fun x hx hF => ?_, by simp, by simp, by simp, by simp, by simp⟩
    have hxo := (h7.st.old _ hF).2
    simp only [List.mem_cons, List.not_mem_nil, or_false] at hx
    rcases hx with rfl | rfl | rfl | rfl | rfl
    · simp only at hxo; omega
    · simp only at hxo; omega
    · rcases r1' _ hF with hx | hx
      · exact hw0 (.inl hx)
      · rcases r1 _ hF with hx | hx
        · exact hw0 (.inl hx)
        · simp only at hx; omega
    · exact h7.apart _ hF h7.led.own
    · simp only at hxo; omega
  refine ⟨some ⟨g, 0, none⟩, by rw [cl (L36 _ q2)]; rfl, _, by rw [cl1 (L36 _ q3)]; rfl, ?_⟩
  refine newG _ w36 _ fun w40 B40 m40 _ => ?_
  refine chain_each h36.st L36 hoff [(.func (.func 53) #[] #[.pointer (some ⟨w.heap.size, 0, none⟩)], fun a => if (a.read nComing).2 ≠ 0 then (a, 0) else a.drop nComing),
    (.func (.func 55) #[] #[.pointer (some ⟨w.heap.size, 0, none⟩)], fun a => a.make nComing),
    (.func (.func 56) #[] #[.pointer (some ⟨w.heap.size, 0, none⟩), .pointer (some ⟨w30.heap.size, 0, none⟩)], fun a => a.write nComing (sealB sumB (putN 8 (l7.last + 1).toNat ++ bs))),
    (.func (.func 57) #[] #[.pointer (some ⟨w.heap.size, 0, none⟩)], fun a => a.sync nComing),
    (.func (.func 58) #[] #[.pointer (some ⟨w.heap.size, 0, none⟩), .pointer (some ⟨w7.heap.size, 0, none⟩)], fun a => a.make (nameI (l7.last + 1))),
    (.func (.func 59) #[] #[.pointer (some ⟨w.heap.size, 0, none⟩)], fun a => a.move nComing nCheck),
    (.func (.func 37) #[.pointer (some ⟨s, 0, none⟩)] #[], fun a => a.commit)] _ rfl 7 rfl (by omega) B40 m40 ?_ (a7.marks (l7.last + 1) bs) (runs_marks _ _ _) _ fun w42 hp => ⟨_, rfl, ?_⟩
  · have mem := fun {x : Nat × Array Value × TypeId} (hx : x ∈ L) {y : Nat × Array Value × TypeId} => List.mem_cons_of_mem y hx
    intro q hq
    simp only [List.mem_cons, List.not_mem_nil, or_false] at hq
    rcases hq with rfl | rfl | rfl | rfl | rfl | rfl | rfl
    · exact mark1 (mem q2) (mem q3)
    · exact mark2 (mem q2) (mem q3)
    · exact mark3 (mem q2) (mem q3) (mem q1) (fun w' hw' => Rd.of_els (hall w' (hw' _ (mem q4)))) fun k hk => by
        rw [hpb] at hk
        simp [rowB] at hk
        subst hk
        exact ⟨_, mem q4, rfl⟩
    · exact mark4 (mem q2) (mem q3)
    · exact mark5 (mem q2) (mem q3) (mem q0)
    · exact mark6 (mem q2) (mem q3)
    · exact step_commit _ _
  obtain ⟨F', s1, s2, s3⟩ := hp
  have L42 := L36.mod s3 hoff
  obtain ⟨F42, G42, h42, t1, t2, t3⟩ := LSP.join r1 r2 r3 (LSP.pre m7_36 (h36.store ⟨F', s1, s2, s3⟩))
  clear L36 hoff h36 B40 m40 hall hkb B36 e30 e25 B17 B17' e20
  refine ifNe (fun hne => ?_) fun heq2 => ?_
  · rw [if_pos hne] at hR
    refine ⟨_, by rw [cl (L42 _ q2)]; rfl, ?_⟩
    exact told2_ok h42 _ _ fun w56 hp3 => ⟨_, rfl, hR w56 (LSP.pre m0 (LSP.join t1 t2 t3 hp3))⟩
  rw [if_neg (by omega)] at hR
  obtain ⟨p5, c5, k3, k4⟩ := h42.led.at_
  refine ⟨some ⟨g, 0, none⟩, by rw [cl (L42 _ q2)]; rfl, _, by rw [cl (L42 _ q0)]; rfl, ⟨_, by rw [cl2 k3]; rfl⟩, fz2 k3 _ _, fun w52 e52 => ?_⟩
  have m52 : Mod (on g) w42 w52 := by subst e52; exact Mod.set2 _ _ _ _ _
  have B52 : LAt w52 g s l7.part (l7.last + 1) p5 l7.waits.length c5 l7.dead := by subst e52; rw [LAt, set2 k3]; rfl
  clear e52
  have hok7 := h7.led.ok
  obtain ⟨F52, G52, h52, v1, v2, v3⟩ := LSP.join t1 t2 t3 (h42.mine (m := { l7 with last := l7.last + 1 }) (G' := G42) ⟨⟨p5, c5, B52, rows_g k3 k4 m52⟩, h42.led.own, ⟨by simp only; omega, by simp only; omega, hok7.p1, hok7.p2, hok7.n, hok7.b⟩⟩ (m52.mono fun k _ hk => by cases hk; exact h42.led.own) fun _ => .inl)
  have P52 := m52.at (L42 _ q2) (fun e => by simp only [on] at e; omega)
  refine drewG w52 _ fun w53 m53 => ?_
  refine ⟨_, by rw [cl (m53.at' P52)]; rfl, _, by rw [cl (m53.at' P52)]; rfl, ?_⟩
  have hw52 : ¬ (F52 w.heap.size ∨ G52 w.heap.size) := fun hx => by
    rcases hx with hx | hx
    · rcases v1 _ hx with hx | hx
      · exact hw0 (.inl hx)
      · omega
    · rcases v2 _ hx with hx | hx
      · exact hw0 (.inr hx)
      · omega
  refine clean_ok (h52.no m53) _ fun w57 hp57 => ⟨_, rfl, ?_⟩
  obtain ⟨F57, G57, h57, u1, u2, u3⟩ := LSP.pre m53 hp57
  refine ⟨by rw [cl1 (u3.at P52 hw52)]; rfl, ?_⟩
  exact told2_ok h57 _ _ fun w60 hp60 => ⟨_, rfl, hR w60 (LSP.pre m0 (LSP.join v1 v2 v3 (LSP.join u1 u2 u3 hp60)))⟩
end
end Go.Proofs.YtgjdandnncjegaaGreatDoor

/- What a log's calls leave, whether or not the power fails in them: flush. In plain Lean; it names no program. -/
namespace Go.Proofs.YtgjdandnncjegaaGreatDoor
open Go Go.Proofs.YtgjdandnncjegaaGreatDoor.St

def fileL (all : List (Bs × Bs)) (i : Nat) : Bs × Bs := (all[i]?).getD ([], [])
theorem fileL_add {all : List (Bs × Bs)} {x : Bs × Bs} {i : Nat} (h : i < all.length) : fileL (all ++ [x]) i = fileL all i := by rw [fileL, fileL, List.getElem?_append_left h]
theorem fileL_new (all : List (Bs × Bs)) (x : Bs × Bs) : fileL (all ++ [x]) all.length = x := by simp [fileL]
theorem fileL_mod {all : List (Bs × Bs)} {g : Bs × Bs → Bs × Bs} {i j : Nat} (h : i ≠ j) : fileL (all.modify i g) j = fileL all j := by simp [fileL, h]
theorem fileL_at {all : List (Bs × Bs)} {g : Bs × Bs → Bs × Bs} {i : Nat} (h : i < all.length) : fileL (all.modify i g) i = g (fileL all i) := by simp [fileL, h]
theorem fileL_map {all : List (Bs × Bs)} {g : Bs × Bs → Bs × Bs} {i : Nat} (h : i < all.length) : fileL (all.map g) i = g (fileL all i) := by simp [fileL, h]

/-- A store that holds only what is sure: its log tells what Q says. -/
structure Aft (Q : Bs → List Bs → Prop) (a : AS) : Prop where
  ok : a.Ok
  sure : a.sure = a.dir
  synced : ∀ p ∈ a.dir, (fileL a.all p.2).2 = (fileL a.all p.2).1
  inj : Inj a.dir
  log : ∃ first chk PS tail, LogAt a.dir (fun i => (fileL a.all i).1) first chk PS tail ∧ Q chk PS.flatten
/-- What is sure of a store is a log that tells what Q says. -/
structure Sur (Q : Bs → List Bs → Prop) (a : AS) : Prop where
  ok : a.Ok
  on : a.dark = false
  synced : ∀ p ∈ a.sure, (fileL a.all p.2).2 = (fileL a.all p.2).1
  inj : Inj a.sure
  log : ∃ first chk PS, LogAt a.sure (fun i => (fileL a.all i).1) first chk PS [] ∧ Q chk PS.flatten
theorem failF_synced (keep : Int) (x : Bs × Bs) (h : x.2 = x.1) : failF keep x = x := by
  obtain ⟨y, z⟩ := x
  simp only at h
  subst h
  simp [failF]
theorem Sur.dur {Q : Bs → List Bs → Prop} {a : AS} (h : Sur Q a) : Dur a (Aft Q) := by
  intro c l
  have hok : ({ a with count := c, left := l } : AS).Ok := h.ok.of_eq rfl rfl rfl rfl
  have e : ({ a with count := c, left := l } : AS).fail a.keep = ⟨a.room, a.all.map (failF a.keep), a.sure, a.sure, true, c, l, a.keep⟩ := by rw [AS.fail, if_neg (by simp [h.on])]
  have hf : ∀ p ∈ a.sure, fileL (a.all.map (failF a.keep)) p.2 = fileL a.all p.2 := fun p hp => by rw [fileL_map (h.ok.sureI p hp), failF_synced _ _ (h.synced p hp)]
  have hok' := hok.fail a.keep
  rw [e] at hok' ⊢
  refine ⟨hok', rfl, fun p hp => by rw [hf p hp]; exact h.synced p hp, h.inj, ?_⟩
  obtain ⟨first, chk, PS, h1, h2⟩ := h.log
  exact ⟨first, chk, PS, [], h1.congr fun p hp => by show (fileL (a.all.map (failF a.keep)) p.2).1 = _; rw [hf p hp], h2⟩
theorem Sur.frame {Q : Bs → List Bs → Prop} {a b : AS} (h : Sur Q a) (hb : b.Ok) (on : b.dark = false) (hs : b.sure = a.sure) (hf : ∀ p ∈ a.sure, fileL b.all p.2 = fileL a.all p.2) : Sur Q b := by
  refine ⟨hb, on, fun p hp => ?_, by rw [hs]; exact h.inj, ?_⟩
  · rw [hs] at hp; rw [hf p hp]; exact h.synced p hp
  · obtain ⟨first, chk, PS, h1, h2⟩ := h.log
    refine ⟨first, chk, PS, ?_, h2⟩
    rw [hs]
    exact h1.congr fun p hp => by show (fileL b.all p.2).1 = _; rw [hf p hp]
/-- A store whose log is whole and sure; nothing else is there. -/
structure Nrm (a : AS) (first : Nat) (chk : Bs) (PS : List (List Bs)) : Prop where
  ok : a.Ok
  on : a.dark = false
  inj : Inj a.dir
  sure : a.sure = a.dir
  synced : ∀ p ∈ a.dir, (fileL a.all p.2).2 = (fileL a.all p.2).1
  log : LogAt a.dir (fun i => (fileL a.all i).1) first chk PS []
  nocom : dget a.dir nComing = none
  below : ∀ n, n < first → dget a.dir (nameL n) = none
section
variable {a : AS} {first : Nat} {chk : Bs} {PS : List (List Bs)} {Q : Bs → List Bs → Prop}
theorem Nrm.sur (h : Nrm a first chk PS) (hQ : Q chk PS.flatten) : Sur Q a :=
  ⟨h.ok, h.on, fun p hp => h.synced p (by rw [← h.sure]; exact hp), by rw [h.sure]; exact h.inj, first, chk, PS, by rw [h.sure]; exact h.log, hQ⟩
theorem inj_get {D : List (ByteArray × Nat)} (h : Inj D) {n m : ByteArray} {i : Nat} (hn : dget D n = some i) (hm : dget D m = some i) : n = m := by
  have h1 := dget_some hn
  have h2 := dget_some hm
  clear hn hm
  have : ∀ {D : List (ByteArray × Nat)}, (D.map (·.2)).Nodup → (n, i) ∈ D → (m, i) ∈ D → n = m := by
    intro D hd h1 h2
    induction D with
    | nil => cases h1
    | cons p r ih =>
      rw [List.map_cons, List.nodup_cons] at hd
      rcases List.mem_cons.1 h1 with e1 | h1 <;> rcases List.mem_cons.1 h2 with e2 | h2
      · rw [← e1] at e2; injection e2 with e2; exact e2.symm
      · exact absurd (List.mem_map.2 ⟨_, h2, by rw [← e1]⟩) hd.1
      · exact absurd (List.mem_map.2 ⟨_, h1, by rw [← e2]⟩) hd.1
      · exact ih hd.2 h1 h2
  exact this h h1 h2
theorem getD_append_left {α : Type} (l r : List α) (d : α) {j : Nat} (h : j < l.length) : (l ++ r).getD j d = l.getD j d := by
  rw [List.getD_eq_getElem?_getD, List.getD_eq_getElem?_getD, List.getElem?_append_left h]
theorem getD_snoc {α : Type} (l : List α) (x d : α) : (l ++ [x]).getD l.length d = x := by simp
/-- The last part's bytes become others. -/
theorem LogAt.last {D : List (ByteArray × Nat)} {cont cont' : Nat → Bs} {PS0 : List (List Bs)} {P P' : List Bs} {tail tl : Bs} (h : LogAt D cont first chk (PS0 ++ [P]) tl) (hi : Inj D) {i : Nat} (hg : dget D (nameL (first + PS0.length)) = some i)
    (hc : cont' i = sealsB sumB P' ++ tail) (hc' : ∀ j, j ≠ i → cont' j = cont j) (hP : ∀ b ∈ P', b.length ≤ 1048512) (ht : wholeB sumB tail = ([], 0)) : LogAt D cont' first chk (PS0 ++ [P']) tail := by
  have hl : (PS0 ++ [P']).length = (PS0 ++ [P]).length := by simp
  refine ⟨h.named, h.rises, h.first1, by rw [hl]; exact h.last9, by simp, ?_, h.chkL, fun j hj => ?_, by rw [hl]; exact h.over, fun p hp => ?_, ht⟩
  · rcases h.check with h1 | ⟨k, h1, h2⟩
    · exact .inl h1
    · refine .inr ⟨k, h1, ?_⟩
      rw [hc' k fun e => ?_]
      · exact h2
      · subst e
        exact nameL_ne_check _ (inj_get hi hg h1)
  · rw [hl] at hj ⊢
    by_cases hj' : j < PS0.length
    · obtain ⟨k, h1, h2⟩ := h.part j hj
      refine ⟨k, h1, ?_⟩
      rw [hc' k fun e => ?_, h2, getD_append_left _ _ _ hj', getD_append_left _ _ _ hj', if_neg (by simp; omega), if_neg (by simp; omega)]
      subst e
      have := nameL_inj (inj_get hi hg h1)
      omega
    · simp only [List.length_append, List.length_singleton] at hj
      obtain rfl : j = PS0.length := by omega
      refine ⟨i, hg, ?_⟩
      rw [hc, getD_snoc, if_pos (by simp)]
  · rcases List.mem_append.1 hp with hp | hp
    · exact h.recs p (List.mem_append_left _ hp)
    · rw [List.mem_singleton] at hp
      subst hp
      exact hP
theorem LogAt.part_last {D : List (ByteArray × Nat)} {cont : Nat → Bs} {PS0 : List (List Bs)} {P : List Bs} (h : LogAt D cont first chk (PS0 ++ [P]) []) : ∃ i, dget D (nameL (first + PS0.length)) = some i ∧ cont i = sealsB sumB P := by
  obtain ⟨i, h1, h2⟩ := h.part PS0.length (by simp)
  refine ⟨i, h1, ?_⟩
  rw [h2, getD_snoc]
  simp
/-- A new part behind the last one. -/
theorem LogAt.more {D : List (ByteArray × Nat)} {cont cont' : Nat → Bs} (h : LogAt D cont first chk PS []) (h9 : first + PS.length + 1 ≤ 1000000000) {i : Nat} (hc : cont' i = []) (hc' : ∀ p ∈ D, cont' p.2 = cont p.2) :
    LogAt (dset (nameL (first + PS.length)) i D) cont' first chk (PS ++ [[]]) [] := by
  have hp : 0 < PS.length := List.length_pos_iff.2 h.ne
  have h1 := h.first1
  refine ⟨fun p hp => ?_, dset_rises h.rises, h.first1, by simp; omega, by simp, ?_, h.chkL, fun j hj => ?_, fun n hn => ?_, fun p hp => ?_, wholeB_stop sumB (by simp [openB])⟩
  · rcases mem_dset.1 hp with rfl | hp
    · exact .inr (.inr ⟨_, by omega, by omega, rfl⟩)
    · exact h.named p hp.1
  · rcases h.check with ⟨g1, g2⟩ | ⟨k, g1, g2⟩
    · exact .inl ⟨by rw [dget_dset h.rises, if_neg fun e => nameL_ne_check _ e.symm]; exact g1, g2⟩
    · exact .inr ⟨k, by rw [dget_dset h.rises, if_neg fun e => nameL_ne_check _ e.symm]; exact g1, by rw [hc' _ (dget_some g1)]; exact g2⟩
  · simp only [List.length_append, List.length_singleton] at hj
    rw [dget_dset h.rises]
    by_cases hj' : j < PS.length
    · obtain ⟨k, g1, g2⟩ := h.part j hj'
      rw [if_neg fun e => by have := nameL_inj e; omega, getD_append_left _ _ _ hj', if_neg (by simp; omega)]
      exact ⟨k, g1, by rw [hc' _ (dget_some g1), g2]; simp⟩
    · obtain rfl : j = PS.length := by omega
      rw [if_pos rfl, getD_snoc]
      exact ⟨i, rfl, by rw [hc]; simp [sealsB]⟩
  · simp only [List.length_append, List.length_singleton] at hn
    rw [dget_dset h.rises, if_neg fun e => by have := nameL_inj e; omega]
    exact h.over n (by omega)
  · rcases List.mem_append.1 hp with hp | hp
    · exact h.recs p hp
    · rw [List.mem_singleton] at hp
      subst hp
      intro b hb
      cases hb
end

/-! ### States -/
section
variable {a : AS} {c l : Int}
theorem ok_make (h : a.Ok) {n : ByteArray} (hg : goodB n = true) (hr : (a.need : Int) + 16 ≤ a.room) : (⟨a.room, a.all ++ [([], [])], dset n a.all.length a.dir, a.sure, false, c, l, a.keep⟩ : AS).Ok := (h.add hg (by omega)).of_eq rfl rfl rfl rfl
theorem ok_write (h : a.Ok) {n : ByteArray} {i : Nat} (hi : dget a.dir n = some i) (b : Bs) (hr : (a.need : Int) + b.length ≤ a.room) : (⟨a.room, a.all.modify i fun x => (x.1 ++ b, x.2), a.dir, a.sure, false, c, l, a.keep⟩ : AS).Ok := by
  have hia := h.dirI _ (dget_some hi)
  have h1 := a.need_mem (dget_some hi)
  have h2 := h.room1
  refine (h.upd i (fun x => (x.1 ++ b, x.2)) fun f hf => ?_).of_eq rfl rfl rfl rfl
  simp only [Option.mem_def] at hf
  have h3 := h.lens f (List.mem_of_getElem? hf)
  have h4 : a.len i = f.1.length := by rw [AS.len, AS.file, hf]; rfl
  simp only [List.length_append]
  simp only [h4] at h1
  exact ⟨by omega, h3.2⟩
theorem ok_sync (h : a.Ok) (i : Nat) : (⟨a.room, a.all.modify i fun x => (x.1, x.1), a.dir, a.sure, false, c, l, a.keep⟩ : AS).Ok :=
  (h.upd i (fun x => (x.1, x.1)) fun f hf => ⟨(h.lens f (List.mem_of_getElem? hf)).1, (h.lens f (List.mem_of_getElem? hf)).1⟩).of_eq rfl rfl rfl rfl
theorem ok_cut (h : a.Ok) (i k : Nat) : (⟨a.room, a.all.modify i fun x => (x.1.take k, x.2), a.dir, a.sure, false, c, l, a.keep⟩ : AS).Ok :=
  (h.upd i (fun x => (x.1.take k, x.2)) fun f hf => by
    have := h.lens f (List.mem_of_getElem? hf)
    simp only [List.length_take]
    omega).of_eq rfl rfl rfl rfl
theorem ok_drop (h : a.Ok) (n : ByteArray) : (⟨a.room, a.all, ddel n a.dir, a.sure, false, c, l, a.keep⟩ : AS).Ok := (h.del n).of_eq rfl rfl rfl rfl
theorem ok_move (h : a.Ok) {n to : ByteArray} {f : Nat} (hg : goodB to = true) (hf : dget a.dir n = some f) : (⟨a.room, a.all, dset to f (ddel n a.dir), a.sure, false, c, l, a.keep⟩ : AS).Ok := (h.mv hg hf).of_eq rfl rfl rfl rfl
theorem ok_commit (h : a.Ok) : (⟨a.room, a.all, a.dir, a.dir, false, c, l, a.keep⟩ : AS).Ok := h.commit.of_eq rfl rfl rfl rfl
end
theorem need_room {a : AS} {k : Nat} (ho : a.Ok) (hi : Inj a.dir) (hp : (phi a.all : Int) + k ≤ a.room) : (a.need : Int) + k ≤ a.room := by
  have := need_le_phi hi ho.dirI
  omega
end Go.Proofs.YtgjdandnncjegaaGreatDoor

/- What flush leaves of a log, whether or not the power fails in it. In plain Lean; it names no program. -/
namespace Go.Proofs.YtgjdandnncjegaaGreatDoor
open Go Go.Proofs.YtgjdandnncjegaaGreatDoor.St

theorem sealsB_size (l : List Bs) : (sealsB sumB l).length = sizeB sumB l := rfl
/-- A beginning of sealed records: some of them wholly, and a rest that is none. -/
theorem seals_take (l : List Bs) (hl : ∀ b ∈ l, b.length ≤ 1048512) (n : Nat) : ∃ k tail, k ≤ l.length ∧ (sealsB sumB l).take n = sealsB sumB (l.take k) ++ tail ∧ wholeB sumB tail = ([], 0) := by
  obtain ⟨k, h1, h2, h3, h4⟩ := whole_prefix sumB sumB_lt l (fun b hb => Nat.le_trans (hl b hb) (by omega)) n
  have hs : sealsB sumB l = sealsB sumB (l.take k) ++ sealsB sumB (l.drop k) := by rw [← sealsB_append, List.take_append_drop]
  have ht : (sealsB sumB l).take n = sealsB sumB (l.take k) ++ (sealsB sumB (l.drop k)).take (n - (sealsB sumB (l.take k)).length) := by
    rw [hs, List.take_append, List.take_of_length_le (show (sealsB sumB (l.take k)).length ≤ n from h2)]
  refine ⟨k, _, h1, ht, ?_⟩
  rw [ht, whole_seals sumB sumB_lt (l.take k) (fun b hb => Nat.le_trans (hl b (List.mem_of_mem_take hb)) (by omega))] at h4
  injection h4 with h5 h6
  have h7 : (wholeB sumB ((sealsB sumB (l.drop k)).take (n - (sealsB sumB (l.take k)).length))).1 = [] := List.append_right_eq_self.1 h5
  have h8 : (wholeB sumB ((sealsB sumB (l.drop k)).take (n - (sealsB sumB (l.take k)).length))).2 = 0 := by omega
  exact Prod.ext h7 h8

section
variable {a : AS} {first : Nat} {chk : Bs} {PS0 : List (List Bs)} {P W : List Bs} {Q : Bs → List Bs → Prop}
/-- Behind a Write to the last part: what a failure leaves. -/
theorem torn_dur (h : Nrm a first chk (PS0 ++ [P])) (hW : ∀ b ∈ W, b.length ≤ 1048512) {i : Nat} (hg : dget a.dir (nameL (first + PS0.length)) = some i) (hi : (fileL a.all i).1 = sealsB sumB P)
    (hQ : ∀ k, k ≤ W.length → Q chk (PS0.flatten ++ P ++ W.take k)) (c l : Int) (hok : (⟨a.room, a.all.modify i fun x => (x.1 ++ sealsB sumB W, x.2), a.dir, a.sure, false, c, l, a.keep⟩ : AS).Ok) :
    Dur ⟨a.room, a.all.modify i fun x => (x.1 ++ sealsB sumB W, x.2), a.dir, a.sure, false, c, l, a.keep⟩ (Aft Q) := by
  intro c' l'
  have hia := h.ok.dirI _ (dget_some hg)
  generalize hall : (a.all.modify i fun x => (x.1 ++ sealsB sumB W, x.2)) = all at *
  have hlen : all.length = a.all.length := by rw [← hall]; simp
  have hok2 : (⟨a.room, all, a.dir, a.sure, false, c', l', a.keep⟩ : AS).Ok := hok.of_eq rfl rfl rfl rfl
  show Aft Q ((⟨a.room, all, a.dir, a.sure, false, c', l', a.keep⟩ : AS).fail a.keep)
  have e : (⟨a.room, all, a.dir, a.sure, false, c', l', a.keep⟩ : AS).fail a.keep = ⟨a.room, all.map (failF a.keep), a.sure, a.sure, true, c', l', a.keep⟩ := rfl
  have hok3 := hok2.fail a.keep
  rw [e] at hok3 ⊢
  have hfi : fileL all i = (sealsB sumB P ++ sealsB sumB W, sealsB sumB P) := by
    rw [← hall, fileL_at hia, h.synced _ (dget_some hg), hi]
  obtain ⟨n, hn⟩ : ∃ n, failF a.keep (fileL all i) = (sealsB sumB P ++ (sealsB sumB W).take n, sealsB sumB P ++ (sealsB sumB W).take n) := by
    rw [hfi, failF, if_pos ⟨by simp, by simp⟩]
    refine ⟨min a.keep.toNat ((sealsB sumB P ++ sealsB sumB W).length - (sealsB sumB P).length), ?_⟩
    simp only [List.take_append, List.take_of_length_le (Nat.le_add_right (sealsB sumB P).length _), Nat.add_sub_cancel_left]
  obtain ⟨k, tail, hk, ht1, ht2⟩ := seals_take W hW n
  rw [ht1, ← List.append_assoc, ← sealsB_append] at hn
  have hf : ∀ j, j < all.length → j ≠ i → fileL (all.map (failF a.keep)) j = failF a.keep (fileL a.all j) := fun j hj hne => by
    rw [fileL_map hj, ← hall, fileL_mod fun e => hne e.symm]
  have hfi' : fileL (all.map (failF a.keep)) i = (sealsB sumB (P ++ W.take k) ++ tail, sealsB sumB (P ++ W.take k) ++ tail) := by
    rw [fileL_map (by omega), hn]
  have hfd : ∀ p ∈ a.dir, p.2 ≠ i → fileL (all.map (failF a.keep)) p.2 = fileL a.all p.2 := fun p hp hne => by
    rw [hf p.2 (by rw [hlen]; exact h.ok.dirI p hp) hne, failF_synced _ _ (h.synced p hp)]
  refine ⟨hok3, rfl, fun p hp => ?_, by simp only [h.sure]; exact h.inj, first, chk, PS0 ++ [P ++ W.take k], tail, ?_, ?_⟩
  · simp only [h.sure] at hp
    by_cases hpi : p.2 = i
    · rw [hpi, hfi']
    · rw [hfd p hp hpi]; exact h.synced p hp
  · show LogAt a.sure _ _ _ _ _
    rw [h.sure]
    refine (h.log.congr (cont' := fun j => if j = i then sealsB sumB P else (fileL (all.map (failF a.keep)) j).1) fun p hp => ?_).last h.inj hg (by simp only; rw [hfi']) (fun j hj => by simp only; rw [if_neg hj]) (fun b hb => ?_) ht2
    · by_cases hpi : p.2 = i
      · show (if p.2 = i then _ else _) = _
        rw [if_pos hpi, hpi, hi]
      · show (if p.2 = i then _ else _) = _
        rw [if_neg hpi, hfd p hp hpi]
    · rcases List.mem_append.1 hb with hb | hb
      · exact h.log.recs P (by simp) b hb
      · exact hW b (List.mem_of_mem_take hb)
  · have := hQ k hk
    simpa [List.append_assoc] using this
theorem put_law (h : Nrm a first chk (PS0 ++ [P])) {l : AL} (hl : l.last = ((first + PS0.length : Nat) : Int)) (hw : l.waits = W) (hW : ∀ b ∈ W, b.length ≤ 1048512) (hr : (phi a.all : Int) + sizeB sumB W ≤ a.room)
    (hQ : ∀ k, k ≤ W.length → Q chk (PS0.flatten ++ P ++ W.take k)) {G : AS × Int → Prop} (hG : ∀ x, x.2 = 9 → a.left ≠ 0 → Aft Q x.1 → G x)
    (hf : ∀ all c l, (a.left = 0 → l = 0) → phi all ≤ phi a.all + sizeB sumB W → Nrm ⟨a.room, all, a.dir, a.sure, false, c, l, a.keep⟩ first chk (PS0 ++ [P ++ W]) → G (⟨a.room, all, a.dir, a.sure, false, c, l, a.keep⟩, 0)) : G (l.put a) := by
  have hl9 := h.log.last9
  have hf1 := h.log.first1
  simp only [List.length_append, List.length_singleton] at hl9
  obtain ⟨i, hg, hi⟩ := h.log.part_last
  have hia := h.ok.dirI _ (dget_some hg)
  have hnm : nameI l.last = nameL (first + PS0.length) := by rw [hl]; exact nameI_nat (by omega) (by omega)
  have hgd := good_name (n := first + PS0.length) (by omega)
  have hQ0 : Q chk (PS0 ++ [P]).flatten := by have := hQ 0 (Nat.zero_le _); simpa using this
  have hroom := need_room (k := sizeB sumB W) h.ok h.inj (by omega)
  rw [AL.put, hw, hnm]
  refine (nx_write (h.sur hQ0).dur h.on hgd hg (sealsB sumB W) hroom).thn hG fun c1 l1 hl1 => ?_
  have ok1 : (⟨a.room, a.all.modify i fun x => (x.1 ++ sealsB sumB W, x.2), a.dir, a.sure, false, c1, l1, a.keep⟩ : AS).Ok := ok_write h.ok hg _ hroom
  refine (nx_sync (a := ⟨a.room, a.all.modify i fun x => (x.1 ++ sealsB sumB W, x.2), a.dir, a.sure, false, c1, l1, a.keep⟩) (torn_dur h hW hg hi hQ c1 l1 ok1) rfl hgd hg).fin (fun x h1 h2 h3 => hG x h1 (fun h0 => h2 (hl1 h0)) h3) fun c2 l2 hl2 => ?_
  have ok2 : (⟨a.room, (a.all.modify i fun x => (x.1 ++ sealsB sumB W, x.2)).modify i fun x => (x.1, x.1), a.dir, a.sure, false, c2, l2, a.keep⟩ : AS).Ok := ok_sync ok1 i
  have hfi : fileL ((a.all.modify i fun x => (x.1 ++ sealsB sumB W, x.2)).modify i fun x => (x.1, x.1)) i = (sealsB sumB (P ++ W), sealsB sumB (P ++ W)) := by
    rw [fileL_at (by simpa using hia), fileL_at hia, hi, sealsB_append]
  have hfo : ∀ j, j ≠ i → fileL ((a.all.modify i fun x => (x.1 ++ sealsB sumB W, x.2)).modify i fun x => (x.1, x.1)) j = fileL a.all j := fun j hj => by
    rw [fileL_mod fun e => hj e.symm, fileL_mod fun e => hj e.symm]
  refine hf _ c2 l2 (fun h0 => hl2 (hl1 h0)) ?_ ⟨ok2, rfl, h.inj, h.sure, fun p hp => ?_, ?_, h.nocom, h.below⟩
  · have h1 := phi_modify (fun x : Bs × Bs => (x.1 ++ sealsB sumB W, x.2)) (sizeB sumB W) (fun f => by simp only [List.length_append, sealsB_size]; omega) a.all i
    have h2 := phi_modify (fun x : Bs × Bs => (x.1, x.1)) 0 (fun f => by simp only; omega) (a.all.modify i fun x => (x.1 ++ sealsB sumB W, x.2)) i
    exact Nat.le_trans h2 h1
  · by_cases hpi : p.2 = i
    · simp only
      rw [hpi, hfi]
    · simp only
      rw [hfo _ hpi]; exact h.synced p hp
  · refine h.log.last h.inj hg (by simp only; rw [hfi]; simp) (fun j hj => by simp only; rw [hfo j hj]) (fun b hb => ?_) (wholeB_stop sumB (by simp [openB]))
    rcases List.mem_append.1 hb with hb | hb
    · exact h.log.recs P (by simp) b hb
    · exact hW b hb
/-- A new part. -/
theorem turn_law {PS : List (List Bs)} (h : Nrm a first chk PS) {l : AL} (hl : l.last = ((first + PS.length - 1 : Nat) : Int)) (h9 : first + PS.length + 1 ≤ 1000000000) (hr : (phi a.all : Int) + 16 ≤ a.room)
    (hQ : Q chk PS.flatten) {G : AS × AL × Int → Prop} (hG : ∀ x m, a.left ≠ 0 → Aft Q x → G (x, m, 9))
    (hf : ∀ all dir c k, (a.left = 0 → k = 0) → phi all ≤ phi a.all + 16 → Nrm ⟨a.room, all, dir, dir, false, c, k, a.keep⟩ first chk (PS ++ [[]]) → G (⟨a.room, all, dir, dir, false, c, k, a.keep⟩, { l with last := l.last + 1 }, 0)) : G (l.turn a) := by
  have hp : 0 < PS.length := List.length_pos_iff.2 h.log.ne
  have hnm : nameI (l.last + 1) = nameL (first + PS.length) := by
    rw [hl, show (((first + PS.length - 1 : Nat) : Int) + 1) = ((first + PS.length : Nat) : Int) by omega]
    exact nameI_nat (by omega) (by omega)
  have hgd := good_name (n := first + PS.length) (by omega)
  have hroom := need_room (k := 16) h.ok h.inj (by omega)
  have hS := h.sur hQ
  have hno := h.log.over (first + PS.length) (Nat.le_refl _)
  have m1 := nx_make hS.dur h.on hgd hno hroom
  rw [AL.turn, hnm]
  rcases m1 with ⟨h1, h2, h3⟩ | ⟨c1, l1, e1, hl1⟩
  · rw [if_pos h1]
    exact hG _ _ h2 h3
  · rw [e1, if_neg (by simp), if_neg (by simp)]
    dsimp only
    have ok1 : (⟨a.room, a.all ++ [([], [])], dset (nameL (first + PS.length)) a.all.length a.dir, a.sure, false, c1, l1, a.keep⟩ : AS).Ok := ok_make h.ok hgd hroom
    have hS1 : Sur Q ⟨a.room, a.all ++ [([], [])], dset (nameL (first + PS.length)) a.all.length a.dir, a.sure, false, c1, l1, a.keep⟩ := hS.frame ok1 rfl rfl fun p hp => fileL_add (h.ok.sureI p hp)
    have m2 := nx_commit hS1.dur rfl
    rcases m2 with ⟨h1, h2, h3⟩ | ⟨c2, l2, e2, hl2⟩
    · rw [if_pos (by rw [h1]; decide), h1]
      exact hG _ _ (fun h0 => h2 (hl1 h0)) h3
    · rw [e2, if_neg (by simp)]
      refine hf _ _ c2 l2 (fun h0 => hl2 (hl1 h0)) (by rw [phi_add]; exact Nat.le_refl _) ⟨ok_commit ok1, rfl, dset_inj h.inj _ _ fun p hp _ e => ?_, rfl, fun p hp => ?_, ?_, ?_, fun n hn => ?_⟩
      · have := h.ok.dirI p hp; omega
      · rcases mem_dset.1 hp with rfl | hp
        · simp only; rw [fileL_new]
        · simp only; rw [fileL_add (h.ok.dirI p hp.1)]; exact h.synced p hp.1
      · exact h.log.more h9 (by simp only; rw [fileL_new]) fun p hp => by simp only; rw [fileL_add (h.ok.dirI p hp)]
      · simp only
        rw [dget_dset h.log.rises, if_neg fun e => nameL_ne_coming _ e.symm]; exact h.nocom
      · simp only
        rw [dget_dset h.log.rises, if_neg fun e => by have := nameL_inj e; omega]; exact h.below n hn
end
end Go.Proofs.YtgjdandnncjegaaGreatDoor
