/- Parts of the proof of StoreRoom. -/
import Derived.Test.YtemklabamlifdaaCore9
import Derived.Test.YtemklabamlifdaaProg
import Derived.Lib.SlBytesConst
import Derived.Deep.Slices
import Derived.ChangeSame
import Derived.Below
import Derived.SizedLaws
import Derived.Test.YtemklabamlifdaaLib
import Derived.Deep.Fields
import Derived.Test.YtemklabamlifdaaV2
/- The library's general sort, at one type: what its parts do. -/
namespace Go.Proofs.Ytemklabamlifdaa.Sortstring
open Go Go.Proofs.Ytemklabamlifdaa Go.Proofs.Ytemklabamlifdaa.St

theorem piv_eqs (a b l : Nat) (hab : a ≤ b) (hb : b ≤ l) (hl : l < 4611686018427387904) :
    IntKind.i64.wrap ((b : Int) - a) = ((b - a : Nat) : Int) ∧ Int.tdiv ((b - a : Nat) : Int) 4 = (((b - a) / 4 : Nat) : Int) ∧
    IntKind.i64.wrap ((a : Int) + IntKind.i64.wrap (IntKind.i64.wrap (((b - a) / 4 : Nat) : Int) * 1)) = ((a + (b - a) / 4 : Nat) : Int) ∧
    IntKind.i64.wrap ((a : Int) + IntKind.i64.wrap (IntKind.i64.wrap (((b - a) / 4 : Nat) : Int) * 2)) = ((a + (b - a) / 4 * 2 : Nat) : Int) ∧
    IntKind.i64.wrap ((a : Int) + IntKind.i64.wrap (IntKind.i64.wrap (((b - a) / 4 : Nat) : Int) * 3)) = ((a + (b - a) / 4 * 3 : Nat) : Int) :=
  ⟨(by first | (simp only [IntKind.wrap_i64]; omega) | omega), by rw [show (4 : Int) = ((4 : Nat) : Int) from rfl, ← Int.ofNat_tdiv], (by first | (simp only [IntKind.wrap_i64]; omega) | omega), (by first | (simp only [IntKind.wrap_i64]; omega) | omega), (by first | (simp only [IntKind.wrap_i64]; omega) | omega)⟩

section
variable (e : TypeId) (d : Option Addr) (l c : Nat) (xs : List ByteArray) (w : World) (hd : Els Value.string e w d l c xs) (hl : l < 4611686018427387904)
include hd hl

/-! ### The pivot -/
omit hl in
theorem order2_ok (s : Nat) (t : TypeId) (n : Int) (hs : w.heap[s]? = some (.cells #[.int .i64 n] t (0, 0))) (x y : Nat) (hx : x < l) (hy : y < l) (R : Value → World → Prop)
    (h : ∀ w' (n' : Int) (x' y' : Nat), (x' = x ∧ y' = y ∨ x' = y ∧ y' = x) → w'.heap[s]? = some (.cells #[.int .i64 n'] t (0, 0)) → Mod (on s) w w' → R (.tuple #[.int .i64 x', .int .i64 y']) w') :
    Ca Try.prog 99 #[.slice d l c, .int .i64 x, .int .i64 y, .pointer (some ⟨s, 0, none⟩)] w R := by
  refine ca99 d l c x y (some ⟨s, 0, none⟩) w R ?_
  intro w0 e0
  have m0 : Mod no w w0 := by subst e0; exact Mod.drew _
  clear e0
  have hs0 := m0.at' hs
  refine lss (hd.no m0) y x rfl rfl hy hx (fun _ => ?_) (fun _ => ?_)
  · refine ⟨n, by rw [cl hs0]; rfl, ⟨_, by rw [cl1 hs0]; rfl⟩, fz1 hs0 _, ?_⟩
    intro w1 e1
    have hs1 : w1.heap[s]? = some (.cells #[.int .i64 (IntKind.i64.wrap (n + 1))] t (0, 0)) := by subst e1; exact set1 hs0 _ _
    have m1 : Mod (on s) w0 w1 := by subst e1; exact Mod.set1 _ _ _ _
    exact h w1 _ y x (.inr ⟨rfl, rfl⟩) hs1 (m0.no_trans m1)
  · exact h w0 n x y (.inl ⟨rfl, rfl⟩) hs0 m0.of_no

omit hl in
theorem median_ok (s : Nat) (t : TypeId) (n : Int) (hs : w.heap[s]? = some (.cells #[.int .i64 n] t (0, 0))) (hne : ¬ rowB d s) (x y z : Nat) (hx : x < l) (hy : y < l) (hz : z < l) (R : Value → World → Prop)
    (h : ∀ w' (n' : Int) (m : Nat), (m = x ∨ m = y ∨ m = z) → w'.heap[s]? = some (.cells #[.int .i64 n'] t (0, 0)) → Mod (on s) w w' → R (.int .i64 m) w') :
    Ca Try.prog 97 #[.slice d l c, .int .i64 x, .int .i64 y, .int .i64 z, .pointer (some ⟨s, 0, none⟩)] w R := by
  refine ca97 d l c x y z (some ⟨s, 0, none⟩) w R ?_
  have keep : ∀ {w'}, Mod (on s) w w' → Els Value.string e w' d l c xs := fun hm => hd.mod hm fun k hk he => hne (by cases he; exact hk)
  refine order2_ok e d l c xs w hd s t n hs x y hx hy _ fun w1 n1 x1 y1 h1 hs1 m1 => ⟨_, _, rfl, ?_⟩
  refine order2_ok e d l c xs w1 (keep m1) s t n1 hs1 y1 z (by omega) hz _ fun w2 n2 y2 z2 h2 hs2 m2 => ⟨_, _, rfl, ?_⟩
  refine order2_ok e d l c xs w2 (keep (m1.trans m2)) s t n2 hs2 x1 y2 (by omega) (by omega) _ fun w3 n3 x3 y3 h3 hs3 m3 => ⟨_, _, rfl, ?_⟩
  exact h w3 n3 y3 (by omega) hs3 ((m1.trans m2).trans m3)

theorem medianAdj_ok (s : Nat) (t : TypeId) (n : Int) (hs : w.heap[s]? = some (.cells #[.int .i64 n] t (0, 0))) (hne : ¬ rowB d s) (x : Nat) (hx : 0 < x) (hx1 : x + 1 < l) (R : Value → World → Prop)
    (h : ∀ w' (n' : Int) (m : Nat), (x ≤ m + 1 ∧ m ≤ x + 1) → w'.heap[s]? = some (.cells #[.int .i64 n'] t (0, 0)) → Mod (on s) w w' → R (.int .i64 m) w') :
    Ca Try.prog 96 #[.slice d l c, .int .i64 x, .pointer (some ⟨s, 0, none⟩)] w R := by
  refine ca96 d l c x (some ⟨s, 0, none⟩) w R ?_
  have e1 : IntKind.i64.wrap ((x : Int) - 1) = ((x - 1 : Nat) : Int) := (by first | (simp only [IntKind.wrap_i64]; omega) | omega)
  have e2 : IntKind.i64.wrap ((x : Int) + 1) = ((x + 1 : Nat) : Int) := (by first | (simp only [IntKind.wrap_i64]; omega) | omega)
  rw [W96, e1, e2]
  exact median_ok e d l c xs w hd s t n hs hne (x - 1) x (x + 1) (by omega) (by omega) hx1 _ fun w1 n1 m h1 hs1 m1 => ⟨_, rfl, h w1 n1 m (by rcases h1 with rfl | rfl | rfl <;> omega) hs1 m1⟩

theorem choosePivot_ok (a b : Nat) (hab : a + 8 ≤ b) (hb : b ≤ l) (R : Value → World → Prop)
    (h : ∀ w' (p : Nat) (hint : Int), a ≤ p → p < b → Mod no w w' → R (.tuple #[.int .i64 p, .int .i64 hint]) w') :
    Ca Try.prog 85 #[.slice d l c, .int .i64 a, .int .i64 b] w R := by
  refine ca85 d l c a b w R ?_
  obtain ⟨elen, e4, ei, ej, ek⟩ := piv_eqs a b l (by omega) hb hl
  rw [W85]
  simp only [elen, e4, ei, ej, ek]
  clear elen e4 ei ej ek
  intro w0 e0
  have m0 : Mod no w w0 := by subst e0; exact Mod.alloc _ _
  have hs0 : w0.heap[w.heap.size]? = some (.cells #[.int .i64 0] 3 (0, 0)) := by subst e0; exact new_at _ _
  clear e0
  have hne : ¬ rowB d w.heap.size := by
    intro hk
    obtain ⟨g, rfl, hc⟩ := hd.get (i := 0) (by have := hd.len; omega)
    have : g = w.heap.size := by simpa [rowB] using hk
    subst this
    have := hd.at (i := 0) (by have := hd.len; omega)
    obtain ⟨g', hg', hc'⟩ := this
    injection hg' with hg'; injection hg' with hg'; subst hg'
    rw [World.cell?, Array.getElem?_eq_none (by simp [Addr.add])] at hc'
    cases hc'
  have hd0 := hd.no m0
  have keep : ∀ {w'}, Mod (on w.heap.size) w0 w' → Els Value.string e w' d l c xs := fun hm => hd0.mod hm fun k hk he => hne (by cases he; exact hk)
  refine ⟨by decide, by decide, by decide, fun x w' => ∃ (m : Nat) (n : Int), x = m ∧ a ≤ m ∧ m < b ∧ w'.heap[w.heap.size]? = some (.cells #[.int .i64 n] 3 (0, 0)) ∧ Mod (on w.heap.size) w0 w', ?_, ?_⟩
  · refine ifK_dec (fun _ => ifK_dec (fun h50 => ?_) (fun _ => ?_)) (fun hn => ?_)
    · refine medianAdj_ok e d l c xs w0 hd0 hl _ 3 0 hs0 hne _ (by omega) (by omega) _ fun w1 n1 x1 h1 hs1 m1 => ⟨_, rfl, ?_⟩
      refine medianAdj_ok e d l c xs w1 (keep m1) hl _ 3 n1 hs1 hne _ (by omega) (by omega) _ fun w2 n2 x2 h2 hs2 m2 => ⟨_, rfl, ?_⟩
      refine medianAdj_ok e d l c xs w2 (keep (m1.trans m2)) hl _ 3 n2 hs2 hne _ (by omega) (by omega) _ fun w3 n3 x3 h3 hs3 m3 => ⟨_, rfl, ?_⟩
      refine median_ok e d l c xs w3 (keep ((m1.trans m2).trans m3)) _ 3 n3 hs3 hne _ _ _ (by omega) (by omega) (by omega) _ fun w4 n4 x4 h4 hs4 m4 => ⟨_, rfl, ?_⟩
      have hx : a ≤ x4 ∧ x4 < b := by
        clear hs1 hs2 hs3 hs4 m1 m2 m3 m4 h
        rcases h4 with rfl | rfl | rfl <;> omega
      exact ⟨x4, n4, rfl, hx.1, hx.2, hs4, ((m1.trans m2).trans m3).trans m4⟩
    · refine median_ok e d l c xs w0 hd0 _ 3 0 hs0 hne _ _ _ (by omega) (by omega) (by omega) _ fun w4 n4 x4 h4 hs4 m4 => ⟨_, rfl, ?_⟩
      have hx : a ≤ x4 ∧ x4 < b := by rcases h4 with rfl | rfl | rfl <;> omega
      exact ⟨x4, n4, rfl, hx.1, hx.2, hs4, m4⟩
    · exact absurd hn (by omega)
  · rintro _ _ w1 ⟨m, n, rfl, h1, h2, hs1, m1⟩
    have m01 : Mod no w w1 := m0.new m1 fun k hk => by cases hk; exact Nat.le_refl _
    refine ⟨n, by rw [cl hs1]; rfl, ifK_of (fun _ => ?_) (fun _ => ifK_of (fun _ => ?_) (fun _ => ?_))⟩
    all_goals exact h w1 m _ h1 h2 m01

/-! ### Reversing, scattering -/
theorem reverse_ok (a b : Nat) (hab : a < b) (hb : b ≤ l) (R : Value → World → Prop)
    (h : ∀ w' ys, Els Value.string e w' d l c ys → Seg a b xs ys → Mod (rowB d) w w' → R (.tuple #[]) w') :
    Ca Try.prog 86 #[.slice d l c, .int .i64 a, .int .i64 b] w R := by
  refine ca86 d l c a b w R ?_
  refine ⟨fun x y w' => ∃ (i j : Nat) (ys : List ByteArray), x = i ∧ y = j ∧ a ≤ i ∧ i ≤ b ∧ j < b ∧ Els Value.string e w' d l c ys ∧ Seg a b xs ys ∧ Mod (rowB d) w w', fun x y _ => (y - x).toNat,
    ⟨a, b - 1, xs, rfl, (by first | (simp only [IntKind.wrap_i64]; omega) | omega), Nat.le_refl _, by omega, by omega, hd, Seg.refl _ _ _, Mod.refl _ _⟩, ?_⟩
  rintro _ _ _ w1 ⟨i, j, ys, rfl, rfl, hi, hib, hj, hys, hsg, hm⟩
  have hyl := hys.len.1
  refine ifK_dec (fun hij => ?_) (fun _ => h w1 ys hys hsg hm)
  intro w2 e2
  have m2 : Mod no w1 w2 := by subst e2; exact Mod.drew _
  clear e2
  refine (hys.no m2).swp i j rfl rfl (by omega) (by omega) fun w3 h3 m3 => ?_
  exact ⟨⟨i + 1, j - 1, _, (by first | (simp only [IntKind.wrap_i64]; omega) | omega), (by first | (simp only [IntKind.wrap_i64]; omega) | omega), by omega, by omega, by omega, h3, hsg.trans (Seg.swap (by omega) (by omega) (by omega) (by omega) (by omega) (by omega)), (hm.trans_no m2).trans m3⟩, (by first | (simp only [IntKind.wrap_i64]; omega) | omega)⟩

/-! ### Parting -/
omit hd in
/-- As long as the left one is less. -/
theorem part_up (a b : Nat) (hb : b ≤ l) : ∀ (ys : List ByteArray) (w' : World) (i j : Nat) (J : Int) (Q : Int → World → Prop), J = j → Els Value.string e w' d l c ys → Pt ys a b i j →
    (∀ (i' : Nat) w'', Els Value.string e w'' d l c ys → Pt ys a b i' j → (i' ≤ j → at0 ys a ≤ at0 ys i') → i ≤ i' → Mod no w' w'' → Q i' w'') →
    (∃ (z : Int → World → Prop) (m : Int → World → Nat), z i w' ∧ ∀ (_ : Nat → Value) (x : Int) (w1 : World), z x w1 → atW w1.drew fun w2 => ifK (decide (x ≤ J))
      (∃ ad : Addr, d = some ad ∧ (0 : Int) ≤ x ∧ x < (↑l : Int) ∧ ∃ y : ByteArray, w2.cell? (Addr.add ad (Int.toNat x * 1)) = some (Value.string y) ∧
        ∃ ad : Addr, d = some ad ∧ (0 : Int) ≤ (a : Int) ∧ (a : Int) < (↑l : Int) ∧ ∃ y' : ByteArray, w2.cell? (Addr.add ad (Int.toNat (a : Int) * 1)) = some (Value.string y') ∧
        Ca Try.prog 88 (Array.mk [Value.string y, Value.string y']) w2 (fun v w' => ∃ b : Bool, v = Value.bool b ∧ ifK b (z (IntKind.wrap .i64 (x + 1)) w' ∧ m (IntKind.wrap .i64 (x + 1)) w' < m x w1) (Q x w')))
      (Q x w2)) := by
  intro ys w' i j J Q hJ hys hpt hQ
  refine ⟨fun x w'' => ∃ i' : Nat, x = i' ∧ Els Value.string e w'' d l c ys ∧ Pt ys a b i' j ∧ i ≤ i' ∧ Mod no w' w'', fun x _ => ((j : Int) + 1 - x).toNat, ⟨i, rfl, hys, hpt, Nat.le_refl _, Mod.refl _ _⟩, ?_⟩
  rintro _ _ w1 ⟨i', rfl, hy1, hp1, hi1, m1⟩ w2 e2
  have m2 : Mod no w1 w2 := by subst e2; exact Mod.drew _
  clear e2
  have hjb := hp1.jb
  have hai := hp1.ai
  refine ifK_dec (fun hle => ?_) (fun hgt => hQ i' w2 (hy1.no m2) hp1 (fun h => by omega) hi1 (m1.trans m2))
  refine lss (hy1.no m2) i' a rfl rfl (by omega) (by omega) (fun hlt => ?_) (fun hge => hQ i' w2 (hy1.no m2) hp1 (fun _ => Lin.nlt hge) hi1 (m1.trans m2))
  exact ⟨⟨i' + 1, (by first | (simp only [IntKind.wrap_i64]; omega) | omega), hy1.no m2, hp1.up (by omega) (Lin.lle hlt), by omega, m1.trans m2⟩, (by first | (simp only [IntKind.wrap_i64]; omega) | omega)⟩
omit hd in
/-- As long as the right one is not less. -/
theorem part_down (a b : Nat) (hb : b ≤ l) : ∀ (ys : List ByteArray) (w' : World) (i j : Nat) (I : Int) (Q : Int → World → Prop), I = i → Els Value.string e w' d l c ys → Pt ys a b i j → (i ≤ j → at0 ys a ≤ at0 ys i) →
    (∀ (j' : Nat) w'', Els Value.string e w'' d l c ys → Pt ys a b i j' → (i ≤ j' → at0 ys a ≤ at0 ys i ∧ at0 ys j' < at0 ys a) → j' ≤ j → Mod no w' w'' → Q j' w'') →
    (∃ (z : Int → World → Prop) (m : Int → World → Nat), z j w' ∧ ∀ (_ : Nat → Value) (x : Int) (w1 : World), z x w1 → atW w1.drew fun w2 => ifK (decide (I ≤ x))
      (∃ ad : Addr, d = some ad ∧ (0 : Int) ≤ x ∧ x < (↑l : Int) ∧ ∃ y : ByteArray, w2.cell? (Addr.add ad (Int.toNat x * 1)) = some (Value.string y) ∧
        ∃ ad : Addr, d = some ad ∧ (0 : Int) ≤ (a : Int) ∧ (a : Int) < (↑l : Int) ∧ ∃ y' : ByteArray, w2.cell? (Addr.add ad (Int.toNat (a : Int) * 1)) = some (Value.string y') ∧
        Ca Try.prog 88 (Array.mk [Value.string y, Value.string y']) w2 (fun v w' => ∃ b : Bool, v = Value.bool b ∧ ifK (!b) (z (IntKind.wrap .i64 (x - 1)) w' ∧ m (IntKind.wrap .i64 (x - 1)) w' < m x w1) (Q x w')))
      (Q x w2)) := by
  intro ys w' i j I Q hI hys hpt hi0 hQ
  refine ⟨fun x w'' => ∃ j' : Nat, x = j' ∧ Els Value.string e w'' d l c ys ∧ Pt ys a b i j' ∧ j' ≤ j ∧ Mod no w' w'', fun x _ => (x + 1 - (i : Int)).toNat, ⟨j, rfl, hys, hpt, Nat.le_refl _, Mod.refl _ _⟩, ?_⟩
  rintro _ _ w1 ⟨j', rfl, hy1, hp1, hj1, m1⟩ w2 e2
  have m2 : Mod no w1 w2 := by subst e2; exact Mod.drew _
  clear e2
  have hjb := hp1.jb
  have hai := hp1.ai
  refine ifK_dec (fun hle => ?_) (fun hgt => hQ j' w2 (hy1.no m2) hp1 (fun h => by omega) hj1 (m1.trans m2))
  refine nls (hy1.no m2) j' a rfl rfl (by omega) (by omega) (fun hge => ?_) (fun hlt => hQ j' w2 (hy1.no m2) hp1 (fun _ => ⟨hi0 (by omega), hlt⟩) hj1 (m1.trans m2))
  exact ⟨⟨j' - 1, (by first | (simp only [IntKind.wrap_i64]; omega) | omega), hy1.no m2, hp1.down (by omega) (Lin.nlt hge), by omega, m1.trans m2⟩, (by first | (simp only [IntKind.wrap_i64]; omega) | omega)⟩
theorem partition_ok (a b p : Nat) (hap : a ≤ p) (hpb : p < b) (hb : b ≤ l) (R : Value → World → Prop)
    (h : ∀ w' ys (m : Nat) (q : Bool), Els Value.string e w' d l c ys → Seg a b xs ys → Parted ys a m b → Mod (rowB d) w w' → R (.tuple #[.int .i64 m, .bool q]) w') :
    Ca Try.prog 90 #[.slice d l c, .int .i64 a, .int .i64 b, .int .i64 p] w R := by
  have hxl := hd.len.1
  refine ca90 d l c a b p w R ?_
  have ea : IntKind.i64.wrap ((a : Int) + 1) = ((a + 1 : Nat) : Int) := (by first | (simp only [IntKind.wrap_i64]; omega) | omega)
  have eb : IntKind.i64.wrap ((b : Int) - 1) = ((b - 1 : Nat) : Int) := (by first | (simp only [IntKind.wrap_i64]; omega) | omega)
  rw [W90, ea, eb]
  clear ea eb
  intro w0 e0
  have m0 : Mod no w w0 := by subst e0; exact Mod.drew _
  clear e0
  refine (hd.no m0).swp a p rfl rfl (by omega) (by omega) fun w1 h1 m1 => ?_
  have m1 := m0.no_trans m1
  have s1 : Seg a b xs (swapL xs a p) := Seg.swap (by omega) (by omega) (by omega) (by omega) hap hpb
  have fin : ∀ (ys : List ByteArray) (w' : World) (i j : Nat) (q : Bool), Els Value.string e w' d l c ys → Seg a b xs ys → Pt ys a b i j → j < i → Mod (rowB d) w w' →
      ∀ w'', Els Value.string e w'' d l c (swapL ys j a) → Mod (rowB d) w' w'' → R (.tuple #[.int .i64 j, .bool q]) w'' := by
    intro ys w' i j q hys hsg hpt hji hm w'' hy'' m''
    have hyl := hys.len.1
    have h1 := hpt.ai
    have h2 := hpt.ij
    have h3 := hpt.jb
    exact h w'' _ j q hy'' (hsg.trans (Seg.swap (by omega) (by omega) (by omega) (by omega) (by omega) (by omega))) (hpt.done (by omega) hji) (hm.trans m'')
  refine ⟨_, part_up e d l c hl a b hb _ w1 (a + 1) (b - 1) _ (fun x w' => ∃ i : Nat, x = i ∧ Els Value.string e w' d l c (swapL xs a p) ∧ Pt (swapL xs a p) a b i (b - 1) ∧ (i ≤ b - 1 → at0 (swapL xs a p) a ≤ at0 (swapL xs a p) i) ∧ Mod (rowB d) w w') rfl h1
    ⟨Nat.le_refl _, by omega, by omega, fun k h1 h2 => by omega, fun k h1 h2 => by omega⟩ (fun i w' h1 h2 h3 _ h4 => ⟨i, rfl, h1, h2, h3, m1.trans_no h4⟩), ?_⟩
  rintro _ _ w2 ⟨i, rfl, h2, hpt, hi, m2⟩
  refine ⟨_, part_down e d l c hl a b hb _ w2 i (b - 1) _ (fun x w' => ∃ j : Nat, x = j ∧ Els Value.string e w' d l c (swapL xs a p) ∧ Pt (swapL xs a p) a b i j ∧ (i ≤ j → at0 (swapL xs a p) a ≤ at0 (swapL xs a p) i ∧ at0 (swapL xs a p) j < at0 (swapL xs a p) a) ∧ Mod (rowB d) w w') rfl h2 hpt hi
    (fun j w' h1 h2 h3 _ h4 => ⟨j, rfl, h1, h2, h3, m2.trans_no h4⟩), ?_⟩
  rintro _ _ w3 ⟨j, rfl, h3, hpt, hij, m3⟩
  have hjb := hpt.jb
  have hai := hpt.ai
  have hil := hpt.ij
  have step : ∀ (ys : List ByteArray) (w' : World) (i j : Nat), Els Value.string e w' d l c ys → Seg a b xs ys → Pt ys a b i j → (i ≤ j → at0 ys a ≤ at0 ys i ∧ at0 ys j < at0 ys a) → i ≤ j → i < j := by
    intro ys w' i j _ _ hpt hij hle
    refine Nat.lt_of_le_of_ne hle fun e => ?_
    subst e
    have := hij hle
    exact absurd this.2 (Lin.nle this.1)
  refine ifK_dec (fun hgt => ?_) (fun hle => ?_)
  · intro w4 e4
    have m4 : Mod no w3 w4 := by subst e4; exact Mod.drew _
    clear e4
    refine (h3.no m4).swp j a rfl rfl (by omega) (by omega) fun w5 h5 m5 => ?_
    exact fin _ w4 i j true (h3.no m4) s1 hpt (by omega) (m3.trans_no m4) w5 h5 m5
  · intro w4 e4
    have m4 : Mod no w3 w4 := by subst e4; exact Mod.drew _
    clear e4
    have hlt := step _ w3 i j h3 s1 hpt hij (by omega)
    obtain ⟨hx, hy⟩ := hij (by omega)
    refine (h3.no m4).swp i j rfl rfl (by omega) (by omega) fun w5 h5 m5 => ?_
    have hl3 := h3.len.1
    refine ⟨fun x y w' => ∃ (i j : Nat) (ys : List ByteArray), x = i ∧ y = j ∧ Els Value.string e w' d l c ys ∧ Seg a b xs ys ∧ Pt ys a b i j ∧ Mod (rowB d) w w', fun x y _ => (y + 1 - x).toNat,
      ⟨i + 1, j - 1, _, (by first | (simp only [IntKind.wrap_i64]; omega) | omega), (by first | (simp only [IntKind.wrap_i64]; omega) | omega), h5, s1.trans (Seg.swap (by omega) (by omega) (by omega) (by omega) (by omega) (by omega)), hpt.swap (by omega) hlt (Lin.lle hy) hx, (m3.trans_no m4).trans m5⟩, ?_⟩
    rintro _ _ _ w6 ⟨i6, j6, ys, rfl, rfl, h6, s6, hpt6, m6⟩
    refine ⟨_, part_up e d l c hl a b hb _ w6 i6 j6 _ (fun x w' => ∃ i : Nat, x = i ∧ Els Value.string e w' d l c ys ∧ Pt ys a b i j6 ∧ (i ≤ j6 → at0 ys a ≤ at0 ys i) ∧ i6 ≤ i ∧ Mod (rowB d) w w') rfl h6 hpt6
      (fun i w' h1 h2 h3 h5 h4 => ⟨i, rfl, h1, h2, h3, h5, m6.trans_no h4⟩), ?_⟩
    rintro _ _ w7 ⟨i7, rfl, h7, hpt7, hi7, hii, m7⟩
    refine ⟨_, part_down e d l c hl a b hb _ w7 i7 j6 _ (fun x w' => ∃ j : Nat, x = j ∧ Els Value.string e w' d l c ys ∧ Pt ys a b i7 j ∧ (i7 ≤ j → at0 ys a ≤ at0 ys i7 ∧ at0 ys j < at0 ys a) ∧ j ≤ j6 ∧ Mod (rowB d) w w') rfl h7 hpt7 hi7
      (fun j w' h1 h2 h3 h5 h4 => ⟨j, rfl, h1, h2, h3, h5, m7.trans_no h4⟩), ?_⟩
    rintro _ _ w8 ⟨j8, rfl, h8, hpt8, hij8, hjj, m8⟩
    have hjb8 := hpt8.jb
    have hai8 := hpt8.ai
    have hil8 := hpt8.ij
    have hl8 := h8.len.1
    refine ifK_dec (fun hgt => ?_) (fun hle => ?_)
    · intro w9 e9
      have m9 : Mod no w8 w9 := by subst e9; exact Mod.drew _
      clear e9
      refine (h8.no m9).swp j8 a rfl rfl (by omega) (by omega) fun w10 h10 m10 => ?_
      exact fin _ w9 i7 j8 false (h8.no m9) s6 hpt8 (by omega) (m8.trans_no m9) w10 h10 m10
    · intro w9 e9
      have m9 : Mod no w8 w9 := by subst e9; exact Mod.drew _
      clear e9
      have hlt8 := step _ w8 i7 j8 h8 s6 hpt8 hij8 (by omega)
      obtain ⟨hx8, hy8⟩ := hij8 (by omega)
      refine (h8.no m9).swp i7 j8 rfl rfl (by omega) (by omega) fun w10 h10 m10 => ?_
      exact ⟨⟨i7 + 1, j8 - 1, _, (by first | (simp only [IntKind.wrap_i64]; omega) | omega), (by first | (simp only [IntKind.wrap_i64]; omega) | omega), h10, s6.trans (Seg.swap (by omega) (by omega) (by omega) (by omega) (by omega) (by omega)), hpt8.swap (by omega) hlt8 (Lin.lle hy8) hx8, (m8.trans_no m9).trans m10⟩, (by first | (simp only [IntKind.wrap_i64]; omega) | omega)⟩
end
end Go.Proofs.Ytemklabamlifdaa.Sortstring

/- The library's general sort, at one type: parting off what is equal, heap sort, scattering, sorting what is nearly sorted. -/
namespace Go.Proofs.Ytemklabamlifdaa.Sortstring
open Go Go.Proofs.Ytemklabamlifdaa Go.Proofs.Ytemklabamlifdaa.St

section
variable (e : TypeId) (d : Option Addr) (l c : Nat) (xs : List ByteArray) (w : World) (hd : Els Value.string e w d l c xs) (hl : l < 4611686018427387904)
include hd hl

theorem partEq_ok (a b p : Nat) (hap : a ≤ p) (hpb : p < b) (hb : b ≤ l) (hmin : ∀ k, a ≤ k → k < b → at0 xs p ≤ at0 xs k) (R : Value → World → Prop)
    (h : ∀ w' ys (m : Nat), Els Value.string e w' d l c ys → Seg a b xs ys → Eqd ys a m b → Mod (rowB d) w w' → R (.int .i64 m) w') :
    Ca Try.prog 89 #[.slice d l c, .int .i64 a, .int .i64 b, .int .i64 p] w R := by
  refine ca89 d l c a b p w R ?_
  have ea : IntKind.i64.wrap ((a : Int) + 1) = ((a + 1 : Nat) : Int) := (by first | (simp only [IntKind.wrap_i64]; omega) | omega)
  have eb : IntKind.i64.wrap ((b : Int) - 1) = ((b - 1 : Nat) : Int) := (by first | (simp only [IntKind.wrap_i64]; omega) | omega)
  rw [W89, ea, eb]
  clear ea eb
  intro w0 e0
  have m0 : Mod no w w0 := by subst e0; exact Mod.drew _
  clear e0
  refine (hd.no m0).swp a p rfl rfl (by omega) (by omega) fun w1 h1 m1 => ?_
  have m1 := m0.no_trans m1
  have s1 : Seg a b xs (swapL xs a p) := hd.seg (by omega) (by omega) (by omega) (by omega) hap hpb
  have p1 : AtE (swapL xs a p) a (at0 xs p) := by
    refine ⟨?_⟩
    rw [at0_swapL (hd.lt (by omega)) (hd.lt (by omega))]
    by_cases e : a = p
    · rw [if_pos e, e]
    · rw [if_neg e, if_pos rfl]
  refine ⟨fun x y w' => ∃ (i j : Nat) (ys : List ByteArray), x = i ∧ y = j ∧ Els Value.string e w' d l c ys ∧ Seg a b xs ys ∧ Pt ys a b i j ∧ AtE ys a (at0 xs p) ∧ Mod (rowB d) w w', fun x y _ => (y + 1 - x).toNat,
    ⟨a + 1, b - 1, _, rfl, rfl, h1, s1, ⟨Nat.le_refl _, by omega, by omega, fun k h1 h2 => by omega, fun k h1 h2 => by omega⟩, p1, m1⟩, ?_⟩
  rintro _ _ _ w2 ⟨i, j, ys, rfl, rfl, h2, s2, hpt, hp2, m2⟩
  refine ⟨fun x w' => ∃ i' : Nat, x = i' ∧ Els Value.string e w' d l c ys ∧ Pt ys a b i' j ∧ i ≤ i' ∧ (i' ≤ j → at0 ys a < at0 ys i') ∧ Mod (rowB d) w w', ⟨fun x w' => ∃ i' : Nat, x = i' ∧ Els Value.string e w' d l c ys ∧ Pt ys a b i' j ∧ i ≤ i' ∧ Mod (rowB d) w w',
    fun x _ => ((j : Int) + 1 - x).toNat, ⟨i, rfl, h2, hpt, Nat.le_refl _, m2⟩, ?_⟩, ?_⟩
  · rintro _ _ w3 ⟨i', rfl, h3, hp3, hi3, m3⟩ w4 e4
    have m4 : Mod no w3 w4 := by subst e4; exact Mod.drew _
    clear e4
    have hjb := hp3.jb
    have hai := hp3.ai
    have m4' := m3.trans_no m4
    refine ifK_dec (fun hle => ?_) (fun hgt => ⟨i', rfl, h3.no m4, hp3, hi3, fun h => by omega, m4'⟩)
    refine nls (h3.no m4) a i' rfl rfl (by omega) (by omega) (fun hge => ?_) (fun hlt => ⟨i', rfl, h3.no m4, hp3, hi3, fun _ => hlt, m4'⟩)
    exact ⟨⟨i' + 1, (by first | (simp only [IntKind.wrap_i64]; omega) | omega), h3.no m4, hp3.up (by omega) (Lin.nlt hge), by omega, m4'⟩, (by first | (simp only [IntKind.wrap_i64]; omega) | omega)⟩
  rintro _ _ w5 ⟨i5, rfl, h5, hp5, hi5, hx5, m5⟩
  refine ⟨fun x w' => ∃ j' : Nat, x = j' ∧ Els Value.string e w' d l c ys ∧ Pt ys a b i5 j' ∧ j' ≤ j ∧ (i5 ≤ j' → at0 ys j' ≤ at0 ys a) ∧ Mod (rowB d) w w', ⟨fun x w' => ∃ j' : Nat, x = j' ∧ Els Value.string e w' d l c ys ∧ Pt ys a b i5 j' ∧ j' ≤ j ∧ Mod (rowB d) w w',
    fun x _ => (x + 1 - (i5 : Int)).toNat, ⟨j, rfl, h5, hp5, Nat.le_refl _, m5⟩, ?_⟩, ?_⟩
  · rintro _ _ w3 ⟨j', rfl, h3, hp3, hi3, m3⟩ w4 e4
    have m4 : Mod no w3 w4 := by subst e4; exact Mod.drew _
    clear e4
    have hjb := hp3.jb
    have hai := hp3.ai
    have m4' := m3.trans_no m4
    refine ifK_dec (fun hle => ?_) (fun hgt => ⟨j', rfl, h3.no m4, hp3, hi3, fun h => by omega, m4'⟩)
    refine lss (h3.no m4) a j' rfl rfl (by omega) (by omega) (fun hlt => ?_) (fun hge => ⟨j', rfl, h3.no m4, hp3, hi3, fun _ => Lin.nlt hge, m4'⟩)
    exact ⟨⟨j' - 1, (by first | (simp only [IntKind.wrap_i64]; omega) | omega), h3.no m4, hp3.down (by omega) (Lin.lle hlt), by omega, m4'⟩, (by first | (simp only [IntKind.wrap_i64]; omega) | omega)⟩
  rintro _ _ w6 ⟨j6, rfl, h6, hp6, hj6, hx6, m6⟩
  have hjb := hp6.jb
  have hai := hp6.ai
  have hil := hp6.ij
  refine ifK_dec (fun hgt => ?_) (fun hle => ?_)
  · refine h w6 ys i5 h6 s2 (hp6.eqd (by omega) fun k h7 h8 => ?_) m6
    rw [hp2.eq]
    exact s2.all (hd.le hb) (P := fun v => at0 xs p ≤ v) hmin k h7 h8
  · intro w7 e7
    have m7 : Mod no w6 w7 := by subst e7; exact Mod.drew _
    clear e7
    have hlt : i5 < j6 := by
      refine Nat.lt_of_le_of_ne (by omega) fun e => ?_
      subst e
      have h7 := hx5 (by omega)
      have h8 := hx6 (by omega)
      exact absurd h7 (Lin.nle h8)
    refine (h6.no m7).swp i5 j6 rfl rfl (by omega) (by omega) fun w8 h8 m8 => ?_
    refine ⟨⟨i5 + 1, j6 - 1, _, (by first | (simp only [IntKind.wrap_i64]; omega) | omega), (by first | (simp only [IntKind.wrap_i64]; omega) | omega), h8, s2.trans (h6.seg (by omega) (by omega) (by omega) (by omega) (by omega) (by omega)), hp6.swap (h6.le hb) hlt (hx6 (by omega)) (Lin.lle (hx5 (by omega))), ?_, (m6.trans_no m7).trans m8⟩, (by first | (simp only [IntKind.wrap_i64]; omega) | omega)⟩
    exact ⟨by rw [at0_swapL (h6.lt (by omega)) (h6.lt (by omega)), if_neg (by omega), if_neg (by omega), hp2.eq]⟩

/-! ### Heap sort -/
theorem siftDown_ok (lo hi f : Nat) (hlo : lo ≤ hi) (hf : f + hi ≤ l) (hh : Hp xs f (lo + 1) hi) (R : Value → World → Prop)
    (h : ∀ w' ys, Els Value.string e w' d l c ys → Seg (f + lo) (f + hi) xs ys → Hp ys f lo hi → Mod (rowB d) w w' → R (.tuple #[]) w') :
    Ca Try.prog 93 #[.slice d l c, .int .i64 lo, .int .i64 hi, .int .i64 f] w R := by
  refine ca93 d l c lo hi f w R ?_
  refine ⟨fun x w' => ∃ (r : Nat) (ys : List ByteArray), x = r ∧ lo ≤ r ∧ (r < hi ∨ r = lo) ∧ Els Value.string e w' d l c ys ∧ Seg (f + lo) (f + hi) xs ys ∧ Sift ys f lo hi r ∧ Mod (rowB d) w w', fun x _ => ((hi : Int) - x).toNat,
    ⟨lo, xs, rfl, Nat.le_refl _, .inr rfl, hd, Seg.refl _ _ _, Sift.start hh, Mod.refl _ _⟩, ?_⟩
  rintro _ _ w1 ⟨r, ys, rfl, hlr, hr, h1, s1, hs1, m1⟩
  refine ifK_of (fun hb => ?_) (fun hb => ?_)
  · have hb : hi ≤ 2 * r + 1 := by
      have := of_decide_eq_true hb
      clear hb
      simp only [IntKind.wrap_i64] at this
      omega
    exact h w1 ys h1 s1 (hs1.done fun k h2 h3 => by omega) m1
  have hb : 2 * r + 1 < hi := by
    have := of_decide_eq_false hb
    clear hb
    simp only [IntKind.wrap_i64] at this
    omega
  refine ⟨fun x w' => ∃ k : Nat, x = k ∧ (k = 2 * r + 1 ∨ k = 2 * r + 2) ∧ k < hi ∧ (∀ q, (q = 2 * r + 1 ∨ q = 2 * r + 2) → q < hi → at0 ys (f + q) ≤ at0 ys (f + k)) ∧ Els Value.string e w' d l c ys ∧ Mod (rowB d) w w', ?_, ?_⟩
  · intro w2 e2
    have m2 : Mod no w1 w2 := by subst e2; exact Mod.drew _
    clear e2
    refine ifK_of (fun hc => ?_) (fun hc => ?_)
    · have hc : 2 * r + 2 < hi := by
        have := of_decide_eq_true hc
        clear hc
        simp only [IntKind.wrap_i64] at this
        omega
      refine lss (h1.no m2) (f + (2 * r + 1)) (f + (2 * r + 2)) (by first | (simp only [IntKind.wrap_i64]; omega) | omega) (by first | (simp only [IntKind.wrap_i64]; omega) | omega) (by omega) (by omega) (fun hlt => ?_) (fun hge => ?_)
      · refine ⟨2 * r + 2, (by first | (simp only [IntKind.wrap_i64]; omega) | omega), .inr rfl, hc, fun q hq hqh => ?_, h1.no m2, m1.trans_no m2⟩
        rcases hq with rfl | rfl
        · exact Lin.lle hlt
        · exact Lin.refl _
      · refine ⟨2 * r + 1, (by first | (simp only [IntKind.wrap_i64]; omega) | omega), .inl rfl, hb, fun q hq hqh => ?_, h1.no m2, m1.trans_no m2⟩
        rcases hq with rfl | rfl
        · exact Lin.refl _
        · exact Lin.nlt hge
    · have hc : hi ≤ 2 * r + 2 := by
        have := of_decide_eq_false hc
        clear hc
        simp only [IntKind.wrap_i64] at this
        omega
      refine ⟨2 * r + 1, (by first | (simp only [IntKind.wrap_i64]; omega) | omega), .inl rfl, hb, fun q hq hqh => ?_, h1.no m2, m1.trans_no m2⟩
      rcases hq with rfl | rfl
      · exact Lin.refl _
      · omega
  rintro _ _ w3 ⟨k, rfl, hk, hkh, hmax, h3, m3⟩ w4 e4
  have m4 : Mod no w3 w4 := by subst e4; exact Mod.drew _
  clear e4
  refine nls (h3.no m4) (f + r) (f + k) (by first | (simp only [IntKind.wrap_i64]; omega) | omega) (by first | (simp only [IntKind.wrap_i64]; omega) | omega) (by omega) (by omega) (fun hge => ?_) (fun hlt => ?_)
  · exact h w4 ys (h3.no m4) s1 (hs1.done fun q hq hqh => Lin.tr (hmax q hq hqh) (Lin.nlt hge)) (m3.trans_no m4)
  · intro w5 e5
    have m5 : Mod no w4 w5 := by subst e5; exact Mod.drew _
    clear e5
    refine ((h3.no m4).no m5).swp (f + r) (f + k) (by first | (simp only [IntKind.wrap_i64]; omega) | omega) (by first | (simp only [IntKind.wrap_i64]; omega) | omega) (by omega) (by omega) fun w6 h6 m6 => ?_
    refine ⟨⟨k, _, rfl, by omega, .inl hkh, h6, s1.trans (h1.seg (by omega) (by omega) (by omega) (by omega) (by omega) (by omega)), hs1.step hlr (h1.le hf) hk hkh hmax hlt, ((m3.trans_no m4).trans_no m5).trans m6⟩, by simp only; omega⟩

theorem heapSort_ok (a b : Nat) (hab : a < b) (hb : b ≤ l) (R : Value → World → Prop)
    (h : ∀ w' ys, Els Value.string e w' d l c ys → Seg a b xs ys → Srt ys a b → Mod (rowB d) w w' → R (.tuple #[]) w') :
    Ca Try.prog 83 #[.slice d l c, .int .i64 a, .int .i64 b] w R := by
  refine ca83 d l c a b w R ?_
  obtain ⟨n, rfl⟩ : ∃ n, b = a + (n + 1) := ⟨b - a - 1, by omega⟩
  have e1 : IntKind.i64.wrap (((a + (n + 1) : Nat) : Int) - a) = ((n + 1 : Nat) : Int) := (by first | (simp only [IntKind.wrap_i64]; omega) | omega)
  have e2 : IntKind.i64.wrap (((n + 1 : Nat) : Int) - 1) = (n : Int) := (by first | (simp only [IntKind.wrap_i64]; omega) | omega)
  have e3 : Int.tdiv (n : Int) 2 = ((n / 2 : Nat) : Int) := by rw [show (2 : Int) = ((2 : Nat) : Int) from rfl, ← Int.ofNat_tdiv]
  have e4 : IntKind.i64.wrap ((n / 2 : Nat) : Int) = ((n / 2 : Nat) : Int) := (by first | (simp only [IntKind.wrap_i64]; omega) | omega)
  rw [W83, e1, e2, e3, e4]
  clear e1 e2 e3 e4
  refine ⟨by decide, ?_⟩
  refine ⟨fun x w' => ∃ (i : Nat) (ys : List ByteArray), x = (i : Int) - 1 ∧ i ≤ n + 1 ∧ Els Value.string e w' d l c ys ∧ Seg a (a + (n + 1)) xs ys ∧ Hp ys a i (n + 1) ∧ Mod (rowB d) w w', fun x _ => (x + 1).toNat,
    ⟨n / 2 + 1, xs, by omega, by omega, hd, Seg.refl _ _ _, fun p k h1 h2 h3 => by omega, Mod.refl _ _⟩, ?_⟩
  rintro _ _ w1 ⟨i, ys, rfl, hi, h1, s1, hp1, m1⟩
  refine ifK_dec (fun hge => ?_) (fun hlt => ?_)
  · obtain ⟨k, rfl⟩ : ∃ k, i = k + 1 := ⟨i - 1, by omega⟩
    rw [show ((k + 1 : Nat) : Int) - 1 = (k : Int) by omega]
    refine siftDown_ok e d l c ys w1 h1 hl k (n + 1) a (by omega) (by omega) hp1 _ fun w2 zs h2 s2 hp2 m2 => ⟨rfl, ⟨k, zs, (by first | (simp only [IntKind.wrap_i64]; omega) | omega), by omega, h2, s1.trans (s2.mono (by omega) (by omega)), hp2, m1.trans m2⟩, (by first | (simp only [IntKind.wrap_i64]; omega) | omega)⟩
  · have : i = 0 := by omega
    subst this
    refine ⟨fun x w' => ∃ (i : Nat) (ys : List ByteArray), x = (i : Int) - 1 ∧ i ≤ n + 1 ∧ Els Value.string e w' d l c ys ∧ Seg a (a + (n + 1)) xs ys ∧ Pop ys a i (n + 1) ∧ Mod (rowB d) w w', fun x _ => (x + 1).toNat,
      ⟨n + 1, ys, by omega, by omega, h1, s1, Pop.start hp1, m1⟩, ?_⟩
    rintro _ _ w2 ⟨i, ys, rfl, hi, h2, s2, hp2, m2⟩
    refine ifK_dec (fun hge => ?_) (fun hlt => ?_)
    · obtain ⟨k, rfl⟩ : ∃ k, i = k + 1 := ⟨i - 1, by omega⟩
      rw [show ((k + 1 : Nat) : Int) - 1 = (k : Int) by omega]
      intro w3 e3
      have m3 : Mod no w2 w3 := by subst e3; exact Mod.drew _
      clear e3
      refine (h2.no m3).swp a (a + k) rfl (by first | (simp only [IntKind.wrap_i64]; omega) | omega) (by omega) (by omega) fun w4 h4 m4 => ?_
      refine siftDown_ok e d l c _ w4 h4 hl 0 k a (by omega) (by omega) (hp2.swap (by omega) (h2.le (by omega))) _ fun w5 zs h5 s5 hp5 m5 => ⟨rfl, ⟨k, zs, (by first | (simp only [IntKind.wrap_i64]; omega) | omega), by omega, h5, ?_, hp2.step (by omega) (h2.le (by omega)) s5 hp5, ((m2.trans_no m3).trans m4).trans m5⟩, (by first | (simp only [IntKind.wrap_i64]; omega) | omega)⟩
      exact (s2.trans (h2.seg (by omega) (by omega) (by omega) (by omega) (by omega) (by omega))).trans (s5.mono (by omega) (by omega))
    · have : i = 0 := by omega
      subst this
      exact h w2 ys h2 s2 hp2.done m2
end

/-! ### Scattering -/
theorem wrapU (x : Int) : IntKind.wrap .u64 x = x % 18446744073709551616 := by simp [IntKind.wrap, IntKind.bits, IntKind.signed]
theorem nextPow_ok (n : Nat) (hn : 0 < n) (hl : n < 4611686018427387904) (w : World) (R : Value → World → Prop) (h : ∀ k : Nat, k ≤ 2 * n → 0 < k → R (.int .u64 k) w) : Ca Try.prog 94 #[.int .i64 n] w R := by
  refine ca94 n w R ?_
  have e1 : IntKind.wrap .u64 (n : Int) = n := by rw [wrapU]; omega
  rw [W94, e1]
  clear e1
  refine bitsLen_ok n w _ fun k hk => ⟨_, rfl, by omega, ?_⟩
  obtain ⟨h1, h2⟩ := hk (by omega) (by omega)
  have h3 : ((2 ^ k : Nat) : Int) ≤ 2 * n := by simpa using h2
  have h4 : 0 < 2 ^ k := Nat.pow_pos (by decide)
  have e2 : IntKind.wrap .u64 (1 * 2 ^ min (Int.toNat (k : Int)) 64) = ((2 ^ k : Nat) : Int) := by
    have e3 : min (Int.toNat (k : Int)) 64 = k := by omega
    have e4 : (1 : Int) * 2 ^ k = ((2 ^ k : Nat) : Int) := by simp
    rw [e3, e4, wrapU]
    omega
  rw [e2]
  exact h _ (by omega) h4
theorem xorNext_ok (s : Nat) (t : TypeId) (n : Int) (w : World) (hs : w.heap[s]? = some (.cells #[.int .u64 n] t (0, 0))) (R : Value → World → Prop)
    (h : ∀ w' (n' : Int), w'.heap[s]? = some (.cells #[.int .u64 n'] t (0, 0)) → Mod (on s) w w' → R (.int .u64 n') w') : Ca Try.prog 95 #[.pointer (some ⟨s, 0, none⟩)] w R := by
  refine ca95 (some ⟨s, 0, none⟩) w R ?_
  have step : ∀ (w : World) (n m : Int) (K : World → Prop), w.heap[s]? = some (.cells #[.int .u64 n] t (0, 0)) → (∀ w', w'.heap[s]? = some (.cells #[.int .u64 m] t (0, 0)) → Mod (on s) w w' → K w') →
      (∃ v : Value, w.cell? (Addr.add ⟨s, 0, none⟩ 0) = some v) ∧ w.frozen? (Addr.add ⟨s, 0, none⟩ 0) = false ∧ atW (w.setCell (Addr.add ⟨s, 0, none⟩ 0) (.int .u64 m)) K := by
    intro w n m K hs hK
    refine ⟨⟨_, by rw [cl1 hs]; rfl⟩, fz1 hs _, fun w' e => ?_⟩
    subst e
    exact hK _ (set1 hs 0 _) (Mod.set1 _ _ _ _)
  intro w0 e0
  have m0 : Mod no w w0 := by subst e0; exact Mod.drew _
  clear e0
  have hs0 := m0.at' hs
  refine ⟨n, by rw [cl hs0]; rfl, n, by rw [cl hs0]; rfl, by decide, step w0 n _ _ hs0 fun w1 hs1 m1 => ?_⟩
  intro w2 e2
  have m2 : Mod no w1 w2 := by subst e2; exact Mod.drew _
  clear e2
  have hs2 := m2.at' hs1
  refine ⟨_, by rw [cl hs2]; rfl, _, by rw [cl hs2]; rfl, by decide, step w2 _ _ _ hs2 fun w3 hs3 m3 => ?_⟩
  intro w4 e4
  have m4 : Mod no w3 w4 := by subst e4; exact Mod.drew _
  clear e4
  have hs4 := m4.at' hs3
  refine ⟨_, by rw [cl hs4]; rfl, _, by rw [cl hs4]; rfl, by decide, step w4 _ _ _ hs4 fun w5 hs5 m5 => ?_⟩
  exact ⟨_, by rw [cl hs5]; rfl, h w5 _ hs5 (((((m0.no_trans m1).trans_no m2).trans m3).trans_no m4).trans m5)⟩

theorem and_le (x y : Int) (k : Nat) (hy : y = k) (hk : k < 18446744073709551616) : ((BitVec.ofInt 64 x &&& BitVec.ofInt 64 y).toNat) ≤ k := by
  rw [BitVec.toNat_and]
  refine Nat.le_trans Nat.and_le_right ?_
  rw [hy, BitVec.toNat_ofInt]
  omega
theorem breakP_ok (e : TypeId) (d : Option Addr) (l c : Nat) (xs : List ByteArray) (w : World) (hd : Els Value.string e w d l c xs) (hl : l < 4611686018427387904) (a b : Nat) (hab : a + 8 ≤ b) (hb : b ≤ l) (R : Value → World → Prop)
    (h : ∀ w' ys, Els Value.string e w' d l c ys → Seg a b xs ys → Mod (rowB d) w w' → R (.tuple #[]) w') :
    Ca Try.prog 84 #[.slice d l c, .int .i64 a, .int .i64 b] w R := by
  refine ca84 d l c a b w R ?_
  obtain ⟨elen, e4, ei, ej, ek⟩ := piv_eqs a b l (by omega) hb hl
  rw [W84]
  simp only [elen, e4, ej]
  clear elen e4 ei ej ek
  have hq : a + (b - a) / 4 * 2 + 1 < b ∧ a + 1 ≤ a + (b - a) / 4 * 2 := by omega
  generalize a + (b - a) / 4 * 2 = mid at hq
  have em : IntKind.i64.wrap ((mid : Int) - 1) = ((mid - 1 : Nat) : Int) := (by first | (simp only [IntKind.wrap_i64]; omega) | omega)
  have ep : IntKind.i64.wrap ((mid : Int) + 1) = ((mid + 1 : Nat) : Int) := (by first | (simp only [IntKind.wrap_i64]; omega) | omega)
  rw [em, ep]
  clear em ep
  refine ifK_of (fun _ => ?_) (fun hn => absurd (of_decide_eq_false hn) (by omega))
  intro w0 e0
  have m0 : Mod no w w0 := by subst e0; exact Mod.alloc _ _
  have hs0 : ∃ t, w0.heap[w.heap.size]? = some (.cells #[.int .u64 0] t (0, 0)) := by subst e0; exact ⟨_, new_at _ _⟩
  clear e0
  obtain ⟨t, hs0⟩ := hs0
  have hne : ¬ rowB d w.heap.size := by
    intro hk
    obtain ⟨g, rfl, hc⟩ := hd.get (i := 0) (by have := hd.len; omega)
    have : g = w.heap.size := by simpa [rowB] using hk
    subst this
    rw [World.cell?, Array.getElem?_eq_none (by simp [Addr.add])] at hc
    cases hc
  refine ⟨⟨_, by rw [cl1 hs0]; rfl⟩, fz1 hs0 _, ?_⟩
  intro w2 e2
  have m2 : Mod (on w.heap.size) w0 w2 := by subst e2; exact Mod.set1 _ _ _ _
  have hs2 : ∃ n : Int, w2.heap[w.heap.size]? = some (.cells #[.int .u64 n] t (0, 0)) := by subst e2; exact ⟨_, set1 hs0 0 _⟩
  clear e2
  have m02 : Mod no w w2 := m0.new m2 fun k hk => by cases hk; exact Nat.le_refl _
  refine nextPow_ok (b - a) (by omega) (by omega) w2 _ fun k hk hk0 => ⟨_, rfl, by decide, ?_⟩
  refine ⟨fun x w' => ∃ (i : Nat) (n : Int) (ys : List ByteArray), x = i ∧ mid - 1 ≤ i ∧ i ≤ mid + 2 ∧ w'.heap[w.heap.size]? = some (.cells #[.int .u64 n] t (0, 0)) ∧ Els Value.string e w' d l c ys ∧ Seg a b xs ys ∧ Mod (fun k => rowB d k ∨ k = w.heap.size) w w', fun x _ => ((mid : Int) + 2 - x).toNat, ?_, ?_⟩
  · obtain ⟨n, hs2⟩ := hs2
    exact ⟨mid - 1, n, xs, rfl, Nat.le_refl _, by omega, hs2, hd.no m02, Seg.refl _ _ _, m02.of_no⟩
  rintro _ _ w3 ⟨i, n, ys, rfl, hi1, hi2, hs3, h3, s3, m3⟩
  have m3' : Mod (rowB d) w w3 := m3.mono fun k hk h => by
    rcases h with h | h
    · exact h
    · omega
  refine ⟨by decide, ifK_dec (fun hle => ?_) (fun hgt => h w3 ys h3 s3 m3')⟩
  refine xorNext_ok _ t n w3 hs3 _ fun w4 n4 hs4 m4 => ⟨_, rfl, ?_⟩
  have h4 : Els Value.string e w4 d l c ys := h3.mod m4 fun k hk he => hne (by cases he; exact hk)
  have hand : IntKind.wrap .u64 ((k : Int) - 1) = ((k - 1 : Nat) : Int) := by rw [wrapU]; omega
  rw [hand]
  have hale := and_le n4 ((k - 1 : Nat) : Int) (k - 1) rfl (by omega)
  generalize ((BitVec.ofInt 64 n4 &&& BitVec.ofInt 64 ((k - 1 : Nat) : Int)).toNat) = o at hale
  have e5 : IntKind.wrap .i64 (IntKind.wrap .u64 (o : Int)) = o := by rw [wrapU, IntKind.wrap_i64]; omega
  rw [e5]
  clear e5
  refine ⟨fun x w' => ∃ q : Nat, x = q ∧ q < b - a ∧ w' = w4, ifK_dec (fun hge => ⟨o - (b - a), (by first | (simp only [IntKind.wrap_i64]; omega) | omega), by omega, rfl⟩) (fun hlt => ⟨o, rfl, by omega, rfl⟩), ?_⟩
  rintro _ _ _ ⟨q, rfl, hq1, rfl⟩ w5 e5
  rename_i w4
  have m5 : Mod no w4 w5 := by subst e5; exact Mod.drew _
  clear e5
  refine (h4.no m5).swp i (a + q) rfl (by first | (simp only [IntKind.wrap_i64]; omega) | omega) (by omega) (by omega) fun w6 h6 m6 => ?_
  have hs6 : w6.heap[w.heap.size]? = some (.cells #[.int .u64 n4] t (0, 0)) := m6.at (m5.at' hs4) hne
  clear hale hk hk0 hand
  have e8 : IntKind.i64.wrap ((i : Int) + 1) = ((i + 1 : Nat) : Int) := (by first | (simp only [IntKind.wrap_i64]; omega) | omega)
  rw [e8]
  clear e8
  exact ⟨⟨i + 1, n4, _, rfl, by omega, by omega, hs6, h6, s3.trans (h4.seg (by omega) (by omega) (by omega) (by omega) (by omega) (by omega)),
    ((m3.trans (m4.mono fun k _ h => .inr h)).trans_no m5).trans (m6.mono fun k _ h => .inl h)⟩, by simp only; omega⟩
end Go.Proofs.Ytemklabamlifdaa.Sortstring

/- The formulas of functions, printed by a program of mine (gen.py) out of the translation. -/
namespace Go.Proofs.Ytemklabamlifdaa
open Go Go.Proofs.Ytemklabamlifdaa.St
set_option maxRecDepth 100000

/-- slices.pdqsortOrdered[string] -/
noncomputable def C80 : Code := (Try.f80.body).getD .skip
def pl80 : Nat → Plan
  | 17 => (.quiet 0 (.quiet 1 (.quiet 2 (.quiet 3 (.quiet 4 (.quiet 5 (.quiet 6 (.quiet 7 (.quiet 8 (.quiet 9 (.quiet 10 (.quiet 11 (.eff 12 [] (.quiet 13 (.quiet 14 .done)))))))))))))))
  | _ => .done
def ls80 : Nat → List (Nat × LT)
  | 2 => [(1, (.one (.int .i64))), (2, (.one (.int .i64))), (3, (.one (.int .i64))), (8, (.one .bool)), (9, (.one .bool))]
  | 10 => [(0, .agg []), (3, (.one (.int .i64)))]
  | 14 => [(0, .agg []), (11, (.one (.int .i64))), (12, (.one (.int .i64)))]
  | 18 => [(0, .agg [])]
  | 21 => [(0, .agg []), (1, (.one (.int .i64)))]
  | _ => []
def W80 (dataa : Option Addr) (datal : Nat) (datac : Nat) (a_ : Int) (b : Int) (limit : Int) (w : World) (R : Value → World → Prop) : Prop :=
  (∃ z0 : Int → Int → Int → Bool → Bool → World → Prop, (∃ z1 : Int → Int → Int → Bool → Bool → World → Nat, ((z0 (a_) (b) (limit) (true) (true) (w)) ∧ (∀ (_ : Nat → Value), (∀ (x3 : Int), (∀ (x4 : Int), (∀ (x5 : Int), (∀ (b6 : Bool), (∀ (b7 : Bool), (∀ (w8 : World), ((z0 (x3) (x4) (x5) (b6) (b7) (w8)) → (ifK (decide (IntKind.wrap IntKind.i64 (x4 - x3) ≤ 12))
    (Ca Try.prog (82) (Array.mk [Value.slice dataa datal datac, Value.int IntKind.i64 x3, Value.int IntKind.i64 x4]) (w8) (fun v9 => (fun w10 =>
      ((v9 = Value.tuple (Array.mk (List.reverse []))) ∧ (R (Value.tuple (Array.mk (List.reverse []))) (w10))))))
    (ifK (x5 == 0)
      (Ca Try.prog (83) (Array.mk [Value.slice dataa datal datac, Value.int IntKind.i64 x3, Value.int IntKind.i64 x4]) (w8) (fun v11 => (fun w12 =>
        ((v11 = Value.tuple (Array.mk (List.reverse []))) ∧ (R (Value.tuple (Array.mk (List.reverse []))) (w12))))))
      (∃ z13 : Int → World → Prop, ((ifK (!b6)
        (Ca Try.prog (84) (Array.mk [Value.slice dataa datal datac, Value.int IntKind.i64 x3, Value.int IntKind.i64 x4]) (w8) (fun v14 => (fun w15 =>
          ((v14 = Value.tuple (Array.mk (List.reverse []))) ∧ (z13 (IntKind.wrap IntKind.i64 (x5 - 1)) (w15))))))
        (z13 (x5) (w8))) ∧ (∀ (_ : Nat → Value), (∀ (x17 : Int), (∀ (w18 : World), ((z13 (x17) (w18)) → (Ca Try.prog (85) (Array.mk [Value.slice dataa datal datac, Value.int IntKind.i64 x3, Value.int IntKind.i64 x4]) (w18) (fun v19 => (fun w20 =>
        (∃ x21 : Int, (∃ x22 : Int, ((v19 = Value.tuple (Array.mk (List.reverse [Value.int IntKind.i64 x22, Value.int IntKind.i64 x21]))) ∧ (∃ z23 : Int → Int → World → Prop, ((ifK (x22 == 2)
          (Ca Try.prog (86) (Array.mk [Value.slice dataa datal datac, Value.int IntKind.i64 x3, Value.int IntKind.i64 x4]) (w20) (fun v24 => (fun w25 =>
            ((v24 = Value.tuple (Array.mk (List.reverse []))) ∧ (z23 (IntKind.wrap IntKind.i64 (IntKind.wrap IntKind.i64 (x4 - 1) - IntKind.wrap IntKind.i64 (x21 - x3))) (1) (w25))))))
          (z23 (x21) (x22) (w20))) ∧ (∀ (_ : Nat → Value), (∀ (x27 : Int), (∀ (x28 : Int), (∀ (w29 : World), ((z23 (x27) (x28) (w29)) → (∃ z30 : World → Prop, ((ifK (b6)
          (ifK (b7)
            (ifK (x28 == 1)
              (Ca Try.prog (87) (Array.mk [Value.slice dataa datal datac, Value.int IntKind.i64 x3, Value.int IntKind.i64 x4]) (w29) (fun v31 => (fun w32 =>
                (∃ b33 : Bool, ((v31 = Value.bool b33) ∧ (ifK (b33)
                  (R (Value.tuple (Array.mk (List.reverse []))) (w32))
                  (z30 (w32))))))))
              (z30 (w29)))
            (z30 (w29)))
          (z30 (w29))) ∧ (∀ (_ : Nat → Value), (∀ (w35 : World), ((z30 (w35)) → (∃ z36 : Int → World → Prop, ((atW (World.drew w35) (fun w37 =>
          (ifK (decide (x3 > 0))
            (∃ a38 : Addr, ((dataa = some a38) ∧ (((0 : Int) ≤ IntKind.wrap IntKind.i64 (x3 - 1)) ∧ (((IntKind.wrap IntKind.i64 (x3 - 1) : Int) < (↑datal : Int)) ∧ (∃ s39 : ByteArray, ((World.cell? w37 (Addr.add a38 (Int.toNat (IntKind.wrap IntKind.i64 (x3 - 1)) * 1)) = some (Value.string s39)) ∧ (∃ a40 : Addr, ((dataa = some a40) ∧ (((0 : Int) ≤ x27) ∧ (((x27 : Int) < (↑datal : Int)) ∧ (∃ s41 : ByteArray, ((World.cell? w37 (Addr.add a40 (Int.toNat x27 * 1)) = some (Value.string s41)) ∧ (Ca Try.prog (88) (Array.mk [Value.string s39, Value.string s41]) (w37) (fun v42 => (fun w43 =>
              (∃ b44 : Bool, ((v42 = Value.bool b44) ∧ (ifK (!b44)
                (Ca Try.prog (89) (Array.mk [Value.slice dataa datal datac, Value.int IntKind.i64 x3, Value.int IntKind.i64 x4, Value.int IntKind.i64 x27]) (w43) (fun v45 => (fun w46 =>
                  (∃ x47 : Int, ((v45 = Value.int IntKind.i64 x47) ∧ ((z0 (x47) (x4) (x17) (b6) (b7) (w46)) ∧ (z1 x47 x4 x17 b6 b7 w46 < z1 x3 x4 x5 b6 b7 w8)))))))
                (z36 (x3) (w43))))))))))))))))))))
            (z36 (x3) (w37))))) ∧ (∀ (_ : Nat → Value), (∀ (x49 : Int), (∀ (w50 : World), ((z36 (x49) (w50)) → (Ca Try.prog (90) (Array.mk [Value.slice dataa datal datac, Value.int IntKind.i64 x49, Value.int IntKind.i64 x4, Value.int IntKind.i64 x27]) (w50) (fun v51 => (fun w52 =>
          (∃ x53 : Int, (∃ b54 : Bool, ((v51 = Value.tuple (Array.mk (List.reverse [Value.bool b54, Value.int IntKind.i64 x53]))) ∧ (((8 : Int) ≠ 0) ∧ (ifK (decide (IntKind.wrap IntKind.i64 (x53 - x49) < IntKind.wrap IntKind.i64 (x4 - x53)))
            (Ca Try.prog (80) (Array.mk [Value.slice dataa datal datac, Value.int IntKind.i64 x49, Value.int IntKind.i64 x53, Value.int IntKind.i64 x17]) (w52) (fun v55 => (fun w56 =>
              ((v55 = Value.tuple (Array.mk (List.reverse []))) ∧ ((z0 (IntKind.wrap IntKind.i64 (x53 + 1)) (x4) (x17) (decide (IntKind.wrap IntKind.i64 (x53 - x49) ≥ IntKind.wrap IntKind.i64 (Int.tdiv (IntKind.wrap IntKind.i64 (x4 - x3)) 8))) (b54) (w56)) ∧ (z1 (IntKind.wrap IntKind.i64 (x53 + 1)) x4 x17 (decide (IntKind.wrap IntKind.i64 (x53 - x49) ≥ IntKind.wrap IntKind.i64 (Int.tdiv (IntKind.wrap IntKind.i64 (x4 - x3)) 8))) b54 w56 < z1 x3 x4 x5 b6 b7 w8))))))
            (Ca Try.prog (80) (Array.mk [Value.slice dataa datal datac, Value.int IntKind.i64 (IntKind.wrap IntKind.i64 (x53 + 1)), Value.int IntKind.i64 x4, Value.int IntKind.i64 x17]) (w52) (fun v57 => (fun w58 =>
              ((v57 = Value.tuple (Array.mk (List.reverse []))) ∧ ((z0 (x49) (x53) (x17) (decide (IntKind.wrap IntKind.i64 (x4 - x53) ≥ IntKind.wrap IntKind.i64 (Int.tdiv (IntKind.wrap IntKind.i64 (x4 - x3)) 8))) (b54) (w58)) ∧ (z1 x49 x53 x17 (decide (IntKind.wrap IntKind.i64 (x4 - x53) ≥ IntKind.wrap IntKind.i64 (Int.tdiv (IntKind.wrap IntKind.i64 (x4 - x3)) 8))) b54 w58 < z1 x3 x4 x5 b6 b7 w8)))))))))))))))))))))))))))))))))))))))))))))))))))))))))
theorem ca80 (dataa : Option Addr) (datal : Nat) (datac : Nat) (a_ : Int) (b : Int) (limit : Int) (w : World) (R : Value → World → Prop) (h : W80 dataa datal datac a_ b limit w R) : Ca Try.prog 80 ⟨[(.slice dataa datal datac), (.int .i64 a_), (.int .i64 b), (.int .i64 limit)]⟩ w R := by
  have h1 : Try.prog.follows .mixedOrders = true := by kernel_rfl
  have h2 : Try.f80.body = some C80 := by kernel_rfl
  have h3 : (Try.f80.name == "runtime.NumGoroutine") = false := by kernel_rfl
  have h6 : Try.f80.results.toList = [] := by kernel_rfl
  have h4 : Nat.ble 4 134 = true := by kernel_rfl
  have h5 : okCode 134 pl80 ls80 C80 0 = true := by kernel_rfl
  have e : W80 dataa datal datac a_ b limit w R = wpC none Try.prog 134 pl80 ls80 C80 0 (endP Try.prog [] R) (fr0 [(.slice dataa datal datac), (.int .i64 a_), (.int .i64 b), (.int .i64 limit)]) [] w := by kernel_rfl
  exact ca_of' (P := Try.prog) (g := 80) (fn := Try.f80) (c := C80) (m := 134) (rs := []) (args := [(.slice dataa datal datac), (.int .i64 a_), (.int .i64 b), (.int .i64 limit)]) (pl := pl80) (ls := ls80) (w := w) (R := R) h1 Try.func80 h2 Try.ntmps80 h6 h3 h4 h5 (Eq.mp e h)

/-- slices.Sort[[]string,string] -/
noncomputable def C72 : Code := (Try.f72.body).getD .skip
def pl72 : Nat → Plan := fun _ => .done
def ls72 : Nat → List (Nat × LT) := fun _ => []
def W72 (xa : Option Addr) (xl : Nat) (xc : Nat) (w : World) (R : Value → World → Prop) : Prop :=
  (Ca Try.prog (81) (Array.mk [Value.int IntKind.u64 (IntKind.wrap IntKind.u64 (↑xl : Int))]) (w) (fun v0 => (fun w1 =>
    (∃ x2 : Int, ((v0 = Value.int IntKind.i64 x2) ∧ (Ca Try.prog (80) (Array.mk [Value.slice xa xl xc, Value.int IntKind.i64 0, Value.int IntKind.i64 (↑xl : Int), Value.int IntKind.i64 x2]) (w1) (fun v3 => (fun w4 =>
      ((v3 = Value.tuple (Array.mk (List.reverse []))) ∧ (R (Value.tuple (Array.mk (List.reverse []))) (w4)))))))))))
theorem ca72 (xa : Option Addr) (xl : Nat) (xc : Nat) (w : World) (R : Value → World → Prop) (h : W72 xa xl xc w R) : Ca Try.prog 72 ⟨[(.slice xa xl xc)]⟩ w R := by
  have h1 : Try.prog.follows .mixedOrders = true := by kernel_rfl
  have h2 : Try.f72.body = some C72 := by kernel_rfl
  have h3 : (Try.f72.name == "runtime.NumGoroutine") = false := by kernel_rfl
  have h6 : Try.f72.results.toList = [] := by kernel_rfl
  have h4 : Nat.ble 1 11 = true := by kernel_rfl
  have h5 : okCode 11 pl72 ls72 C72 0 = true := by kernel_rfl
  have e : W72 xa xl xc w R = wpC none Try.prog 11 pl72 ls72 C72 0 (endP Try.prog [] R) (fr0 [(.slice xa xl xc)]) [] w := by kernel_rfl
  exact ca_of' (P := Try.prog) (g := 72) (fn := Try.f72) (c := C72) (m := 11) (rs := []) (args := [(.slice xa xl xc)]) (pl := pl72) (ls := ls72) (w := w) (R := R) h1 Try.func72 h2 Try.ntmps72 h6 h3 h4 h5 (Eq.mp e h)
end Go.Proofs.Ytemklabamlifdaa

/- The library's general sort, at one type: sorting what is nearly sorted; the sort itself. -/
namespace Go.Proofs.Ytemklabamlifdaa.Sortstring
open Go Go.Proofs.Ytemklabamlifdaa Go.Proofs.Ytemklabamlifdaa.St

theorem wS {i : Nat} (h : i < 4611686018427387904) : IntKind.i64.wrap ((i : Int) + 1) = ((i + 1 : Nat) : Int) := by rw [wrap64 (by omega) (by omega)]; rfl
theorem wP {i : Nat} (h : i < 4611686018427387904) (h0 : 0 < i) : IntKind.i64.wrap ((i : Int) - 1) = ((i - 1 : Nat) : Int) := by rw [wrap64 (by omega) (by omega)]; omega
theorem wD {i j : Nat} (h : i < 4611686018427387904) (h0 : j ≤ i) : IntKind.i64.wrap ((i : Int) - (j : Int)) = ((i - j : Nat) : Int) := by rw [wrap64 (by omega) (by omega)]; omega

section
variable (e : TypeId) (d : Option Addr) (l c : Nat) (xs : List ByteArray) (w : World) (hd : Els Value.string e w d l c xs) (hl : l < 4611686018427387904)
include hd hl

theorem partial_ok (a b : Nat) (hab : a < b) (hb : b ≤ l) (hbel : Bel xs a b) (R : Value → World → Prop)
    (h : ∀ w' ys (q : Bool), Els Value.string e w' d l c ys → Seg a b xs ys → (q = true → Srt ys a b) → Mod (rowB d) w w' → R (.bool q) w') :
    Ca Try.prog 87 #[.slice d l c, .int .i64 a, .int .i64 b] w R := by
  refine ca87 d l c a b w R ?_
  rw [W87, wS (by omega)]
  refine ⟨fun x y w' => ∃ (i j : Nat) (ys : List ByteArray), x = i ∧ y = j ∧ a < i ∧ i ≤ b ∧ j ≤ 5 ∧ Els Value.string e w' d l c ys ∧ Seg a b xs ys ∧ Srt ys a i ∧ Mod (rowB d) w w', fun _ y _ => (5 - y).toNat,
    ⟨a + 1, 0, xs, rfl, rfl, by omega, by omega, by omega, hd, Seg.refl _ _ _, Srt.nil _ _ _ (Nat.le_refl _), Mod.refl _ _⟩, ?_⟩
  rintro _ _ _ w1 ⟨i0, j0, ys, rfl, rfl, hi1, hi2, hj5, h1, s1, srt1, m1⟩
  refine ifK_dec (fun hlt => ?_) (fun _ => h w1 ys false h1 s1 (fun h => by cases h) m1)
  have hj : (j0 : Int) < 5 := hlt
  clear hlt
  -- as long as it rises
  refine ⟨fun x w' => ∃ i : Nat, x = i ∧ a < i ∧ i ≤ b ∧ Els Value.string e w' d l c ys ∧ Srt ys a i ∧ (i < b → at0 ys i < at0 ys (i - 1)) ∧ Mod (rowB d) w w', ⟨fun x w' => ∃ i : Nat, x = i ∧ a < i ∧ i ≤ b ∧ Els Value.string e w' d l c ys ∧ Srt ys a i ∧ Mod (rowB d) w w',
    fun x _ => ((b : Int) - x).toNat, ⟨i0, rfl, hi1, hi2, h1, srt1, m1⟩, ?_⟩, ?_⟩
  · rintro _ _ w2 ⟨i, rfl, h3, h4, h2, srt2, m2⟩ w3 e3
    have m3 : Mod no w2 w3 := by subst e3; exact Mod.drew _
    clear e3
    refine ifK_dec (fun hib => ?_) (fun hib => ⟨i, rfl, h3, h4, h2.no m3, srt2, fun h => by omega, m2.trans_no m3⟩)
    have hib : i < b := by omega
    rw [wS (i := i) (by omega), wP (i := i) (by omega) (by omega)]
    refine nls (h2.no m3) i (i - 1) rfl rfl (by omega) (by omega) (fun hge => ⟨⟨i + 1, rfl, by omega, by omega, h2.no m3, (Ins.start srt2).done (.inr (Lin.nlt hge)), m2.trans_no m3⟩, by simp only; omega⟩)
      (fun hls => ⟨i, rfl, h3, h4, h2.no m3, srt2, fun _ => hls, m2.trans_no m3⟩)
  rintro _ _ w4 ⟨i, rfl, h3, h4, h2, srt2, hls, m2⟩
  refine ifK_eq (fun hib => ?_) (fun hib => ?_)
  · have hib : i = b := by omega
    subst hib
    exact h w4 ys true h2 s1 (fun _ => srt2) m2
  have hib : i < b := by omega
  have hls := hls hib
  rw [wD (i := b) (j := a) (by omega) (by omega), wD (i := i) (j := a) (by omega) (by omega), wD (i := b) (j := i) (by omega) (by omega), wS (i := i) (by omega), wS (i := j0) (by omega), wP (i := i) (by omega) (by omega)]
  refine ifK_of (fun _ => h w4 ys false h2 s1 (fun h => by cases h) m2) (fun _ => ?_)
  intro w5 e5
  have m5 : Mod no w4 w5 := by subst e5; exact Mod.drew _
  clear e5
  refine (h2.no m5).swp i (i - 1) rfl rfl (by omega) (by omega) fun w6 h6 m6 => ?_
  have s6 : Seg a b xs (swapL ys i (i - 1)) := s1.trans (h2.seg (by omega) (by omega) (by omega) (by omega) (by omega) (by omega))
  have m6 := (m2.trans_no m5).trans m6
  have srt6 : Srt (swapL ys i (i - 1)) a (i - 1) := by
    intro p q h7 h8 h9
    rw [at0_swapL (h2.lt (by omega)) (h2.lt (by omega)), at0_swapL (h2.lt (by omega)) (h2.lt (by omega)), if_neg (by omega), if_neg (by omega), if_neg (by omega), if_neg (by omega)]
    exact srt2 p q h7 h8 (by omega)
  -- the smaller one to the left
  refine ⟨fun w' => ∃ zs, Els Value.string e w' d l c zs ∧ Seg a b xs zs ∧ Srt zs a i ∧ Mod (rowB d) w w', ?_, ?_⟩
  · refine ifK_dec (fun hge => ?_) (fun hlt => ⟨_, h6, s6, Srt.nil _ _ _ (by omega), m6⟩)
    refine ⟨fun x w' => ∃ (j : Nat) (zs : List ByteArray), x = j ∧ a ≤ j ∧ j + 1 ≤ i ∧ Els Value.string e w' d l c zs ∧ Seg a b xs zs ∧ Ins zs a (i - 1) j ∧ Mod (rowB d) w w', fun x _ => x.toNat,
      ⟨i - 1, _, rfl, by omega, by omega, h6, s6, Ins.start srt6, m6⟩, ?_⟩
    rintro _ _ w7 ⟨j, zs, rfl, hj1, hj2, h7, s7, ins7, m7⟩
    have fin : (j ≤ a ∨ at0 zs (j - 1) ≤ at0 zs j) → Srt zs a i := fun hh => by
      have := ins7.done hh
      rwa [Nat.sub_add_cancel (by omega)] at this
    refine ifK_dec (fun hj0 => ?_) (fun hj0 => ⟨zs, h7, s7, fin (.inl (by omega)), m7⟩)
    have hj0 : 0 < j := by omega
    intro w8 e8
    have m8 : Mod no w7 w8 := by subst e8; exact Mod.drew _
    clear e8
    rw [wP (i := j) (by omega) hj0]
    refine nls (h7.no m8) j (j - 1) rfl rfl (by omega) (by omega) (fun hge => ⟨zs, h7.no m8, s7, fin (.inr (Lin.nlt hge)), m7.trans_no m8⟩) (fun hlt => ?_)
    have haj : a < j := by
      refine Nat.lt_of_le_of_ne hj1 fun e => ?_
      subst e
      exact absurd hlt (Lin.nle ((hbel.seg s7 (hd.le hb)) hj0 a (Nat.le_refl _) hab))
    intro w9 e9
    have m9 : Mod no w8 w9 := by subst e9; exact Mod.drew _
    clear e9
    refine ((h7.no m8).no m9).swp j (j - 1) rfl rfl (by omega) (by omega) fun w10 h10 m10 => ?_
    exact ⟨⟨j - 1, _, rfl, by omega, by omega, h10, s7.trans (h7.seg (by omega) (by omega) (by omega) (by omega) (by omega) (by omega)), ins7.step (h7.lt (by omega)) haj (by omega) hlt, ((m7.trans_no m8).trans_no m9).trans m10⟩, by simp only; omega⟩
  -- the greater one to the right
  rintro _ w11 ⟨zs, h11, s11, srt11, m11⟩
  have next : ∀ (w' : World) (us : List ByteArray), Els Value.string e w' d l c us → Seg a b xs us → Srt us a i → Mod (rowB d) w w' →
      (∃ (i' j' : Nat) (ys : List ByteArray), (i : Int) = i' ∧ ((j0 + 1 : Nat) : Int) = j' ∧ a < i' ∧ i' ≤ b ∧ j' ≤ 5 ∧ Els Value.string e w' d l c ys ∧ Seg a b xs ys ∧ Srt ys a i' ∧ Mod (rowB d) w w') ∧ (5 - ((j0 + 1 : Nat) : Int)).toNat < (5 - (j0 : Int)).toNat := by
    intro w' us hu su srtu mu
    exact ⟨⟨i, j0 + 1, us, rfl, rfl, h3, h4, by omega, hu, su, srtu, mu⟩, by omega⟩
  refine ifK_of (fun hge => ?_) (fun _ => next w11 zs h11 s11 srt11 m11)
  refine ⟨fun x w' => ∃ (j : Nat) (us : List ByteArray), x = j ∧ i < j ∧ j ≤ b ∧ Els Value.string e w' d l c us ∧ Seg a b xs us ∧ Srt us a i ∧ Mod (rowB d) w w', fun x _ => ((b : Int) - x).toNat,
    ⟨i + 1, zs, rfl, by omega, by omega, h11, s11, srt11, m11⟩, ?_⟩
  rintro _ _ w12 ⟨j, us, rfl, hj1, hj2, h12, s12, srt12, m12⟩
  refine ifK_dec (fun hjb => ?_) (fun _ => next w12 us h12 s12 srt12 m12)
  have hjb : j < b := by omega
  intro w13 e13
  have m13 : Mod no w12 w13 := by subst e13; exact Mod.drew _
  clear e13
  rw [wP (i := j) (by omega) (by omega), wS (i := j) (by omega)]
  refine nls (h12.no m13) j (j - 1) rfl rfl (by omega) (by omega) (fun _ => next w13 us (h12.no m13) s12 srt12 (m12.trans_no m13)) (fun hlt => ?_)
  intro w14 e14
  have m14 : Mod no w13 w14 := by subst e14; exact Mod.drew _
  clear e14
  refine ((h12.no m13).no m14).swp j (j - 1) rfl rfl (by omega) (by omega) fun w15 h15 m15 => ?_
  have s15 : Seg i b us (swapL us j (j - 1)) := h12.seg (by omega) (by omega) (by omega) (by omega) (by omega) (by omega)
  exact ⟨⟨j + 1, _, rfl, by omega, by omega, h15, s12.trans (s15.mono (by omega) (Nat.le_refl _)), srt12.of_out s15 (.inl (Nat.le_refl _)), ((m12.trans_no m13).trans_no m14).trans m15⟩, by simp only; omega⟩
end

/-- The general sort. -/
theorem pdq_ok (e : TypeId) (d : Option Addr) (l c : Nat) (hl : l < 4611686018427387904) : ∀ (n a b : Nat) (lim : Int) (xs : List ByteArray) (w : World), b - a ≤ n → Els Value.string e w d l c xs → a ≤ b → b ≤ l → Bel xs a b → ∀ R : Value → World → Prop,
    (∀ w' ys, Els Value.string e w' d l c ys → Seg a b xs ys → Srt ys a b → Mod (rowB d) w w' → R (.tuple #[]) w') →
    Ca Try.prog 80 #[.slice d l c, .int .i64 a, .int .i64 b, .int .i64 lim] w R := by
  intro n
  induction n using Nat.strongRecOn with
  | _ n ih =>
  intro a b lim xs w hn hd hab hb hbel R h
  refine ca80 d l c a b lim w R ?_
  refine ⟨fun x y _ _ _ w' => ∃ (a' b' : Nat) (ys : List ByteArray), x = a' ∧ y = b' ∧ a ≤ a' ∧ a' ≤ b' ∧ b' ≤ b ∧ Els Value.string e w' d l c ys ∧ Seg a b xs ys ∧ Alm ys a b a' b' ∧ Bel ys a' b' ∧ Mod (rowB d) w w', fun x y _ _ _ _ => (y - x).toNat,
    ⟨a, b, xs, rfl, rfl, Nat.le_refl _, hab, Nat.le_refl _, hd, Seg.refl _ _ _, Alm.start _ _ _, hbel, Mod.refl _ _⟩, ?_⟩
  rintro _ _ _ lim' b6 b7 w1 ⟨a', b', ys, rfl, rfl, ha, hab', hb', h1, s1, alm1, bel1, m1⟩
  have sorted : ∀ w' zs, Els Value.string e w' d l c zs → Seg a' b' ys zs → Srt zs a' b' → Mod (rowB d) w1 w' → R (.tuple #[]) w' := fun w' zs hz sz srt mz =>
    h w' zs hz (s1.trans (sz.mono ha hb')) ((alm1.seg sz ha hb' (h1.le hb)).full srt) (m1.trans mz)
  rw [wD (i := b') (j := a') (by omega) hab']
  refine ifK_dec (fun _ => ?_) (fun hlen => ?_)
  · exact insertion_ok e d l c a' b' ys w1 h1 hab' (by omega) hl _ fun w2 zs h2 s2 srt2 m2 => ⟨rfl, sorted w2 zs h2 s2 srt2 m2⟩
  have hlen : a' + 12 < b' := by omega
  refine ifK_of (fun _ => ?_) (fun _ => ?_)
  · exact heapSort_ok e d l c ys w1 h1 hl a' b' (by omega) (by omega) _ fun w2 zs h2 s2 srt2 m2 => ⟨rfl, sorted w2 zs h2 s2 srt2 m2⟩
  -- a part of another order is as good
  refine ⟨fun _ w' => ∃ zs, Els Value.string e w' d l c zs ∧ Seg a' b' ys zs ∧ Mod (rowB d) w1 w', ?_, ?_⟩
  · refine ifK_of (fun _ => ?_) (fun _ => ⟨ys, h1, Seg.refl _ _ _, Mod.refl _ _⟩)
    exact breakP_ok e d l c ys w1 h1 hl a' b' (by omega) (by omega) _ fun w2 zs h2 s2 m2 => ⟨rfl, zs, h2, s2, m2⟩
  rintro _ lim2 w2 ⟨zs, h2, s2, m2⟩
  refine choosePivot_ok e d l c zs w2 h2 hl a' b' (by omega) (by omega) _ fun w3 p hint hp1 hp2 m3 => ⟨_, _, rfl, ?_⟩
  refine ⟨fun x _ w' => ∃ (p : Nat) (us : List ByteArray), x = p ∧ a' ≤ p ∧ p < b' ∧ Els Value.string e w' d l c us ∧ Seg a' b' ys us ∧ Mod (rowB d) w1 w', ?_, ?_⟩
  · refine ifK_of (fun _ => ?_) (fun _ => ⟨p, zs, rfl, hp1, hp2, h2.no m3, s2, m2.trans_no m3⟩)
    refine reverse_ok e d l c zs w3 (h2.no m3) hl a' b' (by omega) (by omega) _ fun w4 us h4 s4 m4 => ⟨rfl, b' - 1 - (p - a'), us, ?_, by omega, by omega, h4, s2.trans s4, (m2.trans_no m3).trans m4⟩
    rw [wP (i := b') (by omega) (by omega), wD (i := p) (j := a') (by omega) hp1, wD (by omega) (by omega)]
  rintro _ _ hint2 w5 ⟨p, us, rfl, hp1, hp2, h5, s5, m5⟩
  refine ⟨fun w' => ∃ vs, Els Value.string e w' d l c vs ∧ Seg a' b' ys vs ∧ Mod (rowB d) w1 w', ?_, ?_⟩
  · refine ifK_of (fun _ => ifK_of (fun _ => ifK_of (fun _ => ?_) (fun _ => ⟨us, h5, s5, m5⟩)) (fun _ => ⟨us, h5, s5, m5⟩)) (fun _ => ⟨us, h5, s5, m5⟩)
    refine partial_ok e d l c us w5 h5 hl a' b' (by omega) (by omega) (bel1.seg s5 (h1.le (by omega))) _ fun w6 vs q h6 s6 srt6 m6 => ⟨q, rfl, ?_⟩
    exact ifK_of (fun hq => sorted w6 vs h6 (s5.trans s6) (srt6 hq) (m5.trans m6)) (fun _ => ⟨vs, h6, s5.trans s6, m5.trans m6⟩)
  rintro _ w7 ⟨vs, h7, s7, m7⟩
  have s7' : Seg a b xs vs := s1.trans (s7.mono ha hb')
  have m7' := m1.trans m7
  have alm7 := alm1.seg s7 ha hb' (h1.le hb)
  have bel7 := bel1.seg s7 (h1.le (by omega))
  -- parted into less and more
  refine ⟨fun x w' => x = (a' : Int) ∧ Els Value.string e w' d l c vs ∧ Mod (rowB d) w w', ?_, ?_⟩
  · intro w8 e8
    have m8 : Mod no w7 w8 := by subst e8; exact Mod.drew _
    clear e8
    refine ifK_dec (fun ha0 => ?_) (fun _ => ⟨rfl, h7.no m8, m7'.trans_no m8⟩)
    have ha0 : 0 < a' := by omega
    rw [wP (i := a') (by omega) ha0]
    refine nls (h7.no m8) (a' - 1) p rfl rfl (by omega) (by omega) (fun hge => ?_) (fun _ => ⟨rfl, h7.no m8, m7'.trans_no m8⟩)
    have hmin : ∀ k, a' ≤ k → k < b' → at0 vs p ≤ at0 vs k := fun k h8 h9 => Lin.tr (Lin.nlt hge) (bel7 ha0 k h8 h9)
    refine partEq_ok e d l c vs w8 (h7.no m8) hl a' b' p hp1 hp2 (by omega) hmin _ fun w9 ts m h9 s9 eq9 m9 => ⟨_, rfl, ?_⟩
    have hm1 := eq9.am
    have hm2 := eq9.mb
    exact ⟨⟨m, b', ts, rfl, rfl, by omega, hm2, hb', h9, s7'.trans (s9.mono ha hb'), (alm7.seg s9 ha hb' (h7.le hb)).eqd eq9, eq9.bel, (m7'.trans_no m8).trans m9⟩, by simp only; omega⟩
  rintro _ _ w10 ⟨rfl, h10, m10⟩
  refine partition_ok e d l c vs w10 h10 hl a' b' p hp1 hp2 (by omega) _ fun w11 ts m q h11 s11 pt11 m11 => ⟨_, _, rfl, by decide, ?_⟩
  have hm1 := pt11.am
  have hm2 := pt11.mb
  have s11' : Seg a b xs ts := s7'.trans (s11.mono ha hb')
  have alm11 := alm7.seg s11 ha hb' (h7.le hb)
  have bel11 := bel7.seg s11 (h7.le (by omega))
  have m11' := m10.trans m11
  rw [wS (i := m) (by omega)]
  refine ifK_of (fun _ => ?_) (fun _ => ?_)
  · refine ih (m - a') (by omega) a' m lim2 ts w11 (Nat.le_refl _) h11 hm1 (by omega) (bel11.mono (by omega)) _ fun w12 rs h12 s12 srt12 m12 => ⟨rfl, ?_⟩
    have pt12 := pt11.left (h11.le (by omega)) s12
    exact ⟨⟨m + 1, b', rs, rfl, rfl, by omega, by omega, hb', h12, s11'.trans (s12.mono (by omega) (by omega)), (alm11.seg (s12.mono (Nat.le_refl _) (by omega)) ha hb' (h11.le hb)).left pt12 srt12, pt12.bel, m11'.trans m12⟩, by simp only; omega⟩
  · refine ih (b' - (m + 1)) (by omega) (m + 1) b' lim2 ts w11 (Nat.le_refl _) h11 (by omega) (by omega) pt11.bel _ fun w12 rs h12 s12 srt12 m12 => ⟨rfl, ?_⟩
    have pt12 := pt11.right (h11.le (by omega)) s12
    exact ⟨⟨a', m, rs, rfl, rfl, ha, hm1, by omega, h12, s11'.trans (s12.mono (by omega) (by omega)), (alm11.seg (s12.mono (by omega) (Nat.le_refl _)) ha hb' (h11.le hb)).right pt12 srt12,
      (bel11.seg (s12.mono (by omega) (Nat.le_refl _)) (h11.le (by omega))).mono (by omega), m11'.trans m12⟩, by simp only; omega⟩

theorem sort_ok (e : TypeId) (d : Option Addr) (l c : Nat) (xs : List ByteArray) (w : World) (hd : Els Value.string e w d l c xs) (hl : l < 4611686018427387904) (R : Value → World → Prop)
    (h : ∀ w' ys, Els Value.string e w' d l c ys → ys.Perm xs → Srt ys 0 l → Mod (rowB d) w w' → R (.tuple #[]) w') :
    Ca Try.prog 72 #[.slice d l c] w R := by
  refine ca72 d l c w R ?_
  refine bitsLen_ok _ w _ fun n _ => ⟨n, rfl, ?_⟩
  exact pdq_ok e d l c hl l 0 l n xs w (Nat.le_refl _) hd (Nat.zero_le _) (Nat.le_refl _) (fun h => absurd h (by omega)) _ fun w' ys h1 h2 h3 h4 => ⟨rfl, h w' ys h1 h2.perm h3 h4⟩
end Go.Proofs.Ytemklabamlifdaa.Sortstring

/- The library's Keys of a directory, Collect, Sorted. -/
namespace Go.Proofs.Ytemklabamlifdaa
open Go Go.Proofs.Ytemklabamlifdaa Go.Proofs.Ytemklabamlifdaa.St

abbrev Strs (w : World) (a : Option Addr) (l c : Nat) (xs : List ByteArray) : Prop := Els Value.string 9 w a l c xs

theorem keys_seq (B : Nat) (w0 : World) (bx m : Nat) (t : TypeId) (D : List (ByteArray × Nat)) (hbx : w0.heap[bx]? = some (.cells #[.map (some m)] t (0, 0))) (hB : bx < B) (hm : MapAt w0 m (kvL Value.string (dirL D))) (hmB : m < B) (N : Nat) (hN : D.length ≤ N) :
    SeqOf Try.prog (.func (.func 73) #[] #[.pointer (some ⟨bx, 0, none⟩)]) B w0 N (fun v => ∃ k, v = .string k) (fun xs => xs.Perm (D.map fun p => .string p.1)) := by
  refine ⟨⟨_, _, _, rfl⟩, ?_⟩
  intro J y w R hk hst hJ hy hend
  refine (ca73 y (some ⟨bx, 0, none⟩) w R ?_ : Ca _ _ _ _ _)
  obtain ⟨es, clock, hes, hkv, hn, hc⟩ := hm
  have hes' := hk.old m _ hes (.inl hmB)
  refine ⟨some m, by rw [cl (hk.old bx _ hbx (.inl hB))]; rfl, es, clock, hes', ?_⟩
  intro w3 e3
  have m3 : Mod no w w3 := by subst e3; exact Mod.alloc _ _
  have b3 : w3.heap[w.heap.size]? = some (.mapIter (some m) clock #[] clock) := by subst e3; exact new_at _ _
  clear e3
  have hlen : D.length = es.toList.length := by
    have := congrArg List.length hkv
    simpa [kvL, dirL] using this.symm
  have hkeys : es.toList.map (·.key) = D.map fun p => .string p.1 := by
    have := congrArg (List.map Prod.fst) hkv
    simpa [kvL, dirL, Function.comp_def] using this
  have hkey : ∀ e ∈ es.toList, ∃ k, e.key = .string k := by
    intro e he
    have : e.key ∈ D.map fun p => Value.string p.1 := by rw [← hkeys]; exact List.mem_map_of_mem he
    obtain ⟨p, _, hp⟩ := List.mem_map.1 this
    exact ⟨p.1, hp.symm⟩
  refine ⟨fun w' => ∃ (seen : Array Nat) (c0 : Nat) (got : List MapEntry), w'.heap[w.heap.size]? = some (.mapIter (some m) clock seen c0) ∧ clock ≤ c0 ∧ (got ++ (leftOf es seen).toList).Perm es.toList ∧ J (got.map (·.key)) w' ∧ Kp B w0 w',
    fun w' => match w'.heap[w.heap.size]? with | some (.mapIter _ _ seen _) => (leftOf es seen).size | _ => 0, ⟨#[], clock, [], b3, Nat.le_refl _, by simp only [leftOf, Array.toList_filter, List.nil_append]; exact .of_eq (List.filter_eq_self.2 (by simp)), hst.1 _ _ _ hJ m3, hk.trans (Kp.of_no m3)⟩, ?_⟩
  rintro _ w7 ⟨seen, c0, got, hit, hcc, hperm, hJ7, hk7⟩
  have hm7 := hk7.old m _ hes (.inl hmB)
  rcases next_at (P := Try.prog) (ty := 0) hit hm7 hc hcc with ⟨h0, hrun⟩ | ⟨e, he, w8, hrun, m8, hit8⟩
  · refine ⟨_, w7, hrun, .inl ⟨rfl, hend w7 _ ?_ hJ7 hk7⟩⟩
    have : (leftOf es seen).toList = [] := List.eq_nil_of_length_eq_zero (by simpa using h0)
    rw [this, List.append_nil] at hperm
    rw [← hkeys]
    exact hperm.map _
  · refine ⟨_, w8, hrun, .inr ⟨_, _, rfl, ?_⟩⟩
    have hmem := (mem_left he).1
    have hk8 : Kp B w0 w8 := by
      refine ⟨m8.os.trans hk7.os, m8.tape.trans hk7.tape, m8.output.trans hk7.output, Nat.le_trans hk7.size m8.size, fun k o ho hko => m8.at (hk7.old k o ho hko) fun hS => ?_⟩
      cases hS
      have := lt_of_heap ho
      have := hk.size
      omega
    have hm8 := hk8.old m _ hes (.inl hmB)
    refine ⟨e.key, e.val, entry_at hit8 hm8 hmem hn, ?_⟩
    obtain ⟨k, hkk⟩ := hkey e hmem
    rw [hkk]
    have hJ8 := hst.2 _ _ _ _ _ hJ7 hit rfl m8
    have hll : got.length < D.length := by
      have h1 := hperm.length_eq
      have h2 : 0 < (leftOf es seen).toList.length := List.length_pos_of_mem he
      rw [List.length_append] at h1
      omega
    refine hy _ (.string k) w8 hk8 hJ8 (by simpa using (by omega : got.length < N)) ⟨k, rfl⟩ _ fun w15 hk15 hJ15 => ⟨true, rfl, ?_⟩
    have hit15 := hk15.old _ _ hit8 (.inr rfl)
    refine ⟨⟨seen.push e.born, clock, got ++ [e], hit15, Nat.le_refl _, ?_, by rw [List.map_append]; simpa [hkk] using hJ15, hk8.trans hk15⟩, ?_⟩
    · rw [List.append_assoc]
      exact ((List.Perm.append_left got (left_perm hn he)).symm).trans hperm
    · simp only [hit15, hit]
      exact left_shrinks es seen e he

/-- Sorted(Keys(m)): a new row of the directory's names, rising. -/
theorem sortedKeys_ok (m : Nat) (D : List (ByteArray × Nat)) (w : World) (hm : MapAt w m (kvL Value.string (dirL D))) (hs : D.length < 1099511627776) :
    Ca Try.prog 50 #[.map (some m)] w (fun sv w1 => Mod no w w1 ∧ ∀ R : Value → World → Prop,
      (∀ w' a l c ys, Strs w' a l c ys → ys.Perm (D.map (·.1)) → Srt ys 0 l → Mod no w1 w' → (∀ k, rowB a k → w1.heap.size ≤ k) → R (.slice a l c) w') → Ca Try.prog 49 #[sv] w1 R) := by
  refine ca50 (some m) w _ ?_
  intro w1 e1
  have m1 : Mod no w w1 := by subst e1; exact Mod.alloc _ _
  have b1 : w1.heap[w.heap.size]? = some (.cells #[.map (some m)] 63 (0, 0)) := by subst e1; exact new_at _ _
  have s1 : w1.heap.size = w.heap.size + 1 := by subst e1; simp
  clear e1
  have hm1 := hm.mod m1 id
  have hmlt := hm.lt
  refine ⟨m1, fun R h => ?_⟩
  refine ca49 _ w1 R ?_
  refine ca71 _ w1 _ ?_
  refine Seqstring.appendSeq_ok _ D.length _ w1 (by omega) (keys_seq w1.heap.size w1 w.heap.size m 63 D b1 (by omega) hm1 (by omega) D.length (Nat.le_refl _)) _ ?_
  intro w2 a l c xs hperm ho m2 hnew
  refine ⟨a, l, c, rfl, a, l, c, rfl, ?_⟩
  obtain ⟨ys, hys, hyp⟩ : ∃ ys : List ByteArray, xs = ys.map .string ∧ ys.Perm (D.map (·.1)) := by
    have : ∀ (xs : List Value) (ts : List ByteArray), xs.Perm (ts.map Value.string) → ∃ ys : List ByteArray, xs = ys.map .string ∧ ys.Perm ts := by
      intro xs ts hp
      have hall : ∀ v ∈ xs, ∃ k, v = .string k := fun v hv => by
        obtain ⟨k, _, e⟩ := List.mem_map.1 (hp.mem_iff.1 hv)
        exact ⟨k, e.symm⟩
      let g : Value → ByteArray := fun v => match v with | .string n => n | _ => ByteArray.mk #[]
      refine ⟨xs.map g, ?_, ?_⟩
      · rw [List.map_map]
        conv => lhs; rw [← List.map_id xs]
        apply List.map_congr_left
        intro v hv
        obtain ⟨k, rfl⟩ := hall v hv
        rfl
      · have := hp.map g
        rw [List.map_map] at this
        simpa [g, Function.comp_def] using this
    refine this xs (D.map (·.1)) ?_
    rw [List.map_map]
    exact hperm
  subst hys
  have hl : l = D.length := by
    have h1 := (row_len ho).2.1
    have h2 := hyp.length_eq
    rw [List.length_map] at h1 h2
    omega
  refine Sortstring.sort_ok 9 a l c ys w2 ho (by omega) _ fun w3 zs hz hzp hsrt m3 => ⟨rfl, ?_⟩
  refine h w3 a l c zs hz (hzp.trans hyp) hsrt ?_ fun k hk => by have := hnew k hk; omega
  exact m2.new m3 fun k hk => by have := hnew k hk; omega

/-- The names that rise are these ones. -/
theorem sorted_unique {ys : List ByteArray} {D : List (ByteArray × Nat)} (hp : ys.Perm (D.map (·.1))) (hs : Srt ys 0 ys.length) (hr : Rises D) : ys = D.map (·.1) := by
  have hle : ∀ {xs : List ByteArray}, Srt xs 0 xs.length → xs.Pairwise (· ≤ ·) := by
    intro xs h
    rw [List.pairwise_iff_getElem]
    intro i j hi hj hij
    have := h i j (Nat.zero_le _) hij hj
    simpa [at0, hi, hj] using this
  have h1 := hle hs
  have h2 : (D.map (·.1)).Pairwise (· ≤ ·) := List.Pairwise.imp (fun h => Lin.lle h) hr
  refine List.Perm.eq_of_pairwise (le := fun a b => a ≤ b) ?_ h1 h2 hp
  intro a b _ _ hab hba
  exact str_tri hba hab
end Go.Proofs.Ytemklabamlifdaa

/- Contracts of the store's calls. -/
namespace Go.Proofs.Ytemklabamlifdaa
open Go Go.Proofs.Ytemklabamlifdaa.St

theorem ifNe {x y : Int} {A B : Prop} (h1 : x ≠ y → A) (h2 : x = y → B) : ifK (x != y) A B := ifK_of (fun h => h1 (by simpa using h)) (fun h => h2 (by simpa using h))

section
variable {w : World} {s : Nat} {F : Nat → Prop} {a : AS}

theorem new_ok (room : Int) (w : World) (R : Value → World → Prop) (h1 : (room < 0 ∨ 1073741824 < room) → R (.pointer none) w)
    (h2 : 0 ≤ room → room ≤ 1073741824 → ∀ w' s, Stt w' s (fun k => w.heap.size ≤ k) (AS.new room) → Mod no w w' → R (.pointer (some ⟨s, 0, none⟩)) w') : Ca Try.prog 13 #[.int .i64 room] w R := by
  refine ca13 room w R ?_
  refine ifK_dec (fun h => h1 (.inl h)) (fun hl => ifK_dec (fun h => h1 (.inr h)) (fun hr => ?_))
  intro w0 e0
  have m0 : Mod no w w0 := by subst e0; exact Mod.alloc _ _
  have n0 : MapAt w0 w.heap.size [] := by subst e0; exact MapAt.new w
  clear e0
  intro w1 e1
  have m1 : Mod no w0 w1 := by subst e1; exact Mod.alloc _ _
  have n1 : MapAt w1 w0.heap.size [] := by subst e1; exact MapAt.new w0
  clear e1
  intro w2 e2
  have m2 : Mod no w1 w2 := by subst e2; exact Mod.alloc _ _
  have c2 : w2.heap[w1.heap.size]? = some (.cells #[.int .i64 room, .map (some w.heap.size), .map (some w0.heap.size), .bool false, .int .i64 0, .int .i64 0, .int .i64 0] 65 (0, 0)) := by subst e2; exact new_at _ _
  clear e2
  have l0 := n0.lt
  have l1 := n1.lt
  have z0 := m0.size
  have z1 := m1.size
  have hnl : ∀ i, ¬ (AS.new room).Live i := by
    rintro i (⟨n, hn⟩ | ⟨n, hn⟩) <;> simp [AS.new] at hn
  exact h2 (by omega) (by omega) w2 _ ⟨w.heap.size, w0.heap.size, [], [], fun i => i, ⟨c2, (n0.mod m1 id).mod m2 id, n1.mod m2 id⟩, .refl _, .refl _, fun i hi => absurd hi (hnl i), fun i j hi => absurd hi (hnl i), by omega, AS.Ok.new (by omega) (by omega), (by omega : w.heap.size ≤ w1.heap.size), Nat.le_refl _, z0, fun i hi => absurd hi (hnl i)⟩ ((m0.trans m1).trans m2)

theorem power2_ok (h : Stt w s F a) (R : Value → World → Prop) (hR : R (.int .i64 (if a.dark then 9 else 0)) w) : Ca Try.prog 43 #[.pointer (some ⟨s, 0, none⟩)] w R :=
  let ⟨_, _, _, _, _, h⟩ := h
  power_ok s _ w h.st R hR
theorem on2_ok (h : Stt w s F a) (R : Value → World → Prop) (hR : R (.bool (!a.dark)) w) : Ca Try.prog 26 #[.pointer (some ⟨s, 0, none⟩)] w R :=
  let ⟨_, _, _, _, _, h⟩ := h
  on_ok s _ w h.st R hR
theorem fail2_ok (h : Stt w s F a) (keep : Int) (R : Value → World → Prop) (hR : ∀ w', StP s F w (a.fail keep) w' → R (.tuple #[]) w') : Ca Try.prog 18 #[.pointer (some ⟨s, 0, none⟩), .int .i64 keep] w R :=
  let ⟨_, _, _, _, _, h⟩ := h
  fail_ok h keep R hR

theorem power3_ok (h : Stt w s F a) (R : Value → World → Prop) (hR : ∀ w', StP s F w a.power w' → R (.tuple #[]) w') : Ca Try.prog 19 #[.pointer (some ⟨s, 0, none⟩)] w R := by
  obtain ⟨nb, sb, N, S, φ, h⟩ := h
  have hc := h.st.cell
  refine ca19 _ w R ?_
  refine (ifK_of (fun _ => ?_) (fun h => by cases h) : ifK true _ _)
  obtain ⟨q1, q2, q3, q4⟩ := setFile hc 3 (by simp) (.bool false)
  refine ⟨some nb, by rw [cl1 hc]; rfl, (ifK_of (fun _ => ?_) (fun h => by cases h) : ifK true _ _)⟩
  refine ⟨q1, q2, fun w4 e4 => ?_⟩
  rw [← e4] at q3 q4
  clear e4
  obtain ⟨r1, r2, r3, r4⟩ := setFile q4 5 (by simp) (.int .i64 0)
  refine ⟨r1, r2, fun w7 e7 => hR w7 ?_⟩
  rw [← e7] at r3 r4
  have m := q3.trans r3
  exact ⟨F, ⟨_, _, _, _, _, h.scal m a.power rfl rfl rfl rfl r4⟩, fun _ hk => .inl hk, m.mono fun k _ hk => by cases hk; exact h.fs⟩
theorem count_ok (h : Stt w s F a) (R : Value → World → Prop) (hR : R (.int .i64 a.count) w) : Ca Try.prog 29 #[.pointer (some ⟨s, 0, none⟩)] w R := by
  obtain ⟨nb, sb, N, S, φ, h⟩ := h
  refine ca29 _ w R ?_
  refine (ifK_of (fun h => by cases h) (fun _ => ?_) : ifK false _ _)
  exact ⟨a.count, by rw [cl1 h.st.cell]; rfl, hR⟩
theorem plan_ok (h : Stt w s F a) (n keep : Int) (R : Value → World → Prop) (hR : ∀ w', StP s F w (a.plan n keep).1 w' → R (.int .i64 (a.plan n keep).2) w') : Ca Try.prog 24 #[.pointer (some ⟨s, 0, none⟩), .int .i64 n, .int .i64 keep] w R := by
  have h0 := h
  obtain ⟨nb, sb, N, S, φ, h⟩ := h
  refine ca24 _ n keep w R ?_
  refine power2_ok h0 _ ⟨_, rfl, ?_⟩
  cases hd : a.dark with
  | true =>
    have hp : a.plan n keep = (a, 9) := by rw [AS.plan, if_pos hd]
    rw [hp] at hR
    exact (ifK_of (fun _ => hR w (StP.refl h0)) (fun h => by cases h) : ifK true _ _)
  | false =>
    refine (ifK_of (fun h => by cases h) (fun _ => ?_) : ifK false _ _)
    refine ifK_dec (fun hn => ?_) (fun hn => ?_)
    · have hp : a.plan n keep = (a, 2) := by rw [AS.plan, if_neg (by rw [hd]; simp), if_pos hn]
      rw [hp] at hR
      exact hR w (StP.refl h0)
    · have hp : a.plan n keep = ({ a with left := n, keep := keep }, 0) := by rw [AS.plan, if_neg (by rw [hd]; simp), if_neg hn]
      rw [hp] at hR
      have hc := h.st.cell
      obtain ⟨q1, q2, q3, q4⟩ := setFile hc 5 (by simp) (.int .i64 n)
      refine ⟨q1, q2, fun w4 e4 => ?_⟩
      rw [← e4] at q3 q4
      clear e4
      obtain ⟨r1, r2, r3, r4⟩ := setFile q4 6 (by simp) (.int .i64 keep)
      refine ⟨r1, r2, fun w7 e7 => hR w7 ?_⟩
      rw [← e7] at r3 r4
      have m := q3.trans r3
      exact ⟨F, ⟨_, _, _, _, _, h.scal m { a with left := n, keep := keep } rfl rfl rfl rfl r4⟩, fun _ hk => .inl hk, m.mono fun k _ hk => by cases hk; exact h.fs⟩

theorem used_ok (h : Stt w s F a) (R : Value → World → Prop) (hR : ∀ w', Mod no w w' → R (.int .i64 a.used) w') : Ca Try.prog 28 #[.pointer (some ⟨s, 0, none⟩)] w R := by
  have h0 := h
  obtain ⟨nb, sb, N, S, φ, h⟩ := h
  refine ca28 _ w R ?_
  refine on2_ok h0 _ ⟨_, rfl, ?_⟩
  cases hd : a.dark with
  | true =>
    have hp : a.used = 0 := by rw [AS.used, if_pos hd]
    rw [hp] at hR
    exact (ifK_of (fun _ => hR w (Mod.refl _ _)) (fun h => by cases h) : ifK true _ _)
  | false =>
    have hp : a.used = a.need := by rw [AS.used, if_neg (by rw [hd]; simp)]
    rw [hp] at hR
    refine (ifK_of (fun h => by cases h) (fun _ => ?_) : ifK false _ _)
    intro w3 e3
    have m3 : Mod no w w3 := by subst e3; exact Mod.drew _
    clear e3
    have h3 := h.no m3
    refine ⟨a.room, by rw [cl1 h3.st.cell]; rfl, ?_⟩
    refine free2_ok h3 _ fun w7 m7 => ⟨_, rfl, by rw [cl2 (h3.no m7).st.cell]; rfl, ?_⟩
    have hle := AS.need_le h.ok
    have hN := h.ok.dirN
    have h01 := h.ok.room0
    have h02 := h.ok.room1
    rw [wrap64 (by omega) (by omega), show a.room - (a.room - (a.need : Int)) = a.need by omega]
    exact hR w7 (m3.trans m7)

theorem names_ok (h : Stt w s F a) (R : Value → World → Prop) (hR : ∀ w' p l c, Strs w' p l c a.names → Mod no w w' → (∀ k, rowB p k → w.heap.size ≤ k) → R (.slice p l c) w') : Ca Try.prog 23 #[.pointer (some ⟨s, 0, none⟩)] w R := by
  have h0 := h
  obtain ⟨nb, sb, N, S, φ, h⟩ := h
  refine ca23 _ w R ?_
  refine on2_ok h0 _ ⟨_, rfl, ?_⟩
  cases hd : a.dark with
  | true =>
    have hp : a.names = [] := by rw [AS.names, if_pos hd]
    rw [hp] at hR
    exact (ifK_of (fun _ => hR w none 0 0 (Els.nil _ _) (Mod.refl _ _) (fun k hk => by simp [rowB] at hk)) (fun h => by cases h) : ifK true _ _)
  | false =>
    have hp : a.names = a.dir.map (·.1) := by rw [AS.names, if_neg (by rw [hd]; simp)]
    rw [hp] at hR
    refine (ifK_of (fun h => by cases h) (fun _ => ?_) : ifK false _ _)
    refine ⟨some nb, by rw [cl1 h.st.cell]; rfl, ?_⟩
    have hlen := h.len
    have hN := h.ok.dirN
    refine (sortedKeys_ok nb N w h.st.now (by omega)).mono fun v w1 ⟨m1, hk⟩ => ⟨_, rfl, ?_⟩
    refine hk _ fun w2 p l c ys hy hperm hsrt m2 hnew => ⟨p, l, c, rfl, ?_⟩
    have hnm : (N.map (·.1)).Perm (a.dir.map (·.1)) := by
      have := h.now.map (·.1)
      rwa [List.map_map] at this
    have hl := hy.len.1
    have he : ys = a.dir.map (·.1) := sorted_unique (hperm.trans hnm) (by rw [hl]; exact hsrt) h.ok.dirS
    subst he
    exact hR w2 p l c hy (m1.trans m2) fun k hk => Nat.le_trans m1.size (hnew k hk)

theorem read_ok (h : Stt w s F a) (name : ByteArray) (hn : name.size < 4611686018427387904) (R : Value → World → Prop)
    (hR : ∀ w' p l c, Els u8v 5 w' p l c (a.read name).1 → Mod no w w' → (∀ k, rowB p k → w.heap.size ≤ k) → R (.tuple #[.slice p l c, .int .i64 (a.read name).2]) w') : Ca Try.prog 20 #[.pointer (some ⟨s, 0, none⟩), .string name] w R := by
  obtain ⟨nb, sb, N, S, φ, h⟩ := h
  refine ca20 _ name w R ?_
  refine known2_ok h name hn _ (fun f hd hg hf w1 m1 => ?_) (fun hk w1 m1 => ?_)
  · refine ⟨_, _, rfl, (ifK_of (fun h => by cases h) (fun _ => ?_) : ifK false _ _)⟩
    obtain ⟨hk, hi⟩ := AS.known_of hd hg hf
    have hr : a.read name = ((a.file f).1, 0) := by rw [AS.read, if_pos hk, hi]
    rw [hr] at hR
    have h1 := h.no m1
    obtain ⟨pa, ca, pb, cb, hfc, ha, _⟩ := h1.file f (.inl ⟨name, dget_some hf⟩)
    have hfl := h.ok.flen f
    refine ⟨pa, _, ca, by rw [cl1 hfc]; rfl, ?_⟩
    exact clone8_ok (Rd.of_els ha) (by omega) _ fun w2 p c r2 m2 n2 => ⟨p, _, c, rfl, hR w2 p _ c r2 (m1.trans m2) fun k hk => Nat.le_trans m1.size (n2 k hk)⟩
  · refine ⟨_, _, rfl, ifNe (fun _ => ?_) (fun h => absurd h hk)⟩
    have hr : a.read name = ([], a.known name) := by rw [AS.read, if_neg hk]
    rw [hr] at hR
    exact hR w1 none 0 0 (Els.nil _ _) m1 fun k hk => by simp [rowB] at hk

theorem make_ok (h : Stt w s F a) (name : ByteArray) (hn : name.size < 4611686018427387904) (R : Value → World → Prop) (hR : ∀ w', StP s F w (a.make name).1 w' → R (.int .i64 (a.make name).2) w') :
    Ca Try.prog 14 #[.pointer (some ⟨s, 0, none⟩), .string name] w R := by
  have h0 := h
  obtain ⟨nb, sb, N, S, φ, h⟩ := h
  refine ca14 _ name w R ?_
  intro w0 e0
  have m0 : Mod no w w0 := by subst e0; exact Mod.alloc _ _
  have c0 : w0.heap[w.heap.size]? = some (.cells #[.pointer (some ⟨s, 0, none⟩)] 25 (0, 0)) := by subst e0; exact new_at _ _
  clear e0
  intro w1 e1
  have m1 : Mod no w0 w1 := by subst e1; exact Mod.alloc _ _
  have c1 : w1.heap[w0.heap.size]? = some (.cells #[.string name] 9 (0, 0)) := by subst e1; exact new_at _ _
  clear e1
  have c01 := m1.at' c0
  have m01 := m0.trans m1
  refine ⟨_, by rw [cl c01]; rfl, name, by rw [cl c1]; rfl, ?_⟩
  refine known2_ok (h.no m01) name hn _ (fun f hd hg hf w2 m2 => ?_) (fun hk w2 m2 => ?_)
  · refine ⟨_, _, rfl, (ifK_of (fun _ => ?_) (fun h => by cases h) : ifK true _ _)⟩
    obtain ⟨hk, hi⟩ := AS.known_of hd hg hf
    have hr : a.make name = (a, 4) := by rw [AS.make, if_pos hk]
    rw [hr] at hR
    exact hR w2 (StP.of_no h0 (m01.trans m2))
  · refine ⟨_, _, rfl, ifK_eq (fun h => absurd h hk) (fun _ => ?_)⟩
    refine ifNe (fun hne => ?_) (fun he => ?_)
    · have hr : a.make name = (a, a.known name) := by rw [AS.make, if_neg hk, if_neg hne]
      rw [hr] at hR
      exact hR w2 (StP.of_no h0 (m01.trans m2))
    · refine ⟨_, by rw [cl (m2.at' c01)]; rfl, ?_⟩
      have hgood : a.dark = false ∧ goodB name = true := by
        unfold AS.known at he
        split at he
        · cases he
        · split at he
          · cases he
          · rename_i h1 h2
            exact ⟨by simpa using h1, by simpa using h2⟩
      refine free2_ok ((h.no m01).no m2) _ fun w3 m3 => ⟨_, rfl, ifK_dec (fun hr => ?_) (fun hr => ?_)⟩
      · have hr' : a.make name = (a, 6) := by rw [AS.make, if_neg hk, if_pos he, if_pos hr]
        rw [hr'] at hR
        exact hR w3 (StP.of_no h0 ((m01.trans m2).trans m3))
      · have hr' : a.make name = a.counted fun a => { a with all := a.all ++ [([], [])], dir := dset name a.all.length a.dir } := by rw [AS.make, if_neg hk, if_pos he, if_neg hr]
        rw [hr'] at hR
        refine ⟨_, by rw [cl (m3.at' (m2.at' c01))]; rfl, ?_⟩
        have h3 := ((h.no m01).no m2).no m3
        refine counted_ok h3 _ _ (make1_does h3 (m3.at' (m2.at' c01)) (m3.at' (m2.at' c1)) hgood.2 hr) _ fun w4 hp => ⟨_, rfl, hR w4 (hp.pre ((m01.trans m2).trans m3))⟩

/-- A pointer that is put into a box of its own. -/
theorem boxF (p : Option Addr) (w2 : World) (K : World → Prop) (hK : ∀ w7, w7.heap[w2.heap.size]? = some (.cells #[.pointer p] 68 (0, 0)) → Mod no w2 w7 → K w7) :
    atW (w2.alloc (.cells #[.pointer none] 68)) fun w5 => (∃ v6 : Value, w5.cell? (Addr.add ⟨w2.heap.size, 0, none⟩ 0) = some v6) ∧ w5.frozen? (Addr.add ⟨w2.heap.size, 0, none⟩ 0) = false ∧ atW (w5.setCell (Addr.add ⟨w2.heap.size, 0, none⟩ 0) (.pointer p)) fun w7 => K w7 := by
  intro w5 e5
  have m5 : Mod no w2 w5 := by subst e5; exact Mod.alloc _ _
  have b5 : w5.heap[w2.heap.size]? = some (.cells #[.pointer none] 68 (0, 0)) := by subst e5; exact new_at _ _
  clear e5
  refine ⟨⟨_, by rw [cl1 b5]; rfl⟩, fz1 b5 _, fun w7 e7 => ?_⟩
  have m7 : Mod (on w2.heap.size) w5 w7 := by subst e7; exact Mod.set1 _ _ _ _
  have b7 : w7.heap[w2.heap.size]? = some (.cells #[.pointer p] 68 (0, 0)) := by subst e7; rw [set1 b5]; rfl
  exact hK w7 b7 (m5.new m7 fun k hk => by cases hk; exact Nat.le_refl _)

theorem write_ok (h : Stt w s F a) (name : ByteArray) (hn : name.size < 4611686018427387904) {ba : Option Addr} {bl bc : Nat} {bs : Bs} (hb : Rd w ba bl bc bs) (hbF : 0 < bl → ∀ k, rowB ba k → ¬ F k) (R : Value → World → Prop)
    (hR : ∀ w', StP s F w (a.write name bs).1 w' → R (.int .i64 (a.write name bs).2) w') : Ca Try.prog 15 #[.pointer (some ⟨s, 0, none⟩), .string name, .slice ba bl bc] w R := by
  have h0 := h
  obtain ⟨nb, sb, N, S, φ, h⟩ := h
  have hbl := hb.len
  refine ca15 _ name ba bl bc w R ?_
  intro w0 e0
  have m0 : Mod no w w0 := by subst e0; exact Mod.alloc _ _
  have c0 : w0.heap[w.heap.size]? = some (.cells #[.slice ba bl bc] 24 (0, 0)) := by subst e0; exact new_at _ _
  clear e0
  refine known2_ok (h.no m0) name hn _ (fun f hd hg hf w2 m2 => ⟨_, _, rfl, boxF _ w2 _ fun w7 b7 m7 => ?_⟩) (fun hk w2 m2 => ⟨_, _, rfl, boxF _ w2 _ fun w7 b7 m7 => ?_⟩)
  · refine (ifK_of (fun h => by cases h) (fun _ => ?_) : ifK false _ _)
    obtain ⟨hk, hi⟩ := AS.known_of hd hg hf
    intro w8 e8
    have m8 : Mod no w0 w8 := by subst e8; exact (m2.trans m7).trans (Mod.drew _)
    have b8 : w8.heap[w2.heap.size]? = some (.cells #[.pointer (some ⟨φ f, 0, none⟩)] 68 (0, 0)) := by subst e8; exact b7
    clear e8
    refine ⟨ba, bl, bc, by rw [cl (m8.at' c0)]; rfl, ?_⟩
    have h8 := (h.no m0).no m8
    refine free2_ok h8 _ fun w9 m9 => ⟨_, rfl, by rw [cl1 (m9.at' (m8.at' c0))]; rfl, ifK_dec (fun hr => ?_) (fun hr => ?_)⟩
    · have hr' : a.write name bs = (a, 6) := by rw [AS.write, if_pos hk, if_pos (by omega)]
      rw [hr'] at hR
      exact hR w9 (StP.of_no h0 ((m0.trans m8).trans m9))
    · have hr' : a.write name bs = a.counted fun a => a.upd (a.idx name) fun x => (x.1 ++ bs, x.2) := by rw [AS.write, if_pos hk, if_neg (by omega)]
      rw [hr'] at hR
      have h9 := h8.no m9
      refine counted_ok h9 _ _ (write1_does h9 hf (m9.at' b8) (m9.at' (m8.at' c0)) (hb.no ((m0.trans m8).trans m9)) hbF (by omega)) _ fun w10 hp => ⟨_, rfl, hR w10 (hp.pre ((m0.trans m8).trans m9))⟩
  · refine ifNe (fun _ => ?_) (fun h => absurd h hk)
    have hr' : a.write name bs = (a, a.known name) := by rw [AS.write, if_neg hk]
    rw [hr'] at hR
    exact hR w7 (StP.of_no h0 ((m0.trans m2).trans m7))

theorem cut_ok (h : Stt w s F a) (name : ByteArray) (hn : name.size < 4611686018427387904) (n : Int) (R : Value → World → Prop)
    (hR : ∀ w', StP s F w (a.cut name n).1 w' → R (.int .i64 (a.cut name n).2) w') : Ca Try.prog 30 #[.pointer (some ⟨s, 0, none⟩), .string name, .int .i64 n] w R := by
  have h0 := h
  obtain ⟨nb, sb, N, S, φ, h⟩ := h
  refine ca30 _ name n w R ?_
  intro w0 e0
  have m0 : Mod no w w0 := by subst e0; exact Mod.alloc _ _
  have c0 : w0.heap[w.heap.size]? = some (.cells #[.int .i64 n] 3 (0, 0)) := by subst e0; exact new_at _ _
  clear e0
  refine known2_ok (h.no m0) name hn _ (fun f hd hg hf w2 m2 => ⟨_, _, rfl, boxF _ w2 _ fun w7 b7 m7 => ?_⟩) (fun hk w2 m2 => ⟨_, _, rfl, boxF _ w2 _ fun w7 b7 m7 => ?_⟩)
  · refine (ifK_of (fun h => by cases h) (fun _ => ?_) : ifK false _ _)
    obtain ⟨hk, hi⟩ := AS.known_of hd hg hf
    intro w8 e8
    have m8 : Mod no w0 w8 := by subst e8; exact (m2.trans m7).trans (Mod.drew _)
    have b8 : w8.heap[w2.heap.size]? = some (.cells #[.pointer (some ⟨φ f, 0, none⟩)] 68 (0, 0)) := by subst e8; exact b7
    clear e8
    have h8 := (h.no m0).no m8
    have m08 := m0.trans m8
    have bad : (n < 0 ∨ n > a.len f) → R (.int .i64 2) w8 := fun hb => by
      have hr' : a.cut name n = (a, 2) := by rw [AS.cut, if_pos hk, hi, if_pos hb]
      rw [hr'] at hR
      exact hR w8 (StP.of_no h0 m08)
    obtain ⟨pa, ca, pb, cb, hfc, _⟩ := h8.file f (.inl ⟨name, dget_some hf⟩)
    refine ⟨n, by rw [cl (m8.at' c0)]; rfl, ifK_dec (fun hr => bad (.inl hr)) (fun hr => ?_)⟩
    refine ⟨n, by rw [cl (m8.at' c0)]; rfl, some ⟨φ f, 0, none⟩, by rw [cl b8]; rfl, pa, _, ca, by rw [cl1 hfc]; rfl, ifK_dec (fun hr => bad (.inr hr)) (fun hr2 => ?_)⟩
    have hno : ¬ (n < 0 ∨ n > a.len f) := fun h => h.elim hr hr2
    have hr' : a.cut name n = a.counted fun a => a.upd (a.idx name) fun x => (x.1.take n.toNat, x.2) := by rw [AS.cut, if_pos hk, hi, if_neg hno]
    rw [hr'] at hR
    refine counted_ok h8 _ _ (cut1_does h8 hf b8 (m8.at' c0) hno) _ fun w10 hp => ⟨_, rfl, hR w10 (hp.pre m08)⟩
  · refine ifNe (fun _ => ?_) (fun h => absurd h hk)
    have hr' : a.cut name n = (a, a.known name) := by rw [AS.cut, if_neg hk]
    rw [hr'] at hR
    exact hR w7 (StP.of_no h0 ((m0.trans m2).trans m7))

theorem sync_ok (h : Stt w s F a) (name : ByteArray) (hn : name.size < 4611686018427387904) (R : Value → World → Prop)
    (hR : ∀ w', StP s F w (a.sync name).1 w' → R (.int .i64 (a.sync name).2) w') : Ca Try.prog 16 #[.pointer (some ⟨s, 0, none⟩), .string name] w R := by
  have h0 := h
  obtain ⟨nb, sb, N, S, φ, h⟩ := h
  refine ca16 _ name w R ?_
  refine known2_ok h name hn _ (fun f hd hg hf w2 m2 => ⟨_, _, rfl, boxF _ w2 _ fun w7 b7 m7 => ?_⟩) (fun hk w2 m2 => ⟨_, _, rfl, boxF _ w2 _ fun w7 b7 m7 => ?_⟩)
  · refine (ifK_of (fun h => by cases h) (fun _ => ?_) : ifK false _ _)
    obtain ⟨hk, hi⟩ := AS.known_of hd hg hf
    have h7 := h.no (m2.trans m7)
    have hr' : a.sync name = a.counted fun a => a.upd (a.idx name) fun x => (x.1, x.1) := by rw [AS.sync, if_pos hk]
    rw [hr'] at hR
    refine counted_ok h7 _ _ (sync1_does h7 hf b7) _ fun w10 hp => ⟨_, rfl, hR w10 (hp.pre (m2.trans m7))⟩
  · refine ifNe (fun _ => ?_) (fun h => absurd h hk)
    have hr' : a.sync name = (a, a.known name) := by rw [AS.sync, if_neg hk]
    rw [hr'] at hR
    exact hR w7 (StP.of_no h0 (m2.trans m7))

theorem drop_ok (h : Stt w s F a) (name : ByteArray) (hn : name.size < 4611686018427387904) (R : Value → World → Prop)
    (hR : ∀ w', StP s F w (a.drop name).1 w' → R (.int .i64 (a.drop name).2) w') : Ca Try.prog 31 #[.pointer (some ⟨s, 0, none⟩), .string name] w R := by
  have h0 := h
  obtain ⟨nb, sb, N, S, φ, h⟩ := h
  refine ca31 _ name w R ?_
  intro w0 e0
  have m0 : Mod no w w0 := by subst e0; exact Mod.alloc _ _
  have c0 : w0.heap[w.heap.size]? = some (.cells #[.pointer (some ⟨s, 0, none⟩)] 25 (0, 0)) := by subst e0; exact new_at _ _
  clear e0
  intro w1 e1
  have m1 : Mod no w0 w1 := by subst e1; exact Mod.alloc _ _
  have c1 : w1.heap[w0.heap.size]? = some (.cells #[.string name] 9 (0, 0)) := by subst e1; exact new_at _ _
  clear e1
  have c01 := m1.at' c0
  have m01 := m0.trans m1
  refine ⟨_, by rw [cl c01]; rfl, name, by rw [cl c1]; rfl, ?_⟩
  refine known2_ok (h.no m01) name hn _ (fun f hd hg hf w2 m2 => ⟨_, _, rfl, ?_⟩) (fun hk w2 m2 => ⟨_, _, rfl, ?_⟩)
  · refine (ifK_of (fun h => by cases h) (fun _ => ?_) : ifK false _ _)
    obtain ⟨hk, hi⟩ := AS.known_of hd hg hf
    have h2 := (h.no m01).no m2
    have hr' : a.drop name = a.counted fun a => { a with dir := ddel name a.dir } := by rw [AS.drop, if_pos hk]
    rw [hr'] at hR
    refine ⟨_, by rw [cl (m2.at' c01)]; rfl, ?_⟩
    refine counted_ok h2 _ _ (drop1_does h2 (m2.at' c01) (m2.at' c1)) _ fun w10 hp => ⟨_, rfl, hR w10 (hp.pre (m01.trans m2))⟩
  · refine ifNe (fun _ => ?_) (fun h => absurd h hk)
    have hr' : a.drop name = (a, a.known name) := by rw [AS.drop, if_neg hk]
    rw [hr'] at hR
    exact hR w2 (StP.of_no h0 (m01.trans m2))

theorem commit_ok (h : Stt w s F a) (R : Value → World → Prop) (hR : ∀ w', StP s F w a.commit.1 w' → R (.int .i64 a.commit.2) w') : Ca Try.prog 17 #[.pointer (some ⟨s, 0, none⟩)] w R := by
  have h0 := h
  obtain ⟨nb, sb, N, S, φ, h⟩ := h
  refine ca17 _ w R ?_
  intro w0 e0
  have m0 : Mod no w w0 := by subst e0; exact Mod.alloc _ _
  have c0 : w0.heap[w.heap.size]? = some (.cells #[.pointer (some ⟨s, 0, none⟩)] 25 (0, 0)) := by subst e0; exact new_at _ _
  clear e0
  refine ⟨_, by rw [cl c0]; rfl, power2_ok (h0.no m0) _ ⟨_, rfl, ?_⟩⟩
  cases hd : a.dark with
  | true =>
    have hp : a.commit = (a, 9) := by rw [AS.commit, if_pos hd]
    rw [hp] at hR
    exact (ifK_of (fun _ => hR w0 (StP.of_no h0 m0)) (fun h => by cases h) : ifK true _ _)
  | false =>
    refine (ifK_of (fun h => by cases h) (fun _ => ?_) : ifK false _ _)
    have hp : a.commit = a.counted fun a => { a with sure := a.dir } := by rw [AS.commit, if_neg (by rw [hd]; simp)]
    rw [hp] at hR
    refine ⟨_, by rw [cl c0]; rfl, ?_⟩
    have h1 := h.no m0
    refine counted_ok h1 _ _ (commit1_does h1 c0) _ fun w10 hp => ⟨_, rfl, hR w10 (hp.pre m0)⟩

theorem move_ok (h : Stt w s F a) (name to : ByteArray) (hn : name.size < 4611686018427387904) (ht : to.size < 4611686018427387904) (R : Value → World → Prop)
    (hR : ∀ w', StP s F w (a.move name to).1 w' → R (.int .i64 (a.move name to).2) w') : Ca Try.prog 25 #[.pointer (some ⟨s, 0, none⟩), .string name, .string to] w R := by
  have h0 := h
  obtain ⟨nb, sb, N, S, φ, h⟩ := h
  refine ca25 _ name to w R ?_
  intro w0 e0
  have m0 : Mod no w w0 := by subst e0; exact Mod.alloc _ _
  have c0 : w0.heap[w.heap.size]? = some (.cells #[.pointer (some ⟨s, 0, none⟩)] 25 (0, 0)) := by subst e0; exact new_at _ _
  clear e0
  intro w1 e1
  have m1 : Mod no w0 w1 := by subst e1; exact Mod.alloc _ _
  have c1 : w1.heap[w0.heap.size]? = some (.cells #[.string name] 9 (0, 0)) := by subst e1; exact new_at _ _
  clear e1
  intro w2 e2
  have m2 : Mod no w1 w2 := by subst e2; exact Mod.alloc _ _
  have c2 : w2.heap[w1.heap.size]? = some (.cells #[.string to] 9 (0, 0)) := by subst e2; exact new_at _ _
  clear e2
  have c02 := m2.at' (m1.at' c0)
  have c12 := m2.at' c1
  have m02 := (m0.trans m1).trans m2
  refine ⟨_, by rw [cl c02]; rfl, name, by rw [cl c12]; rfl, ?_⟩
  refine known2_ok (h.no m02) name hn _ (fun f hd hg hf w3 m3 => ⟨_, _, rfl, boxF _ w3 _ fun w7 b7 m7 => ?_⟩) (fun hk w3 m3 => ⟨_, _, rfl, boxF _ w3 _ fun w7 b7 m7 => ?_⟩)
  · refine (ifK_of (fun _ => ?_) (fun h => by cases h) : ifK true _ _)
    refine (ifK_of (fun _ => ?_) (fun h => by cases h) : ifK true _ _)
    have m37 := m3.trans m7
    refine ⟨to, by rw [cl (m37.at' c2)]; rfl, good_ok to w7 ht _ fun w8 m8 => ⟨_, rfl, ifK_not (fun hgt => ?_) (fun hgt => ?_)⟩⟩
    · have hr' : a.move name to = (a, 2) := by rw [AS.move, if_neg (by rw [hd]; simp), if_pos (.inr hgt)]
      rw [hr'] at hR
      exact hR w8 (StP.of_no h0 ((m02.trans m37).trans m8))
    · refine (ifK_of (fun h => by cases h) (fun _ => ?_) : ifK false _ _)
      have hr' : a.move name to = a.counted fun a => { a with dir := dset to (a.idx name) (ddel name a.dir) } := by
        rw [AS.move, if_neg (by rw [hd]; simp), if_neg (by rw [hg, hgt]; simp), if_neg (by rw [hf]; simp)]
      rw [hr'] at hR
      have m38 := m37.trans m8
      refine ⟨_, by rw [cl (m38.at' c02)]; rfl, ?_⟩
      have h8 := (h.no m02).no m38
      refine counted_ok h8 _ _ (move1_does h8 hf hgt (m38.at' c02) (m38.at' c12) (m8.at' b7) (m38.at' c2)) _ fun w10 hp => ⟨_, rfl, hR w10 (hp.pre (m02.trans m38))⟩
  · have m37 := m3.trans m7
    rcases AS.known_cases a name with h9 | h2 | h3 | hz
    · rw [h9]
      refine (ifK_of (fun _ => ?_) (fun h => by cases h) : ifK true _ _)
      refine (ifK_of (fun h => by cases h) (fun _ => ?_) : ifK false _ _)
      refine (ifK_of (fun _ => ?_) (fun h => by cases h) : ifK true _ _)
      have hd : a.dark = true := by
        unfold AS.known at h9
        split at h9
        · assumption
        · split at h9
          · cases h9
          · split at h9 <;> cases h9
      have hr' : a.move name to = (a, 9) := by rw [AS.move, if_pos hd]
      rw [hr'] at hR
      exact hR w7 (StP.of_no h0 (m02.trans m37))
    · have hd : ¬ a.dark = true ∧ goodB name = false := by
        unfold AS.known at h2
        split at h2
        · cases h2
        · split at h2
          · exact ⟨by assumption, by assumption⟩
          · split at h2 <;> cases h2
      have hr' : a.move name to = (a, 2) := by rw [AS.move, if_neg hd.1, if_pos (.inl hd.2)]
      rw [hr'] at hR
      rw [h2]
      refine (ifK_of (fun _ => ?_) (fun h => by cases h) : ifK true _ _)
      refine (ifK_of (fun _ => ?_) (fun h => by cases h) : ifK true _ _)
      refine ⟨to, by rw [cl (m37.at' c2)]; rfl, good_ok to w7 ht _ fun w8 m8 => ⟨_, rfl, ifK_not (fun _ => ?_) (fun _ => ?_)⟩⟩
      · exact hR w8 (StP.of_no h0 ((m02.trans m37).trans m8))
      · refine (ifK_of (fun _ => ?_) (fun h => by cases h) : ifK true _ _)
        exact hR w8 (StP.of_no h0 ((m02.trans m37).trans m8))
    · have hd : ¬ a.dark = true ∧ goodB name = true ∧ dget a.dir name = none := by
        unfold AS.known at h3
        split at h3
        · cases h3
        · split at h3
          · cases h3
          · split at h3
            · rename_i h1 h2 h4
              exact ⟨h1, by simpa using h2, h4⟩
            · cases h3
      rw [h3]
      refine (ifK_of (fun _ => ?_) (fun h => by cases h) : ifK true _ _)
      refine (ifK_of (fun _ => ?_) (fun h => by cases h) : ifK true _ _)
      refine ⟨to, by rw [cl (m37.at' c2)]; rfl, good_ok to w7 ht _ fun w8 m8 => ⟨_, rfl, ifK_not (fun hgt => ?_) (fun hgt => ?_)⟩⟩
      · have hr' : a.move name to = (a, 2) := by rw [AS.move, if_neg hd.1, if_pos (.inr hgt)]
        rw [hr'] at hR
        exact hR w8 (StP.of_no h0 ((m02.trans m37).trans m8))
      · have hr' : a.move name to = (a, 3) := by rw [AS.move, if_neg hd.1, if_neg (by rw [hd.2.1, hgt]; simp), if_pos hd.2.2]
        rw [hr'] at hR
        refine (ifK_of (fun _ => ?_) (fun h => by cases h) : ifK true _ _)
        exact hR w8 (StP.of_no h0 ((m02.trans m37).trans m8))
    · exact absurd hz hk
end
end Go.Proofs.Ytemklabamlifdaa

/- The formulas of functions, printed by a program of mine (gen.py) out of the translation. -/
namespace Go.Proofs.Ytemklabamlifdaa
open Go Go.Proofs.Ytemklabamlifdaa.St
set_option maxRecDepth 100000

/-- staith/staithlaw11.lives -/
noncomputable def C12 : Code := (Try.f12.body).getD .skip
def pl12 : Nat → Plan := fun _ => .done
def ls12 : Nat → List (Nat × LT) := fun _ => []
def W12 (w : World) (R : Value → World → Prop) : Prop :=
  (Ca Try.prog (13) (Array.mk [Value.int IntKind.i64 100]) (w) (fun v0 => (fun w1 =>
    (∃ p2 : Option Addr, ((v0 = Value.pointer p2) ∧ (ifK (Option.isNone p2)
      (R (Value.bool false) (w1))
      (Ca Try.prog (14) (Array.mk [Value.pointer p2, Value.string (ByteArray.mk #[97])]) (w1) (fun v3 => (fun w4 =>
        (∃ x5 : Int, ((v3 = Value.int IntKind.i64 x5) ∧ (ifK (x5 != 0)
          (R (Value.bool false) (w4))
          (atW (World.alloc w4 (Obj.cells (Array.mk [Value.int IntKind.u8 120, Value.int IntKind.u8 121]) 5 (0, 0))) (fun w6 =>
            (∃ v7 : Value, (∃ w8 : World, ((Sem.run Try.prog (convert 24 24 (Value.slice (some (Addr.mk (Array.size (World.heap w4)) 0 none)) 2 2)) w6 = Result.ok v7 w8) ∧ (∃ p9 : Option Addr, (∃ n10 : Nat, (∃ n11 : Nat, ((v7 = Value.slice p9 n10 n11) ∧ (Ca Try.prog (15) (Array.mk [Value.pointer p2, Value.string (ByteArray.mk #[97]), Value.slice p9 n10 n11]) (w8) (fun v12 => (fun w13 =>
              (∃ x14 : Int, ((v12 = Value.int IntKind.i64 x14) ∧ (ifK (x14 != 0)
                (R (Value.bool false) (w13))
                (Ca Try.prog (16) (Array.mk [Value.pointer p2, Value.string (ByteArray.mk #[97])]) (w13) (fun v15 => (fun w16 =>
                  (∃ x17 : Int, ((v15 = Value.int IntKind.i64 x17) ∧ (ifK (x17 != 0)
                    (R (Value.bool false) (w16))
                    (Ca Try.prog (18) (Array.mk [Value.pointer p2, Value.int IntKind.i64 0]) (w16) (fun v18 => (fun w19 =>
                      ((v18 = Value.tuple (Array.mk (List.reverse []))) ∧ (Ca Try.prog (19) (Array.mk [Value.pointer p2]) (w19) (fun v20 => (fun w21 =>
                        ((v20 = Value.tuple (Array.mk (List.reverse []))) ∧ (Ca Try.prog (23) (Array.mk [Value.pointer p2]) (w21) (fun v22 => (fun w23 =>
                          (∃ p24 : Option Addr, (∃ n25 : Nat, (∃ n26 : Nat, ((v22 = Value.slice p24 n25 n26) ∧ (ifK ((↑n25 : Int) != 0)
                            (R (Value.bool false) (w23))
                            (Ca Try.prog (14) (Array.mk [Value.pointer p2, Value.string (ByteArray.mk #[97])]) (w23) (fun v27 => (fun w28 =>
                              (∃ x29 : Int, ((v27 = Value.int IntKind.i64 x29) ∧ (ifK (x29 != 0)
                                (R (Value.bool false) (w28))
                                (atW (World.alloc w28 (Obj.cells (Array.mk [Value.int IntKind.u8 120, Value.int IntKind.u8 121]) 5 (0, 0))) (fun w30 =>
                                  (∃ v31 : Value, (∃ w32 : World, ((Sem.run Try.prog (convert 24 24 (Value.slice (some (Addr.mk (Array.size (World.heap w28)) 0 none)) 2 2)) w30 = Result.ok v31 w32) ∧ (∃ p33 : Option Addr, (∃ n34 : Nat, (∃ n35 : Nat, ((v31 = Value.slice p33 n34 n35) ∧ (Ca Try.prog (15) (Array.mk [Value.pointer p2, Value.string (ByteArray.mk #[97]), Value.slice p33 n34 n35]) (w32) (fun v36 => (fun w37 =>
                                    (∃ x38 : Int, ((v36 = Value.int IntKind.i64 x38) ∧ (ifK (x38 != 0)
                                      (R (Value.bool false) (w37))
                                      (Ca Try.prog (16) (Array.mk [Value.pointer p2, Value.string (ByteArray.mk #[97])]) (w37) (fun v39 => (fun w40 =>
                                        (∃ x41 : Int, ((v39 = Value.int IntKind.i64 x41) ∧ (ifK (x41 != 0)
                                          (R (Value.bool false) (w40))
                                          (Ca Try.prog (17) (Array.mk [Value.pointer p2]) (w40) (fun v42 => (fun w43 =>
                                            (∃ x44 : Int, ((v42 = Value.int IntKind.i64 x44) ∧ (ifK (x44 != 0)
                                              (R (Value.bool false) (w43))
                                              (atW (World.alloc w43 (Obj.cells (Array.mk [Value.int IntKind.u8 122, Value.int IntKind.u8 122]) 5 (0, 0))) (fun w45 =>
                                                (∃ v46 : Value, (∃ w47 : World, ((Sem.run Try.prog (convert 24 24 (Value.slice (some (Addr.mk (Array.size (World.heap w43)) 0 none)) 2 2)) w45 = Result.ok v46 w47) ∧ (∃ p48 : Option Addr, (∃ n49 : Nat, (∃ n50 : Nat, ((v46 = Value.slice p48 n49 n50) ∧ (Ca Try.prog (15) (Array.mk [Value.pointer p2, Value.string (ByteArray.mk #[97]), Value.slice p48 n49 n50]) (w47) (fun v51 => (fun w52 =>
                                                  (∃ x53 : Int, ((v51 = Value.int IntKind.i64 x53) ∧ (ifK (x53 != 0)
                                                    (R (Value.bool false) (w52))
                                                    (Ca Try.prog (18) (Array.mk [Value.pointer p2, Value.int IntKind.i64 1]) (w52) (fun v54 => (fun w55 =>
                                                      ((v54 = Value.tuple (Array.mk (List.reverse []))) ∧ (Ca Try.prog (26) (Array.mk [Value.pointer p2]) (w55) (fun v56 => (fun w57 =>
                                                        (∃ b58 : Bool, ((v56 = Value.bool b58) ∧ (ifK (b58)
                                                          (R (Value.bool false) (w57))
                                                          (Ca Try.prog (14) (Array.mk [Value.pointer p2, Value.string (ByteArray.mk #[98])]) (w57) (fun v59 => (fun w60 =>
                                                            (∃ x61 : Int, ((v59 = Value.int IntKind.i64 x61) ∧ (ifK (x61 != 9)
                                                              (R (Value.bool false) (w60))
                                                              (Ca Try.prog (19) (Array.mk [Value.pointer p2]) (w60) (fun v62 => (fun w63 =>
                                                                ((v62 = Value.tuple (Array.mk (List.reverse []))) ∧ (Ca Try.prog (20) (Array.mk [Value.pointer p2, Value.string (ByteArray.mk #[97])]) (w63) (fun v64 => (fun w65 =>
                                                                  (∃ p66 : Option Addr, (∃ n67 : Nat, (∃ n68 : Nat, (∃ x69 : Int, ((v64 = Value.tuple (Array.mk (List.reverse [Value.int IntKind.i64 x69, Value.slice p66 n67 n68]))) ∧ (ifK (x69 == 0)
                                                                    (∃ v70 : Value, (∃ w71 : World, ((Sem.run Try.prog (convert 24 9 (Value.slice p66 n67 n68)) w65 = Result.ok v70 w71) ∧ (∃ s72 : ByteArray, ((v70 = Value.string s72) ∧ (ifK (ByteArray.toList s72 == ByteArray.toList (ByteArray.mk #[120, 121, 122]))
                                                                      (Ca Try.prog (28) (Array.mk [Value.pointer p2]) (w71) (fun v73 => (fun w74 =>
                                                                        (∃ x75 : Int, ((v73 = Value.int IntKind.i64 x75) ∧ (R (Value.bool (x75 == 19)) (w74)))))))
                                                                      (R (Value.bool false) (w71))))))))
                                                                    (R (Value.bool false) (w65))))))))))))))))))))))))))))))))))))))))))))))))))))))))))))))))))))))))))))))))))))))))))))))))))))))))))))))))))))))))))))))))
theorem ca12 (w : World) (R : Value → World → Prop) (h : W12  w R) : Ca Try.prog 12 ⟨[]⟩ w R := by
  have h1 : Try.prog.follows .mixedOrders = true := by kernel_rfl
  have h2 : Try.f12.body = some C12 := by kernel_rfl
  have h3 : (Try.f12.name == "runtime.NumGoroutine") = false := by kernel_rfl
  have h6 : Try.f12.results.toList = [.tmp 0] := by kernel_rfl
  have h4 : Nat.ble 0 89 = true := by kernel_rfl
  have h5 : okCode 89 pl12 ls12 C12 0 = true := by kernel_rfl
  have e : W12  w R = wpC none Try.prog 89 pl12 ls12 C12 0 (endP Try.prog [.tmp 0] R) (fr0 []) [] w := by kernel_rfl
  exact ca_of' (P := Try.prog) (g := 12) (fn := Try.f12) (c := C12) (m := 89) (rs := [.tmp 0]) (args := []) (pl := pl12) (ls := ls12) (w := w) (R := R) h1 Try.func12 h2 Try.ntmps12 h6 h3 h4 h5 (Eq.mp e h)

/-- staith/staithlaw11.StoreNames -/
noncomputable def C3 : Code := (Try.f3.body).getD .skip
def pl3 : Nat → Plan := fun _ => .done
def ls3 : Nat → List (Nat × LT) := fun _ => []
def W3 (name : ByteArray) (w : World) (R : Value → World → Prop) : Prop :=
  (ifK (decide ((↑(ByteArray.size name) : Int) > 1000))
    (R (Value.bool true) (w))
    (Ca Try.prog (10) (Array.mk [Value.string name]) (w) (fun v0 => (fun w1 =>
      (∃ b2 : Bool, ((v0 = Value.bool b2) ∧ (Ca Try.prog (11) (Array.mk [Value.string name]) (w1) (fun v3 => (fun w4 =>
        (∃ b5 : Bool, ((v3 = Value.bool b5) ∧ (ifK (b2 == b5)
          (Ca Try.prog (12) (Array.mk []) (w4) (fun v6 => (fun w7 =>
            (∃ b8 : Bool, ((v6 = Value.bool b8) ∧ (R (Value.bool b8) (w7)))))))
          (R (Value.bool false) (w4))))))))))))))
theorem ca3 (name : ByteArray) (w : World) (R : Value → World → Prop) (h : W3 name w R) : Ca Try.prog 3 ⟨[(.string name)]⟩ w R := by
  have h1 : Try.prog.follows .mixedOrders = true := by kernel_rfl
  have h2 : Try.f3.body = some C3 := by kernel_rfl
  have h3 : (Try.f3.name == "runtime.NumGoroutine") = false := by kernel_rfl
  have h6 : Try.f3.results.toList = [.tmp 2] := by kernel_rfl
  have h4 : Nat.ble 1 16 = true := by kernel_rfl
  have h5 : okCode 16 pl3 ls3 C3 0 = true := by kernel_rfl
  have e : W3 name w R = wpC none Try.prog 16 pl3 ls3 C3 0 (endP Try.prog [.tmp 2] R) (fr0 [(.string name)]) [] w := by kernel_rfl
  exact ca_of' (P := Try.prog) (g := 3) (fn := Try.f3) (c := C3) (m := 16) (rs := [.tmp 2]) (args := [(.string name)]) (pl := pl3) (ls := ls3) (w := w) (R := R) h1 Try.func3 h2 Try.ntmps3 h6 h3 h4 h5 (Eq.mp e h)

/-- staith/staithlaw11.StoreKeeps -/
noncomputable def C4 : Code := (Try.f4.body).getD .skip
def pl4 : Nat → Plan
  | 14 => (.quiet 0 (.quiet 1 (.quiet 2 (.quiet 3 (.quiet 5 (.quiet 7 (.quiet 8 (.quiet 9 (.eff 4 [] (.eff 6 [] (.eff 10 [] (.eff 11 [] (.quiet 12 (.quiet 13 (.quiet 14 (.fork (.eff 15 [] (.eff 16 [] (.eff 17 [] (.quiet 18 (.quiet 19 (.eff 20 [] (.quiet 21 (.quiet 22 .done)))))))) (.eff 16 [] (.eff 15 [] (.eff 17 [] (.quiet 18 (.quiet 19 (.eff 20 [] (.quiet 21 (.quiet 22 .done))))))))))))))))))))))))
  | _ => .done
def ls4 : Nat → List (Nat × LT) := fun _ => []
def W4 (firsta : Option Addr) (firstl : Nat) (firstc : Nat) (morea : Option Addr) (morel : Nat) (morec : Nat) (keep : Int) (w : World) (R : Value → World → Prop) : Prop :=
  (ifK (decide (IntKind.wrap IntKind.i64 ((↑firstl : Int) + (↑morel : Int)) > 5000))
    (Ca Try.prog (12) (Array.mk []) (w) (fun v0 => (fun w1 =>
      (∃ b2 : Bool, ((v0 = Value.bool b2) ∧ (R (Value.bool b2) (w1)))))))
    (Ca Try.prog (13) (Array.mk [Value.int IntKind.i64 100000]) (w) (fun v3 => (fun w4 =>
      (∃ p5 : Option Addr, ((v3 = Value.pointer p5) ∧ (ifK (Option.isNone p5)
        (R (Value.bool false) (w4))
        (Ca Try.prog (14) (Array.mk [Value.pointer p5, Value.string (ByteArray.mk #[97])]) (w4) (fun v6 => (fun w7 =>
          (∃ x8 : Int, ((v6 = Value.int IntKind.i64 x8) ∧ (ifK (x8 != 0)
            (R (Value.bool false) (w7))
            (Ca Try.prog (15) (Array.mk [Value.pointer p5, Value.string (ByteArray.mk #[97]), Value.slice firsta firstl firstc]) (w7) (fun v9 => (fun w10 =>
              (∃ x11 : Int, ((v9 = Value.int IntKind.i64 x11) ∧ (ifK (x11 != 0)
                (R (Value.bool false) (w10))
                (Ca Try.prog (16) (Array.mk [Value.pointer p5, Value.string (ByteArray.mk #[97])]) (w10) (fun v12 => (fun w13 =>
                  (∃ x14 : Int, ((v12 = Value.int IntKind.i64 x14) ∧ (ifK (x14 != 0)
                    (R (Value.bool false) (w13))
                    (Ca Try.prog (17) (Array.mk [Value.pointer p5]) (w13) (fun v15 => (fun w16 =>
                      (∃ x17 : Int, ((v15 = Value.int IntKind.i64 x17) ∧ (ifK (x17 != 0)
                        (R (Value.bool false) (w16))
                        (Ca Try.prog (15) (Array.mk [Value.pointer p5, Value.string (ByteArray.mk #[97]), Value.slice morea morel morec]) (w16) (fun v18 => (fun w19 =>
                          (∃ x20 : Int, ((v18 = Value.int IntKind.i64 x20) ∧ (ifK (x20 != 0)
                            (R (Value.bool false) (w19))
                            (Ca Try.prog (14) (Array.mk [Value.pointer p5, Value.string (ByteArray.mk #[98])]) (w19) (fun v21 => (fun w22 =>
                              (∃ x23 : Int, ((v21 = Value.int IntKind.i64 x23) ∧ (ifK (x23 != 0)
                                (R (Value.bool false) (w22))
                                (Ca Try.prog (16) (Array.mk [Value.pointer p5, Value.string (ByteArray.mk #[98])]) (w22) (fun v24 => (fun w25 =>
                                  (∃ x26 : Int, ((v24 = Value.int IntKind.i64 x26) ∧ (ifK (x26 != 0)
                                    (R (Value.bool false) (w25))
                                    (Ca Try.prog (18) (Array.mk [Value.pointer p5, Value.int IntKind.i64 keep]) (w25) (fun v27 => (fun w28 =>
                                      ((v27 = Value.tuple (Array.mk (List.reverse []))) ∧ (Ca Try.prog (19) (Array.mk [Value.pointer p5]) (w28) (fun v29 => (fun w30 =>
                                        ((v29 = Value.tuple (Array.mk (List.reverse []))) ∧ (Ca Try.prog (20) (Array.mk [Value.pointer p5, Value.string (ByteArray.mk #[97])]) (w30) (fun v31 => (fun w32 =>
                                          (∃ p33 : Option Addr, (∃ n34 : Nat, (∃ n35 : Nat, (∃ x36 : Int, ((v31 = Value.tuple (Array.mk (List.reverse [Value.int IntKind.i64 x36, Value.slice p33 n34 n35]))) ∧ (ifK (decide (keep < 0))
                                            (atW (World.drew w32) (fun w37 =>
                                              (ifK (x36 == 0)
                                                (((0 : Int) ≤ 0) ∧ (((0 : Int) ≤ 0) ∧ (((0 : Int) ≤ (↑morec : Int)) ∧ (atW (World.alloc w37 (Obj.cells (Array.mk []) 5 (0, 0))) (fun w38 =>
                                                  (∃ v39 : Value, (∃ w40 : World, ((Sem.run Try.prog (Builtin.append_ (Array.mk [24, 24]) 24 (Array.mk [Value.slice (some (Addr.mk (Array.size (World.heap w37)) 0 none)) 0 0, Value.slice firsta firstl firstc])) w38 = Result.ok v39 w40) ∧ (∃ p41 : Option Addr, (∃ n42 : Nat, (∃ n43 : Nat, ((v39 = Value.slice p41 n42 n43) ∧ (∃ v44 : Value, (∃ w45 : World, ((Sem.run Try.prog (Builtin.append_ (Array.mk [24, 24]) 24 (Array.mk [Value.slice p41 n42 n43, Value.slice (if morec = 0 then morea else Option.map (fun x => Addr.add x 0) morea) 0 (morec - 0)])) w40 = Result.ok v44 w45) ∧ (∃ p46 : Option Addr, (∃ n47 : Nat, (∃ n48 : Nat, ((v44 = Value.slice p46 n47 n48) ∧ (Ca Try.prog (21) (Array.mk [Value.slice p33 n34 n35, Value.slice p46 n47 n48]) (w45) (fun v49 => (fun w50 =>
                                                    (∃ b51 : Bool, ((v49 = Value.bool b51) ∧ (ifK (b51)
                                                      ((Ca Try.prog (23) (Array.mk [Value.pointer p5]) (w50) (fun v52 => (fun w53 =>
                                                        (∃ p54 : Option Addr, (∃ n55 : Nat, (∃ n56 : Nat, ((v52 = Value.slice p54 n55 n56) ∧ (atW (World.alloc w53 (Obj.cells (Array.mk [Value.string (ByteArray.mk #[97])]) 9 (0, 0))) (fun w57 =>
                                                          (Ca Try.prog (22) (Array.mk [Value.slice p54 n55 n56, Value.slice (some (Addr.mk (Array.size (World.heap w53)) 0 none)) 1 1]) (w57) (fun v58 => (fun w59 =>
                                                            (∃ b60 : Bool, ((v58 = Value.bool b60) ∧ (ifK (b60)
                                                              (Ca Try.prog (12) (Array.mk []) (w59) (fun v61 => (fun w62 =>
                                                                (∃ b63 : Bool, ((v61 = Value.bool b63) ∧ (R (Value.bool b63) (w62)))))))
                                                              (R (Value.bool false) (w59))))))))))))))))) ∧ (atW (World.alloc w50 (Obj.cells (Array.mk [Value.string (ByteArray.mk #[97])]) 9 (0, 0))) (fun w64 =>
                                                        (Ca Try.prog (23) (Array.mk [Value.pointer p5]) (w64) (fun v65 => (fun w66 =>
                                                          (∃ p67 : Option Addr, (∃ n68 : Nat, (∃ n69 : Nat, ((v65 = Value.slice p67 n68 n69) ∧ (Ca Try.prog (22) (Array.mk [Value.slice p67 n68 n69, Value.slice (some (Addr.mk (Array.size (World.heap w50)) 0 none)) 1 1]) (w66) (fun v70 => (fun w71 =>
                                                            (∃ b72 : Bool, ((v70 = Value.bool b72) ∧ (ifK (b72)
                                                              (Ca Try.prog (12) (Array.mk []) (w71) (fun v73 => (fun w74 =>
                                                                (∃ b75 : Bool, ((v73 = Value.bool b75) ∧ (R (Value.bool b75) (w74)))))))
                                                              (R (Value.bool false) (w71))))))))))))))))))
                                                      ((R (Value.bool false) (w50)) ∧ (R (Value.bool false) (w50))))))))))))))))))))))))))))
                                                ((R (Value.bool false) (w37)) ∧ (R (Value.bool false) (w37))))))
                                            (ifK (decide (keep > (↑morel : Int)))
                                              (atW (World.drew w32) (fun w76 =>
                                                (ifK (x36 == 0)
                                                  (((0 : Int) ≤ 0) ∧ (((0 : Int) ≤ (↑morel : Int)) ∧ ((((↑morel : Int) : Int) ≤ (↑morec : Int)) ∧ (atW (World.alloc w76 (Obj.cells (Array.mk []) 5 (0, 0))) (fun w77 =>
                                                    (∃ v78 : Value, (∃ w79 : World, ((Sem.run Try.prog (Builtin.append_ (Array.mk [24, 24]) 24 (Array.mk [Value.slice (some (Addr.mk (Array.size (World.heap w76)) 0 none)) 0 0, Value.slice firsta firstl firstc])) w77 = Result.ok v78 w79) ∧ (∃ p80 : Option Addr, (∃ n81 : Nat, (∃ n82 : Nat, ((v78 = Value.slice p80 n81 n82) ∧ (∃ v83 : Value, (∃ w84 : World, ((Sem.run Try.prog (Builtin.append_ (Array.mk [24, 24]) 24 (Array.mk [Value.slice p80 n81 n82, Value.slice (if morec = 0 then morea else Option.map (fun x => Addr.add x 0) morea) (Int.toNat (↑morel : Int) - 0) (morec - 0)])) w79 = Result.ok v83 w84) ∧ (∃ p85 : Option Addr, (∃ n86 : Nat, (∃ n87 : Nat, ((v83 = Value.slice p85 n86 n87) ∧ (Ca Try.prog (21) (Array.mk [Value.slice p33 n34 n35, Value.slice p85 n86 n87]) (w84) (fun v88 => (fun w89 =>
                                                      (∃ b90 : Bool, ((v88 = Value.bool b90) ∧ (ifK (b90)
                                                        ((Ca Try.prog (23) (Array.mk [Value.pointer p5]) (w89) (fun v91 => (fun w92 =>
                                                          (∃ p93 : Option Addr, (∃ n94 : Nat, (∃ n95 : Nat, ((v91 = Value.slice p93 n94 n95) ∧ (atW (World.alloc w92 (Obj.cells (Array.mk [Value.string (ByteArray.mk #[97])]) 9 (0, 0))) (fun w96 =>
                                                            (Ca Try.prog (22) (Array.mk [Value.slice p93 n94 n95, Value.slice (some (Addr.mk (Array.size (World.heap w92)) 0 none)) 1 1]) (w96) (fun v97 => (fun w98 =>
                                                              (∃ b99 : Bool, ((v97 = Value.bool b99) ∧ (ifK (b99)
                                                                (Ca Try.prog (12) (Array.mk []) (w98) (fun v100 => (fun w101 =>
                                                                  (∃ b102 : Bool, ((v100 = Value.bool b102) ∧ (R (Value.bool b102) (w101)))))))
                                                                (R (Value.bool false) (w98))))))))))))))))) ∧ (atW (World.alloc w89 (Obj.cells (Array.mk [Value.string (ByteArray.mk #[97])]) 9 (0, 0))) (fun w103 =>
                                                          (Ca Try.prog (23) (Array.mk [Value.pointer p5]) (w103) (fun v104 => (fun w105 =>
                                                            (∃ p106 : Option Addr, (∃ n107 : Nat, (∃ n108 : Nat, ((v104 = Value.slice p106 n107 n108) ∧ (Ca Try.prog (22) (Array.mk [Value.slice p106 n107 n108, Value.slice (some (Addr.mk (Array.size (World.heap w89)) 0 none)) 1 1]) (w105) (fun v109 => (fun w110 =>
                                                              (∃ b111 : Bool, ((v109 = Value.bool b111) ∧ (ifK (b111)
                                                                (Ca Try.prog (12) (Array.mk []) (w110) (fun v112 => (fun w113 =>
                                                                  (∃ b114 : Bool, ((v112 = Value.bool b114) ∧ (R (Value.bool b114) (w113)))))))
                                                                (R (Value.bool false) (w110))))))))))))))))))
                                                        ((R (Value.bool false) (w89)) ∧ (R (Value.bool false) (w89))))))))))))))))))))))))))))
                                                  ((R (Value.bool false) (w76)) ∧ (R (Value.bool false) (w76))))))
                                              (atW (World.drew w32) (fun w115 =>
                                                (ifK (x36 == 0)
                                                  (((0 : Int) ≤ 0) ∧ (((0 : Int) ≤ keep) ∧ (((keep : Int) ≤ (↑morec : Int)) ∧ (atW (World.alloc w115 (Obj.cells (Array.mk []) 5 (0, 0))) (fun w116 =>
                                                    (∃ v117 : Value, (∃ w118 : World, ((Sem.run Try.prog (Builtin.append_ (Array.mk [24, 24]) 24 (Array.mk [Value.slice (some (Addr.mk (Array.size (World.heap w115)) 0 none)) 0 0, Value.slice firsta firstl firstc])) w116 = Result.ok v117 w118) ∧ (∃ p119 : Option Addr, (∃ n120 : Nat, (∃ n121 : Nat, ((v117 = Value.slice p119 n120 n121) ∧ (∃ v122 : Value, (∃ w123 : World, ((Sem.run Try.prog (Builtin.append_ (Array.mk [24, 24]) 24 (Array.mk [Value.slice p119 n120 n121, Value.slice (if morec = 0 then morea else Option.map (fun x => Addr.add x 0) morea) (Int.toNat keep - 0) (morec - 0)])) w118 = Result.ok v122 w123) ∧ (∃ p124 : Option Addr, (∃ n125 : Nat, (∃ n126 : Nat, ((v122 = Value.slice p124 n125 n126) ∧ (Ca Try.prog (21) (Array.mk [Value.slice p33 n34 n35, Value.slice p124 n125 n126]) (w123) (fun v127 => (fun w128 =>
                                                      (∃ b129 : Bool, ((v127 = Value.bool b129) ∧ (ifK (b129)
                                                        ((Ca Try.prog (23) (Array.mk [Value.pointer p5]) (w128) (fun v130 => (fun w131 =>
                                                          (∃ p132 : Option Addr, (∃ n133 : Nat, (∃ n134 : Nat, ((v130 = Value.slice p132 n133 n134) ∧ (atW (World.alloc w131 (Obj.cells (Array.mk [Value.string (ByteArray.mk #[97])]) 9 (0, 0))) (fun w135 =>
                                                            (Ca Try.prog (22) (Array.mk [Value.slice p132 n133 n134, Value.slice (some (Addr.mk (Array.size (World.heap w131)) 0 none)) 1 1]) (w135) (fun v136 => (fun w137 =>
                                                              (∃ b138 : Bool, ((v136 = Value.bool b138) ∧ (ifK (b138)
                                                                (Ca Try.prog (12) (Array.mk []) (w137) (fun v139 => (fun w140 =>
                                                                  (∃ b141 : Bool, ((v139 = Value.bool b141) ∧ (R (Value.bool b141) (w140)))))))
                                                                (R (Value.bool false) (w137))))))))))))))))) ∧ (atW (World.alloc w128 (Obj.cells (Array.mk [Value.string (ByteArray.mk #[97])]) 9 (0, 0))) (fun w142 =>
                                                          (Ca Try.prog (23) (Array.mk [Value.pointer p5]) (w142) (fun v143 => (fun w144 =>
                                                            (∃ p145 : Option Addr, (∃ n146 : Nat, (∃ n147 : Nat, ((v143 = Value.slice p145 n146 n147) ∧ (Ca Try.prog (22) (Array.mk [Value.slice p145 n146 n147, Value.slice (some (Addr.mk (Array.size (World.heap w128)) 0 none)) 1 1]) (w144) (fun v148 => (fun w149 =>
                                                              (∃ b150 : Bool, ((v148 = Value.bool b150) ∧ (ifK (b150)
                                                                (Ca Try.prog (12) (Array.mk []) (w149) (fun v151 => (fun w152 =>
                                                                  (∃ b153 : Bool, ((v151 = Value.bool b153) ∧ (R (Value.bool b153) (w152)))))))
                                                                (R (Value.bool false) (w149))))))))))))))))))
                                                        ((R (Value.bool false) (w128)) ∧ (R (Value.bool false) (w128))))))))))))))))))))))))))))
                                                  ((R (Value.bool false) (w115)) ∧ (R (Value.bool false) (w115)))))))))))))))))))))))))))))))))))))))))))))))))))))))))))))))))))))))))
theorem ca4 (firsta : Option Addr) (firstl : Nat) (firstc : Nat) (morea : Option Addr) (morel : Nat) (morec : Nat) (keep : Int) (w : World) (R : Value → World → Prop) (h : W4 firsta firstl firstc morea morel morec keep w R) : Ca Try.prog 4 ⟨[(.slice firsta firstl firstc), (.slice morea morel morec), (.int .i64 keep)]⟩ w R := by
  have h1 : Try.prog.follows .mixedOrders = true := by kernel_rfl
  have h2 : Try.f4.body = some C4 := by kernel_rfl
  have h3 : (Try.f4.name == "runtime.NumGoroutine") = false := by kernel_rfl
  have h6 : Try.f4.results.toList = [.tmp 6] := by kernel_rfl
  have h4 : Nat.ble 3 99 = true := by kernel_rfl
  have h5 : okCode 99 pl4 ls4 C4 0 = true := by kernel_rfl
  have e : W4 firsta firstl firstc morea morel morec keep w R = wpC none Try.prog 99 pl4 ls4 C4 0 (endP Try.prog [.tmp 6] R) (fr0 [(.slice firsta firstl firstc), (.slice morea morel morec), (.int .i64 keep)]) [] w := by kernel_rfl
  exact ca_of' (P := Try.prog) (g := 4) (fn := Try.f4) (c := C4) (m := 99) (rs := [.tmp 6]) (args := [(.slice firsta firstl firstc), (.slice morea morel morec), (.int .i64 keep)]) (pl := pl4) (ls := ls4) (w := w) (R := R) h1 Try.func4 h2 Try.ntmps4 h6 h3 h4 h5 (Eq.mp e h)

/-- staith/staithlaw11.StoreTurns -/
noncomputable def C5 : Code := (Try.f5.body).getD .skip
def pl5 : Nat → Plan := fun _ => .done
def ls5 : Nat → List (Nat × LT) := fun _ => []
def W5 (olda : Option Addr) (oldl : Nat) (oldc : Nat) (fresha : Option Addr) (freshl : Nat) (freshc : Nat) (x0_ : Int) (x1_ : Int) (w : World) (R : Value → World → Prop) : Prop :=
  (atW (World.alloc w (Obj.cells (Array.mk [Value.int IntKind.u64 x0_, Value.int IntKind.i64 x1_]) 41 (0, 0))) (fun w0 =>
    (ifK (decide (IntKind.wrap IntKind.i64 ((↑oldl : Int) + (↑freshl : Int)) > 5000))
      (Ca Try.prog (12) (Array.mk []) (w0) (fun v1 => (fun w2 =>
        (∃ b3 : Bool, ((v1 = Value.bool b3) ∧ (R (Value.bool b3) (w2)))))))
      (Ca Try.prog (13) (Array.mk [Value.int IntKind.i64 100000]) (w0) (fun v4 => (fun w5 =>
        (∃ p6 : Option Addr, ((v4 = Value.pointer p6) ∧ (ifK (Option.isNone p6)
          (R (Value.bool false) (w5))
          (Ca Try.prog (14) (Array.mk [Value.pointer p6, Value.string (ByteArray.mk #[97])]) (w5) (fun v7 => (fun w8 =>
            (∃ x9 : Int, ((v7 = Value.int IntKind.i64 x9) ∧ (ifK (x9 != 0)
              (R (Value.bool false) (w8))
              (Ca Try.prog (15) (Array.mk [Value.pointer p6, Value.string (ByteArray.mk #[97]), Value.slice olda oldl oldc]) (w8) (fun v10 => (fun w11 =>
                (∃ x12 : Int, ((v10 = Value.int IntKind.i64 x12) ∧ (ifK (x12 != 0)
                  (R (Value.bool false) (w11))
                  (Ca Try.prog (16) (Array.mk [Value.pointer p6, Value.string (ByteArray.mk #[97])]) (w11) (fun v13 => (fun w14 =>
                    (∃ x15 : Int, ((v13 = Value.int IntKind.i64 x15) ∧ (ifK (x15 != 0)
                      (R (Value.bool false) (w14))
                      (Ca Try.prog (17) (Array.mk [Value.pointer p6]) (w14) (fun v16 => (fun w17 =>
                        (∃ x18 : Int, ((v16 = Value.int IntKind.i64 x18) ∧ (ifK (x18 != 0)
                          (R (Value.bool false) (w17))
                          (∃ x19 : Int, ((World.cell? w17 (Addr.add (Addr.mk (Array.size (World.heap w)) 0 none) 0) = some (Value.int IntKind.u64 x19)) ∧ (((7 : Int) ≠ 0) ∧ (∃ x20 : Int, ((World.cell? w17 (Addr.add (Addr.mk (Array.size (World.heap w)) 0 none) 1) = some (Value.int IntKind.i64 x20)) ∧ (Ca Try.prog (24) (Array.mk [Value.pointer p6, Value.int IntKind.i64 (IntKind.wrap IntKind.i64 (Int.tmod x19 7)), Value.int IntKind.i64 x20]) (w17) (fun v21 => (fun w22 =>
                            (∃ x23 : Int, ((v21 = Value.int IntKind.i64 x23) ∧ (ifK (x23 != 0)
                              (R (Value.bool false) (w22))
                              (Ca Try.prog (14) (Array.mk [Value.pointer p6, Value.string (ByteArray.mk #[98])]) (w22) (fun v24 => (fun w25 =>
                                (∃ x26 : Int, ((v24 = Value.int IntKind.i64 x26) ∧ (Ca Try.prog (15) (Array.mk [Value.pointer p6, Value.string (ByteArray.mk #[98]), Value.slice fresha freshl freshc]) (w25) (fun v27 => (fun w28 =>
                                  (∃ x29 : Int, ((v27 = Value.int IntKind.i64 x29) ∧ (Ca Try.prog (16) (Array.mk [Value.pointer p6, Value.string (ByteArray.mk #[98])]) (w28) (fun v30 => (fun w31 =>
                                    (∃ x32 : Int, ((v30 = Value.int IntKind.i64 x32) ∧ (Ca Try.prog (25) (Array.mk [Value.pointer p6, Value.string (ByteArray.mk #[98]), Value.string (ByteArray.mk #[97])]) (w31) (fun v33 => (fun w34 =>
                                      (∃ x35 : Int, ((v33 = Value.int IntKind.i64 x35) ∧ (Ca Try.prog (17) (Array.mk [Value.pointer p6]) (w34) (fun v36 => (fun w37 =>
                                        (∃ x38 : Int, ((v36 = Value.int IntKind.i64 x38) ∧ (Ca Try.prog (26) (Array.mk [Value.pointer p6]) (w37) (fun v39 => (fun w40 =>
                                          (∃ b41 : Bool, ((v39 = Value.bool b41) ∧ (ifK (b41)
                                            (∃ x42 : Int, ((World.cell? w40 (Addr.add (Addr.mk (Array.size (World.heap w)) 0 none) 1) = some (Value.int IntKind.i64 x42)) ∧ (Ca Try.prog (18) (Array.mk [Value.pointer p6, Value.int IntKind.i64 x42]) (w40) (fun v43 => (fun w44 =>
                                              ((v43 = Value.tuple (Array.mk (List.reverse []))) ∧ (Ca Try.prog (19) (Array.mk [Value.pointer p6]) (w44) (fun v45 => (fun w46 =>
                                                ((v45 = Value.tuple (Array.mk (List.reverse []))) ∧ (Ca Try.prog (20) (Array.mk [Value.pointer p6, Value.string (ByteArray.mk #[97])]) (w46) (fun v47 => (fun w48 =>
                                                  (∃ p49 : Option Addr, (∃ n50 : Nat, (∃ n51 : Nat, (∃ x52 : Int, ((v47 = Value.tuple (Array.mk (List.reverse [Value.int IntKind.i64 x52, Value.slice p49 n50 n51]))) ∧ (ifK (x52 != 0)
                                                    (R (Value.bool false) (w48))
                                                    (∃ x53 : Int, ((World.cell? w48 (Addr.add (Addr.mk (Array.size (World.heap w)) 0 none) 0) = some (Value.int IntKind.u64 x53)) ∧ (((7 : Int) ≠ 0) ∧ (ifK (Int.tmod x53 7 == 0)
                                                      (ifK (!(x38 == 0) == true)
                                                        (R (Value.bool false) (w48))
                                                        (ifK (x38 == 0)
                                                          (Ca Try.prog (21) (Array.mk [Value.slice p49 n50 n51, Value.slice fresha freshl freshc]) (w48) (fun v54 => (fun w55 =>
                                                            (∃ b56 : Bool, ((v54 = Value.bool b56) ∧ (ifK (b56)
                                                              (Ca Try.prog (12) (Array.mk []) (w55) (fun v57 => (fun w58 =>
                                                                (∃ b59 : Bool, ((v57 = Value.bool b59) ∧ (R (Value.bool b59) (w58)))))))
                                                              (R (Value.bool false) (w55))))))))
                                                          (Ca Try.prog (21) (Array.mk [Value.slice p49 n50 n51, Value.slice olda oldl oldc]) (w48) (fun v60 => (fun w61 =>
                                                            (∃ b62 : Bool, ((v60 = Value.bool b62) ∧ (ifK (b62)
                                                              (Ca Try.prog (12) (Array.mk []) (w61) (fun v63 => (fun w64 =>
                                                                (∃ b65 : Bool, ((v63 = Value.bool b65) ∧ (R (Value.bool b65) (w64)))))))
                                                              (R (Value.bool false) (w61))))))))))
                                                      (∃ x66 : Int, ((World.cell? w48 (Addr.add (Addr.mk (Array.size (World.heap w)) 0 none) 0) = some (Value.int IntKind.u64 x66)) ∧ (((7 : Int) ≠ 0) ∧ (ifK (!(x38 == 0) == (Int.tmod x66 7 == 6))
                                                        (R (Value.bool false) (w48))
                                                        (ifK (x38 == 0)
                                                          (Ca Try.prog (21) (Array.mk [Value.slice p49 n50 n51, Value.slice fresha freshl freshc]) (w48) (fun v67 => (fun w68 =>
                                                            (∃ b69 : Bool, ((v67 = Value.bool b69) ∧ (ifK (b69)
                                                              (Ca Try.prog (12) (Array.mk []) (w68) (fun v70 => (fun w71 =>
                                                                (∃ b72 : Bool, ((v70 = Value.bool b72) ∧ (R (Value.bool b72) (w71)))))))
                                                              (R (Value.bool false) (w68))))))))
                                                          (Ca Try.prog (21) (Array.mk [Value.slice p49 n50 n51, Value.slice olda oldl oldc]) (w48) (fun v73 => (fun w74 =>
                                                            (∃ b75 : Bool, ((v73 = Value.bool b75) ∧ (ifK (b75)
                                                              (Ca Try.prog (12) (Array.mk []) (w74) (fun v76 => (fun w77 =>
                                                                (∃ b78 : Bool, ((v76 = Value.bool b78) ∧ (R (Value.bool b78) (w77)))))))
                                                              (R (Value.bool false) (w74))))))))))))))))))))))))))))))))))))
                                            (Ca Try.prog (19) (Array.mk [Value.pointer p6]) (w40) (fun v79 => (fun w80 =>
                                              ((v79 = Value.tuple (Array.mk (List.reverse []))) ∧ (Ca Try.prog (20) (Array.mk [Value.pointer p6, Value.string (ByteArray.mk #[97])]) (w80) (fun v81 => (fun w82 =>
                                                (∃ p83 : Option Addr, (∃ n84 : Nat, (∃ n85 : Nat, (∃ x86 : Int, ((v81 = Value.tuple (Array.mk (List.reverse [Value.int IntKind.i64 x86, Value.slice p83 n84 n85]))) ∧ (ifK (x86 != 0)
                                                  (R (Value.bool false) (w82))
                                                  (∃ x87 : Int, ((World.cell? w82 (Addr.add (Addr.mk (Array.size (World.heap w)) 0 none) 0) = some (Value.int IntKind.u64 x87)) ∧ (((7 : Int) ≠ 0) ∧ (ifK (Int.tmod x87 7 == 0)
                                                    (ifK (!(x38 == 0) == true)
                                                      (R (Value.bool false) (w82))
                                                      (ifK (x38 == 0)
                                                        (Ca Try.prog (21) (Array.mk [Value.slice p83 n84 n85, Value.slice fresha freshl freshc]) (w82) (fun v88 => (fun w89 =>
                                                          (∃ b90 : Bool, ((v88 = Value.bool b90) ∧ (ifK (b90)
                                                            (Ca Try.prog (12) (Array.mk []) (w89) (fun v91 => (fun w92 =>
                                                              (∃ b93 : Bool, ((v91 = Value.bool b93) ∧ (R (Value.bool b93) (w92)))))))
                                                            (R (Value.bool false) (w89))))))))
                                                        (Ca Try.prog (21) (Array.mk [Value.slice p83 n84 n85, Value.slice olda oldl oldc]) (w82) (fun v94 => (fun w95 =>
                                                          (∃ b96 : Bool, ((v94 = Value.bool b96) ∧ (ifK (b96)
                                                            (Ca Try.prog (12) (Array.mk []) (w95) (fun v97 => (fun w98 =>
                                                              (∃ b99 : Bool, ((v97 = Value.bool b99) ∧ (R (Value.bool b99) (w98)))))))
                                                            (R (Value.bool false) (w95))))))))))
                                                    (∃ x100 : Int, ((World.cell? w82 (Addr.add (Addr.mk (Array.size (World.heap w)) 0 none) 0) = some (Value.int IntKind.u64 x100)) ∧ (((7 : Int) ≠ 0) ∧ (ifK (!(x38 == 0) == (Int.tmod x100 7 == 6))
                                                      (R (Value.bool false) (w82))
                                                      (ifK (x38 == 0)
                                                        (Ca Try.prog (21) (Array.mk [Value.slice p83 n84 n85, Value.slice fresha freshl freshc]) (w82) (fun v101 => (fun w102 =>
                                                          (∃ b103 : Bool, ((v101 = Value.bool b103) ∧ (ifK (b103)
                                                            (Ca Try.prog (12) (Array.mk []) (w102) (fun v104 => (fun w105 =>
                                                              (∃ b106 : Bool, ((v104 = Value.bool b106) ∧ (R (Value.bool b106) (w105)))))))
                                                            (R (Value.bool false) (w102))))))))
                                                        (Ca Try.prog (21) (Array.mk [Value.slice p83 n84 n85, Value.slice olda oldl oldc]) (w82) (fun v107 => (fun w108 =>
                                                          (∃ b109 : Bool, ((v107 = Value.bool b109) ∧ (ifK (b109)
                                                            (Ca Try.prog (12) (Array.mk []) (w108) (fun v110 => (fun w111 =>
                                                              (∃ b112 : Bool, ((v110 = Value.bool b112) ∧ (R (Value.bool b112) (w111)))))))
                                                            (R (Value.bool false) (w108)))))))))))))))))))))))))))))))))))))))))))))))))))))))))))))))))))))))))))))))))))))))))))))))))))))))))
theorem ca5 (olda : Option Addr) (oldl : Nat) (oldc : Nat) (fresha : Option Addr) (freshl : Nat) (freshc : Nat) (x0_ : Int) (x1_ : Int) (w : World) (R : Value → World → Prop) (h : W5 olda oldl oldc fresha freshl freshc x0_ x1_ w R) : Ca Try.prog 5 ⟨[(.slice olda oldl oldc), (.slice fresha freshl freshc), (.agg ⟨[(.int .u64 x0_), (.int .i64 x1_)]⟩)]⟩ w R := by
  have h1 : Try.prog.follows .mixedOrders = true := by kernel_rfl
  have h2 : Try.f5.body = some C5 := by kernel_rfl
  have h3 : (Try.f5.name == "runtime.NumGoroutine") = false := by kernel_rfl
  have h6 : Try.f5.results.toList = [.tmp 6] := by kernel_rfl
  have h4 : Nat.ble 3 107 = true := by kernel_rfl
  have h5 : okCode 107 pl5 ls5 C5 0 = true := by kernel_rfl
  have e : W5 olda oldl oldc fresha freshl freshc x0_ x1_ w R = wpC none Try.prog 107 pl5 ls5 C5 0 (endP Try.prog [.tmp 6] R) (fr0 [(.slice olda oldl oldc), (.slice fresha freshl freshc), (.agg ⟨[(.int .u64 x0_), (.int .i64 x1_)]⟩)]) [] w := by kernel_rfl
  exact ca_of' (P := Try.prog) (g := 5) (fn := Try.f5) (c := C5) (m := 107) (rs := [.tmp 6]) (args := [(.slice olda oldl oldc), (.slice fresha freshl freshc), (.agg ⟨[(.int .u64 x0_), (.int .i64 x1_)]⟩)]) (pl := pl5) (ls := ls5) (w := w) (R := R) h1 Try.func5 h2 Try.ntmps5 h6 h3 h4 h5 (Eq.mp e h)

/-- staith/staithlaw11.StoreNone -/
noncomputable def C9 : Code := (Try.f9.body).getD .skip
def pl9 : Nat → Plan := fun _ => .done
def ls9 : Nat → List (Nat × LT)
  | 4 => [(9, (.one (.int .i64)))]
  | _ => []
def W9 (a0_ : Int) (a1_ : ByteArray) (a2_ : ByteArray) (a3_a : Option Addr) (a3_l : Nat) (a3_c : Nat) (a4_ : Int) (a5_ : Int) (w : World) (R : Value → World → Prop) : Prop :=
  (atW (World.alloc w (Obj.cells (Array.mk [Value.int IntKind.i64 a0_, Value.string a1_, Value.string a2_, Value.slice a3_a a3_l a3_c, Value.int IntKind.i64 a4_, Value.int IntKind.i64 a5_]) 48 (0, 0))) (fun w0 =>
    (atW (World.alloc w0 (Obj.cells (Array.mk [Value.int IntKind.i64 0, Value.map none, Value.map none, Value.bool false, Value.int IntKind.i64 0, Value.int IntKind.i64 0, Value.int IntKind.i64 0]) 65 (0, 0))) (fun w1 =>
      (∃ z2 : Int → World → Prop, (∃ z3 : Int → World → Nat, ((z2 (0) (w1)) ∧ (∀ (_ : Nat → Value), (∀ (x5 : Int), (∀ (w6 : World), ((z2 (x5) (w6)) → (ifK (decide (x5 < 2))
        (∃ v7 : Value, (∃ w8 : World, ((Sem.run Try.prog (Instr.index 66 (Value.agg (Array.mk [Value.pointer none, Value.pointer (some (Addr.mk (Array.size (World.heap w0)) 0 none))])) (Value.int IntKind.i64 x5)) w6 = Result.ok v7 w8) ∧ (∃ p9 : Option Addr, ((v7 = Value.pointer p9) ∧ (∃ x10 : Int, ((World.cell? w8 (Addr.add (Addr.mk (Array.size (World.heap w)) 0 none) 4) = some (Value.int IntKind.i64 x10)) ∧ (Ca Try.prog (18) (Array.mk [Value.pointer p9, Value.int IntKind.i64 x10]) (w8) (fun v11 => (fun w12 =>
          ((v11 = Value.tuple (Array.mk (List.reverse []))) ∧ (Ca Try.prog (19) (Array.mk [Value.pointer p9]) (w12) (fun v13 => (fun w14 =>
            ((v13 = Value.tuple (Array.mk (List.reverse []))) ∧ (∃ s15 : ByteArray, ((World.cell? w14 (Addr.add (Addr.mk (Array.size (World.heap w)) 0 none) 1) = some (Value.string s15)) ∧ (Ca Try.prog (20) (Array.mk [Value.pointer p9, Value.string s15]) (w14) (fun v16 => (fun w17 =>
              (∃ p18 : Option Addr, (∃ n19 : Nat, (∃ n20 : Nat, (∃ x21 : Int, ((v16 = Value.tuple (Array.mk (List.reverse [Value.int IntKind.i64 x21, Value.slice p18 n19 n20]))) ∧ (∃ s22 : ByteArray, ((World.cell? w17 (Addr.add (Addr.mk (Array.size (World.heap w)) 0 none) 1) = some (Value.string s22)) ∧ (Ca Try.prog (14) (Array.mk [Value.pointer p9, Value.string s22]) (w17) (fun v23 => (fun w24 =>
                (∃ x25 : Int, ((v23 = Value.int IntKind.i64 x25) ∧ (ifK (x25 != 1)
                  (R (Value.bool false) (w24))
                  (∃ s26 : ByteArray, ((World.cell? w24 (Addr.add (Addr.mk (Array.size (World.heap w)) 0 none) 1) = some (Value.string s26)) ∧ (∃ p27 : Option Addr, (∃ n28 : Nat, (∃ n29 : Nat, ((World.cell? w24 (Addr.add (Addr.mk (Array.size (World.heap w)) 0 none) 3) = some (Value.slice p27 n28 n29)) ∧ (Ca Try.prog (15) (Array.mk [Value.pointer p9, Value.string s26, Value.slice p27 n28 n29]) (w24) (fun v30 => (fun w31 =>
                    (∃ x32 : Int, ((v30 = Value.int IntKind.i64 x32) ∧ (ifK (x32 != 1)
                      (R (Value.bool false) (w31))
                      (∃ s33 : ByteArray, ((World.cell? w31 (Addr.add (Addr.mk (Array.size (World.heap w)) 0 none) 1) = some (Value.string s33)) ∧ (∃ x34 : Int, ((World.cell? w31 (Addr.add (Addr.mk (Array.size (World.heap w)) 0 none) 4) = some (Value.int IntKind.i64 x34)) ∧ (Ca Try.prog (30) (Array.mk [Value.pointer p9, Value.string s33, Value.int IntKind.i64 x34]) (w31) (fun v35 => (fun w36 =>
                        (∃ x37 : Int, ((v35 = Value.int IntKind.i64 x37) ∧ (ifK (x37 != 1)
                          (R (Value.bool false) (w36))
                          (∃ s38 : ByteArray, ((World.cell? w36 (Addr.add (Addr.mk (Array.size (World.heap w)) 0 none) 1) = some (Value.string s38)) ∧ (Ca Try.prog (16) (Array.mk [Value.pointer p9, Value.string s38]) (w36) (fun v39 => (fun w40 =>
                            (∃ x41 : Int, ((v39 = Value.int IntKind.i64 x41) ∧ (ifK (x41 != 1)
                              (R (Value.bool false) (w40))
                              (∃ s42 : ByteArray, ((World.cell? w40 (Addr.add (Addr.mk (Array.size (World.heap w)) 0 none) 1) = some (Value.string s42)) ∧ (∃ s43 : ByteArray, ((World.cell? w40 (Addr.add (Addr.mk (Array.size (World.heap w)) 0 none) 2) = some (Value.string s43)) ∧ (Ca Try.prog (25) (Array.mk [Value.pointer p9, Value.string s42, Value.string s43]) (w40) (fun v44 => (fun w45 =>
                                (∃ x46 : Int, ((v44 = Value.int IntKind.i64 x46) ∧ (ifK (x46 != 1)
                                  (R (Value.bool false) (w45))
                                  (∃ s47 : ByteArray, ((World.cell? w45 (Addr.add (Addr.mk (Array.size (World.heap w)) 0 none) 1) = some (Value.string s47)) ∧ (Ca Try.prog (31) (Array.mk [Value.pointer p9, Value.string s47]) (w45) (fun v48 => (fun w49 =>
                                    (∃ x50 : Int, ((v48 = Value.int IntKind.i64 x50) ∧ (ifK (x50 != 1)
                                      (R (Value.bool false) (w49))
                                      (Ca Try.prog (17) (Array.mk [Value.pointer p9]) (w49) (fun v51 => (fun w52 =>
                                        (∃ x53 : Int, ((v51 = Value.int IntKind.i64 x53) ∧ (ifK (x53 != 1)
                                          (R (Value.bool false) (w52))
                                          (∃ x54 : Int, ((World.cell? w52 (Addr.add (Addr.mk (Array.size (World.heap w)) 0 none) 4) = some (Value.int IntKind.i64 x54)) ∧ (∃ x55 : Int, ((World.cell? w52 (Addr.add (Addr.mk (Array.size (World.heap w)) 0 none) 5) = some (Value.int IntKind.i64 x55)) ∧ (Ca Try.prog (24) (Array.mk [Value.pointer p9, Value.int IntKind.i64 x54, Value.int IntKind.i64 x55]) (w52) (fun v56 => (fun w57 =>
                                            (∃ x58 : Int, ((v56 = Value.int IntKind.i64 x58) ∧ (ifK (x58 != 1)
                                              (R (Value.bool false) (w57))
                                              (ifK (x21 != 1)
                                                (R (Value.bool false) (w57))
                                                (Ca Try.prog (23) (Array.mk [Value.pointer p9]) (w57) (fun v59 => (fun w60 =>
                                                  (∃ p61 : Option Addr, (∃ n62 : Nat, (∃ n63 : Nat, ((v59 = Value.slice p61 n62 n63) ∧ (Ca Try.prog (28) (Array.mk [Value.pointer p9]) (w60) (fun v64 => (fun w65 =>
                                                    (∃ x66 : Int, ((v64 = Value.int IntKind.i64 x66) ∧ (Ca Try.prog (29) (Array.mk [Value.pointer p9]) (w65) (fun v67 => (fun w68 =>
                                                      (∃ x69 : Int, ((v67 = Value.int IntKind.i64 x69) ∧ (ifK (IntKind.wrap IntKind.i64 (IntKind.wrap IntKind.i64 ((↑n62 : Int) + x66) + x69) != 0)
                                                        (R (Value.bool false) (w68))
                                                        (Ca Try.prog (26) (Array.mk [Value.pointer p9]) (w68) (fun v70 => (fun w71 =>
                                                          (∃ b72 : Bool, ((v70 = Value.bool b72) ∧ (ifK (b72)
                                                            (R (Value.bool false) (w71))
                                                            ((z2 (IntKind.wrap IntKind.i64 (x5 + 1)) (w71)) ∧ (z3 (IntKind.wrap IntKind.i64 (x5 + 1)) w71 < z3 x5 w6))))))))))))))))))))))))))))))))))))))))))))))))))))))))))))))))))))))))))))))))))))))))))))))))))))))))))))))))))))))))))))
        (Ca Try.prog (12) (Array.mk []) (w6) (fun v73 => (fun w74 =>
          (∃ b75 : Bool, ((v73 = Value.bool b75) ∧ (R (Value.bool b75) (w74)))))))))))))))))))
theorem ca9 (a0_ : Int) (a1_ : ByteArray) (a2_ : ByteArray) (a3_a : Option Addr) (a3_l : Nat) (a3_c : Nat) (a4_ : Int) (a5_ : Int) (w : World) (R : Value → World → Prop) (h : W9 a0_ a1_ a2_ a3_a a3_l a3_c a4_ a5_ w R) : Ca Try.prog 9 ⟨[(.agg ⟨[(.int .i64 a0_), (.string a1_), (.string a2_), (.slice a3_a a3_l a3_c), (.int .i64 a4_), (.int .i64 a5_)]⟩)]⟩ w R := by
  have h1 : Try.prog.follows .mixedOrders = true := by kernel_rfl
  have h2 : Try.f9.body = some C9 := by kernel_rfl
  have h3 : (Try.f9.name == "runtime.NumGoroutine") = false := by kernel_rfl
  have h6 : Try.f9.results.toList = [.tmp 2] := by kernel_rfl
  have h4 : Nat.ble 1 105 = true := by kernel_rfl
  have h5 : okCode 105 pl9 ls9 C9 0 = true := by kernel_rfl
  have e : W9 a0_ a1_ a2_ a3_a a3_l a3_c a4_ a5_ w R = wpC none Try.prog 105 pl9 ls9 C9 0 (endP Try.prog [.tmp 2] R) (fr0 [(.agg ⟨[(.int .i64 a0_), (.string a1_), (.string a2_), (.slice a3_a a3_l a3_c), (.int .i64 a4_), (.int .i64 a5_)]⟩)]) [] w := by kernel_rfl
  exact ca_of' (P := Try.prog) (g := 9) (fn := Try.f9) (c := C9) (m := 105) (rs := [.tmp 2]) (args := [(.agg ⟨[(.int .i64 a0_), (.string a1_), (.string a2_), (.slice a3_a a3_l a3_c), (.int .i64 a4_), (.int .i64 a5_)]⟩)]) (pl := pl9) (ls := ls9) (w := w) (R := R) h1 Try.func9 h2 Try.ntmps9 h6 h3 h4 h5 (Eq.mp e h)

/-- staith/staithlaw11.light -/
noncomputable def C27 : Code := (Try.f27.body).getD .skip
def pl27 : Nat → Plan := fun _ => .done
def ls27 : Nat → List (Nat × LT)
  | 4 => [(3, (.one (.int .i64))), (8, (.one (.int .i64)))]
  | _ => []
def W27 (actsa : Option Addr) (actsl : Nat) (_actsc : Nat) (w : World) (R : Value → World → Prop) : Prop :=
  (∃ z0 : Int → Int → World → Prop, (∃ z1 : Int → Int → World → Nat, ((z0 (0) (0) (w)) ∧ (∀ (_ : Nat → Value), (∀ (x3 : Int), (∀ (x4 : Int), (∀ (w5 : World), ((z0 (x3) (x4) (w5)) → (ifK (decide (x4 < (↑actsl : Int)))
    (∃ a6 : Addr, ((actsa = some a6) ∧ (((0 : Int) ≤ x4) ∧ (((x4 : Int) < (↑actsl : Int)) ∧ (∃ x7 : Int, ((World.cell? w5 (Addr.add (Addr.add a6 (Int.toNat x4 * 6)) 0) = some (Value.int IntKind.i64 x7)) ∧ (∃ s8 : ByteArray, ((World.cell? w5 (Addr.add (Addr.add a6 (Int.toNat x4 * 6)) 1) = some (Value.string s8)) ∧ (∃ s9 : ByteArray, ((World.cell? w5 (Addr.add (Addr.add a6 (Int.toNat x4 * 6)) 2) = some (Value.string s9)) ∧ (∃ p10 : Option Addr, (∃ n11 : Nat, (∃ n12 : Nat, ((World.cell? w5 (Addr.add (Addr.add a6 (Int.toNat x4 * 6)) 3) = some (Value.slice p10 n11 n12)) ∧ (∃ x13 : Int, ((World.cell? w5 (Addr.add (Addr.add a6 (Int.toNat x4 * 6)) 4) = some (Value.int IntKind.i64 x13)) ∧ (∃ x14 : Int, ((World.cell? w5 (Addr.add (Addr.add a6 (Int.toNat x4 * 6)) 5) = some (Value.int IntKind.i64 x14)) ∧ (atW (World.alloc w5 (Obj.cells (Array.mk [Value.int IntKind.i64 0, Value.string (ByteArray.mk #[]), Value.string (ByteArray.mk #[]), Value.slice none 0 0, Value.int IntKind.i64 0, Value.int IntKind.i64 0]) 48 (0, 0))) (fun w15 =>
      ((∃ v16 : Value, (World.cell? w15 (Addr.add (Addr.mk (Array.size (World.heap w5)) 0 none) 0) = some v16)) ∧ ((World.frozen? w15 (Addr.add (Addr.mk (Array.size (World.heap w5)) 0 none) 0) = false) ∧ (atW (World.setCell w15 (Addr.add (Addr.mk (Array.size (World.heap w5)) 0 none) 0) (Value.int IntKind.i64 x7)) (fun w17 =>
        ((∃ v18 : Value, (World.cell? w17 (Addr.add (Addr.mk (Array.size (World.heap w5)) 0 none) 1) = some v18)) ∧ ((World.frozen? w17 (Addr.add (Addr.mk (Array.size (World.heap w5)) 0 none) 1) = false) ∧ (atW (World.setCell w17 (Addr.add (Addr.mk (Array.size (World.heap w5)) 0 none) 1) (Value.string s8)) (fun w19 =>
          ((∃ v20 : Value, (World.cell? w19 (Addr.add (Addr.mk (Array.size (World.heap w5)) 0 none) 2) = some v20)) ∧ ((World.frozen? w19 (Addr.add (Addr.mk (Array.size (World.heap w5)) 0 none) 2) = false) ∧ (atW (World.setCell w19 (Addr.add (Addr.mk (Array.size (World.heap w5)) 0 none) 2) (Value.string s9)) (fun w21 =>
            ((∃ v22 : Value, (World.cell? w21 (Addr.add (Addr.mk (Array.size (World.heap w5)) 0 none) 3) = some v22)) ∧ ((World.frozen? w21 (Addr.add (Addr.mk (Array.size (World.heap w5)) 0 none) 3) = false) ∧ (atW (World.setCell w21 (Addr.add (Addr.mk (Array.size (World.heap w5)) 0 none) 3) (Value.slice p10 n11 n12)) (fun w23 =>
              ((∃ v24 : Value, (World.cell? w23 (Addr.add (Addr.mk (Array.size (World.heap w5)) 0 none) 4) = some v24)) ∧ ((World.frozen? w23 (Addr.add (Addr.mk (Array.size (World.heap w5)) 0 none) 4) = false) ∧ (atW (World.setCell w23 (Addr.add (Addr.mk (Array.size (World.heap w5)) 0 none) 4) (Value.int IntKind.i64 x13)) (fun w25 =>
                ((∃ v26 : Value, (World.cell? w25 (Addr.add (Addr.mk (Array.size (World.heap w5)) 0 none) 5) = some v26)) ∧ ((World.frozen? w25 (Addr.add (Addr.mk (Array.size (World.heap w5)) 0 none) 5) = false) ∧ (atW (World.setCell w25 (Addr.add (Addr.mk (Array.size (World.heap w5)) 0 none) 5) (Value.int IntKind.i64 x14)) (fun w27 =>
                  (∃ p28 : Option Addr, (∃ n29 : Nat, (∃ n30 : Nat, ((World.cell? w27 (Addr.add (Addr.mk (Array.size (World.heap w5)) 0 none) 3) = some (Value.slice p28 n29 n30)) ∧ (∃ s31 : ByteArray, ((World.cell? w27 (Addr.add (Addr.mk (Array.size (World.heap w5)) 0 none) 1) = some (Value.string s31)) ∧ (∃ s32 : ByteArray, ((World.cell? w27 (Addr.add (Addr.mk (Array.size (World.heap w5)) 0 none) 2) = some (Value.string s32)) ∧ (((50 : Int) ≠ 0) ∧ (ifK (decide (IntKind.wrap IntKind.i64 (x3 + IntKind.wrap IntKind.i64 (1 + IntKind.wrap IntKind.i64 (Int.tdiv (IntKind.wrap IntKind.i64 (IntKind.wrap IntKind.i64 ((↑n29 : Int) + (↑(ByteArray.size s31) : Int)) + (↑(ByteArray.size s32) : Int))) 50))) > 250))
                    (R (Value.bool false) (w27))
                    ((z0 (IntKind.wrap IntKind.i64 (x3 + IntKind.wrap IntKind.i64 (1 + IntKind.wrap IntKind.i64 (Int.tdiv (IntKind.wrap IntKind.i64 (IntKind.wrap IntKind.i64 ((↑n29 : Int) + (↑(ByteArray.size s31) : Int)) + (↑(ByteArray.size s32) : Int))) 50)))) (IntKind.wrap IntKind.i64 (x4 + 1)) (w27)) ∧ (z1 (IntKind.wrap IntKind.i64 (x3 + IntKind.wrap IntKind.i64 (1 + IntKind.wrap IntKind.i64 (Int.tdiv (IntKind.wrap IntKind.i64 (IntKind.wrap IntKind.i64 ((↑n29 : Int) + (↑(ByteArray.size s31) : Int)) + (↑(ByteArray.size s32) : Int))) 50)))) (IntKind.wrap IntKind.i64 (x4 + 1)) w27 < z1 x3 x4 w5))))))))))))))))))))))))))))))))))))))))))))))))))))))))
    (R (Value.bool true) (w5)))))))))))
theorem ca27 (actsa : Option Addr) (actsl : Nat) (actsc : Nat) (w : World) (R : Value → World → Prop) (h : W27 actsa actsl actsc w R) : Ca Try.prog 27 ⟨[(.slice actsa actsl actsc)]⟩ w R := by
  have h1 : Try.prog.follows .mixedOrders = true := by kernel_rfl
  have h2 : Try.f27.body = some C27 := by kernel_rfl
  have h3 : (Try.f27.name == "runtime.NumGoroutine") = false := by kernel_rfl
  have h6 : Try.f27.results.toList = [.tmp 2] := by kernel_rfl
  have h4 : Nat.ble 1 30 = true := by kernel_rfl
  have h5 : okCode 30 pl27 ls27 C27 0 = true := by kernel_rfl
  have e : W27 actsa actsl actsc w R = wpC none Try.prog 30 pl27 ls27 C27 0 (endP Try.prog [.tmp 2] R) (fr0 [(.slice actsa actsl actsc)]) [] w := by kernel_rfl
  exact ca_of' (P := Try.prog) (g := 27) (fn := Try.f27) (c := C27) (m := 30) (rs := [.tmp 2]) (args := [(.slice actsa actsl actsc)]) (pl := pl27) (ls := ls27) (w := w) (R := R) h1 Try.func27 h2 Try.ntmps27 h6 h3 h4 h5 (Eq.mp e h)
end Go.Proofs.Ytemklabamlifdaa

/- The store's examples in the statements: lives. -/
namespace Go.Proofs.Ytemklabamlifdaa
open Go Go.Proofs.Ytemklabamlifdaa.St

/-- A store that was made since w0: its blocks are F. -/
structure SB (w0 w : World) (s : Nat) (F : Nat → Prop) (a : AS) : Prop where
  st : Stt w s F a
  mod : Mod no w0 w
  lo : ∀ k, F k → w0.heap.size ≤ k
  hi : ∀ k, F k → k < w.heap.size

section
variable {w0 w w' : World} {s : Nat} {F : Nat → Prop} {a b : AS}
theorem Stt.small (h : Stt w s F a) : Stt w s (fun k => F k ∧ k < w.heap.size) a := by
  obtain ⟨nb, sb, N, S, φ, h⟩ := h
  exact ⟨nb, sb, N, S, φ, h.st, h.now, h.sure, fun i hi => (h.file i hi).old, h.inj, h.ne, h.ok, ⟨h.fs, lt_of_heap h.st.cell⟩, ⟨h.fn, h.st.now.lt⟩, ⟨h.fb, h.st.sure.lt⟩, fun i hi => ⟨h.ff i hi, let ⟨_, hc⟩ := (h.file i hi).cell; lt_of_heap hc⟩⟩
theorem SB.new {room : Int} (h : Stt w s (fun k => w0.heap.size ≤ k) (AS.new room)) (hm : Mod no w0 w) : ∃ F, SB w0 w s F (AS.new room) :=
  ⟨_, h.small, hm, fun _ hk => hk.1, fun _ hk => hk.2⟩
theorem SB.step (h : SB w0 w s F a) (hp : StP s F w b w') : ∃ F', SB w0 w' s F' b ∧ (∀ k, F' k → F k ∨ w.heap.size ≤ k) ∧ Mod F w w' := by
  obtain ⟨F', h1, h2, h3⟩ := hp
  refine ⟨_, ⟨h1.small, h.mod.new h3 h.lo, fun k hk => ?_, fun k hk => hk.2⟩, fun k hk => h2 k hk.1, h3⟩
  rcases h2 k hk.1 with h' | h'
  · exact h.lo k h'
  · exact Nat.le_trans h.mod.size h'
theorem SB.no (h : SB w0 w s F a) (hm : Mod no w w') : SB w0 w' s F a :=
  ⟨Stt.no h.st hm, h.mod.trans hm, h.lo, fun k hk => Nat.lt_of_lt_of_le (h.hi k hk) hm.size⟩
end

/-- A literal's bytes. -/
theorem litW (w : World) (x y : UInt8) (K : Option Addr → Nat → Nat → World → Prop) (hK : ∀ w8, Rd w8 (some ⟨w.heap.size, 0, none⟩) 2 2 [x, y] → Mod no w w8 → K (some ⟨w.heap.size, 0, none⟩) 2 2 w8) :
    atW (w.alloc (.cells #[.int .u8 x.toNat, .int .u8 y.toNat] 5)) fun w6 => ∃ v w8, (convert 24 24 (.slice (some ⟨w.heap.size, 0, none⟩) 2 2)).run Try.prog w6 = .ok v w8 ∧ ∃ p n m, v = .slice p n m ∧ K p n m w8 := by
  intro w6 e6
  subst e6
  refine ⟨_, _, Lib.run_convert_bytes_const (P := Try.prog) w 24 5 _ 2 2 Try.underlying24 Try.underlying5, _, _, _, rfl, hK _ ⟨rfl, Nat.le_refl _, by decide, ?_, fun h => by cases h⟩ (Mod.alloc _ _)⟩
  intro ad had j v hj
  cases had
  rw [cl1 (new_at w _)]
  have : j = 0 ∨ j = 1 ∨ 2 ≤ j := by omega
  rcases this with rfl | rfl | h
  · simpa [u8v] using hj
  · simpa [u8v] using hj
  · rw [List.getElem?_eq_none (by simpa using h)] at hj; cases hj
def nA : ByteArray := ByteArray.mk #[97]
def nB : ByteArray := ByteArray.mk #[98]
def lv0 : AS := AS.new 100
def lv1 : AS := (lv0.make nA).1
def lv2 : AS := (lv1.write nA [120, 121]).1
def lv3 : AS := (lv2.sync nA).1
def lv4 : AS := (lv3.fail 0).power
def lv5 : AS := (lv4.make nA).1
def lv6 : AS := (lv5.write nA [120, 121]).1
def lv7 : AS := (lv6.sync nA).1
def lv8 : AS := lv7.commit.1
def lv9 : AS := (lv8.write nA [122, 122]).1
def lv10 : AS := lv9.fail 1
def lv11 : AS := lv10.power
theorem lvs : (lv0.make nA).2 = 0 ∧ (lv1.write nA [120, 121]).2 = 0 ∧ (lv2.sync nA).2 = 0 ∧ lv4.names = [] ∧ (lv4.make nA).2 = 0 ∧ (lv5.write nA [120, 121]).2 = 0 ∧ (lv6.sync nA).2 = 0 ∧ lv7.commit.2 = 0 ∧ (lv8.write nA [122, 122]).2 = 0 ∧
    lv10.dark = true ∧ lv10.make nB = (lv10, 9) ∧ lv11.read nA = ([120, 121, 122], 0) ∧ lv11.used = 19 := by
  refine ⟨by rfl, by rfl, by rfl, by rfl, by rfl, by rfl, by rfl, by rfl, by rfl, by rfl, by rfl, by rfl, by rfl⟩

theorem lives_ok (w : World) (R : Value → World → Prop) (hR : ∀ w', Mod no w w' → R (.bool true) w') : Ca Try.prog 12 #[] w R := by
  refine ca12 w R ?_
  obtain ⟨l0, l1, l2, l3, l4, l5, l6, l7, l8, l9, l10, l11, l12⟩ := lvs
  have hn : nA.size < 4611686018427387904 := by decide
  have hnb : nB.size < 4611686018427387904 := by decide
  refine new_ok 100 w _ (fun h => by rcases h with h | h <;> exact absurd h (by decide)) fun _ _ w1 s h1 m1 => ⟨_, rfl, (ifK_of (fun h => by cases h) (fun _ => ?_) : ifK false _ _)⟩
  obtain ⟨F, h1⟩ := SB.new h1 m1
  have h1 : SB w w1 s F lv0 := h1
  refine make_ok h1.st nA hn _ fun w2 hp => ?_
  obtain ⟨F, h2, _, _⟩ := h1.step hp
  have h2 : SB w w2 s F lv1 := h2
  rw [l0]
  refine ⟨_, rfl, (ifK_of (fun h => by cases h) (fun _ => ?_) : ifK false _ _)⟩
  refine litW w2 120 121 _ fun w3 r3 m3 => ?_
  have hf3 : ∀ {F : Nat → Prop} {w2 : World}, (∀ k, F k → k < w2.heap.size) → 0 < 2 → ∀ k, rowB (some (⟨w2.heap.size, 0, none⟩ : Addr)) k → ¬ F k := fun hi _ k hk hf => by
    simp [rowB] at hk
    have := hi k hf
    omega
  refine write_ok (h2.no m3).st nA hn r3 (hf3 h2.hi) _ fun w4 hp => ?_
  obtain ⟨F, h4, _, _⟩ := (h2.no m3).step hp
  have h4 : SB w w4 s F lv2 := h4
  rw [l1]
  refine ⟨_, rfl, (ifK_of (fun h => by cases h) (fun _ => ?_) : ifK false _ _)⟩
  refine sync_ok h4.st nA hn _ fun w5 hp => ?_
  obtain ⟨F, h5, _, _⟩ := h4.step hp
  have h5 : SB w w5 s F lv3 := h5
  rw [l2]
  refine ⟨_, rfl, (ifK_of (fun h => by cases h) (fun _ => ?_) : ifK false _ _)⟩
  refine fail2_ok h5.st 0 _ fun w6 hp => ⟨rfl, ?_⟩
  obtain ⟨F, h6, _, _⟩ := h5.step hp
  refine power3_ok h6.st _ fun w7 hp => ⟨rfl, ?_⟩
  obtain ⟨F, h7, _, _⟩ := h6.step hp
  have h7 : SB w w7 s F lv4 := h7
  refine names_ok h7.st _ fun w8 p l c hs m8 _ => ?_
  rw [l3] at hs
  have hl := hs.len.1
  simp only [List.length_nil] at hl
  subst hl
  refine ⟨_, _, _, rfl, (ifK_of (fun h => by cases h) (fun _ => ?_) : ifK false _ _)⟩
  have h8 := h7.no m8
  refine make_ok h8.st nA hn _ fun w9 hp => ?_
  obtain ⟨F, h9, _, _⟩ := h8.step hp
  have h9 : SB w w9 s F lv5 := h9
  rw [l4]
  refine ⟨_, rfl, (ifK_of (fun h => by cases h) (fun _ => ?_) : ifK false _ _)⟩
  refine litW w9 120 121 _ fun w10 r10 m10 => ?_
  refine write_ok (h9.no m10).st nA hn r10 (hf3 h9.hi) _ fun w11 hp => ?_
  obtain ⟨F, h11, _, _⟩ := (h9.no m10).step hp
  have h11 : SB w w11 s F lv6 := h11
  rw [l5]
  refine ⟨_, rfl, (ifK_of (fun h => by cases h) (fun _ => ?_) : ifK false _ _)⟩
  refine sync_ok h11.st nA hn _ fun w12 hp => ?_
  obtain ⟨F, h12, _, _⟩ := h11.step hp
  rw [l6]
  refine ⟨_, rfl, (ifK_of (fun h => by cases h) (fun _ => ?_) : ifK false _ _)⟩
  have h12 : SB w w12 s F lv7 := h12
  refine commit_ok h12.st _ fun w13 hp => ?_
  obtain ⟨F, h13, _, _⟩ := h12.step hp
  rw [l7]
  refine ⟨_, rfl, (ifK_of (fun h => by cases h) (fun _ => ?_) : ifK false _ _)⟩
  have h13 : SB w w13 s F lv8 := h13
  refine litW w13 122 122 _ fun w14 r14 m14 => ?_
  refine write_ok (h13.no m14).st nA hn r14 (hf3 h13.hi) _ fun w15 hp => ?_
  obtain ⟨F, h15, _, _⟩ := (h13.no m14).step hp
  have h15 : SB w w15 s F lv9 := h15
  rw [l8]
  refine ⟨_, rfl, (ifK_of (fun h => by cases h) (fun _ => ?_) : ifK false _ _)⟩
  refine fail2_ok h15.st 1 _ fun w16 hp => ⟨rfl, ?_⟩
  obtain ⟨F, h16, _, _⟩ := h15.step hp
  have h16 : SB w w16 s F lv10 := h16
  refine on2_ok h16.st _ ⟨_, rfl, ?_⟩
  rw [l9]
  refine (ifK_of (fun h => by cases h) (fun _ => ?_) : ifK false _ _)
  refine make_ok h16.st nB hnb _ fun w17 hp => ?_
  rw [l10] at hp ⊢
  obtain ⟨F, h17, _, _⟩ := h16.step hp
  refine ⟨_, rfl, (ifK_of (fun h => by cases h) (fun _ => ?_) : ifK false _ _)⟩
  refine power3_ok h17.st _ fun w18 hp => ⟨rfl, ?_⟩
  obtain ⟨F, h18, _, _⟩ := h17.step hp
  have h18 : SB w w18 s F lv11 := h18
  refine read_ok h18.st nA hn _ fun w19 p l c hr m19 _ => ?_
  rw [l11] at hr ⊢
  refine ⟨_, _, _, _, rfl, (ifK_of (fun _ => ?_) (fun h => by cases h) : ifK true _ _)⟩
  refine ⟨_, w19, str_ok (Rd.of_els hr), _, rfl, ?_⟩
  have hb : (ByteArray.toList ⟨([120, 121, 122] : Bs).toArray⟩ == ByteArray.toList (ByteArray.mk #[120, 121, 122])) = true := by rw [str_eq [120, 121, 122] [120, 121, 122]]; rfl
  rw [hb]
  refine (ifK_of (fun _ => ?_) (fun h => by cases h) : ifK true _ _)
  have h19 := h18.no m19
  refine used_ok h19.st _ fun w20 m20 => ⟨_, rfl, ?_⟩
  rw [l12]
  exact hR w20 (h19.mod.trans m20)
end Go.Proofs.Ytemklabamlifdaa

/- Arguments that are bytes; the reference's Texts. -/
namespace Go.Proofs.Ytemklabamlifdaa
open Go Go.ChangeShapes Go.WideShapes Go.Deep Go.Proofs.Ytemklabamlifdaa.St

/-- An argument's bytes, as many as a machine can hold. -/
def RdA (w : World) (a : Option Addr) (l c : Nat) (x : Bs) : Prop := Rd w a l c x ∧ c ≤ 140737488355328

theorem bytesU8 : Try.prog.bytesOf 5 = 1 := by kernel_rfl
theorem cellsU8 : Try.prog.cellsOf 5 = 1 := by kernel_rfl
set_option maxRecDepth 100000 in
theorem bytes_of_trod {H : Type} {enc : TypeId × Value → H} {w : World} {base fuel : Nat} {cs : List Value} {x : DataW H × List MemPlace} (hf : DataW.trod enc Try.prog w base (fun _ => true) true fuel 24 cs = some x)
    (hz : ∀ n ∈ x.1.weights Try.prog 24, n ≤ reachBytes) : ∃ a l c bs, cs = [.slice a l c] ∧ RdA w a l c bs := by
  rcases open_slice1 Try.underlying24 cellsU8 hf with ⟨hcs, _⟩ | ⟨ad, l, c, m, n, V, D, Pl, hcs, _, hl, hm, hmm, hx, hi⟩
  · exact ⟨none, 0, 0, [], hcs, ⟨rfl, Nat.le_refl _, by decide, fun ad h => (by cases h), fun _ => ⟨rfl, rfl⟩⟩, Nat.zero_le _⟩
  · have hmc : m = c := by rw [hmm]; rfl
    have hone : ∀ i, ∃ b : UInt8, i < l → V i = u8v b := by
      intro i
      by_cases hil : i < l
      · obtain ⟨_, ht⟩ := hi i (by omega)
        obtain ⟨k, hk, _, hwf⟩ := DataW.trod_int Try.underlying5 ht
        simp only [List.cons.injEq, and_true] at hk
        have hwf : (0 : Int) ≤ k ∧ k ≤ 255 := by
          have hwf : (decide ((0 : Int) ≤ k) && decide (k ≤ 255)) = true := hwf
          rw [Bool.and_eq_true, decide_eq_true_iff, decide_eq_true_iff] at hwf
          exact hwf
        refine ⟨UInt8.ofNat k.toNat, fun _ => ?_⟩
        rw [hk, u8v]
        congr 1
        rw [UInt8.toNat_ofNat']
        omega
      · exact ⟨0, fun h => absurd h hil⟩
    obtain ⟨f, hf⟩ := Classical.axiomOfChoice hone
    have hcz : c ≤ 140737488355328 := by
      subst hx
      have := hz ((l + (c - l)) * 1) (by simp [DataW.weights, Try.underlying24, bytesU8, hmc])
      have h2 : reachBytes ≤ 140737488355328 := by decide
      omega
    refine ⟨some ad, l, c, (List.range l).map f, hcs, ⟨by simp, hl, by simpa [maxLen] using hm, fun ad' had j v hj => ?_, fun h => by cases h⟩, hcz⟩
    cases had
    rw [List.map_map, List.getElem?_map] at hj
    by_cases hjl : j < l
    · rw [List.getElem?_range hjl] at hj
      simp only [Option.map_some, Option.some.injEq] at hj
      rw [(hi j (by omega)).1, hf j hjl, ← hj]
      rfl
    · rw [List.getElem?_eq_none (by simpa using hjl)] at hj
      cases hj
set_option maxRecDepth 100000 in
theorem args_bytes {H : Type} {enc : TypeId × Value → H} {w : World} {v : Value} {d : DataW H} {p : List MemPlace} {base : Nat} {r : Reach} {b0 : Nat} (hv : Value.okWide Try.prog w r b0 24 v) (h : DataW.Trod enc Try.prog w base (fun _ => true) true 24 v d p)
    (hz : ∀ n ∈ d.weights Try.prog 24, n ≤ reachBytes) : ∃ a l c x, v = .slice a l c ∧ RdA w a l c x := by
  obtain ⟨a, l, c, rfl⟩ := okWide_slice Try.underlying24 hv
  obtain ⟨fuel, hf⟩ := h
  obtain ⟨a', l', c', bs, hcs, hr⟩ := bytes_of_trod hf hz
  simp only [Value.cells, List.cons.injEq, and_true] at hcs
  injection hcs with h1 h2 h3
  subst h1; subst h2; subst h3
  exact ⟨a, l, c, bs, rfl, hr⟩

/-- Strings that are read, wherever they lie. -/
theorem texts_ok {w : World} {a b : Option Addr} {al ac bl bc : Nat} {xs ys : List ByteArray} (hx : Strs w a al ac xs) (hy : Strs w b bl bc ys) (hn : al < 4611686018427387904) (R : Value → World → Prop) (h : ∀ w', Mod no w w' → R (.bool (decide (xs = ys))) w') :
    Ca Try.prog 22 #[.slice a al ac, .slice b bl bc] w R := by
  have hxl := hx.len.1
  have hyl := hy.len.1
  refine ca22 a al ac b bl bc w R ?_
  refine ifK_of (fun hne => ?_) (fun he => ?_)
  · have : ¬ xs = ys := fun e => by
      subst e
      have hne : ((al : Int) != (bl : Int)) = true := hne
      simp at hne
      omega
    have h := h w (Mod.refl _ _)
    rwa [decide_eq_false this] at h
  · have hll : al = bl := by
      have he : ((al : Int) != (bl : Int)) = false := he
      simp at he
      omega
    have get : ∀ {w' : World} {p : Option Addr} {l c : Nat} {zs : List ByteArray}, Strs w' p l c zs → ∀ {i : Nat} (hi : i < zs.length), ∃ ad, p = some ad ∧ w'.cell? (Addr.add ad (i * 1)) = some (.string zs[i]) := by
      intro w' p l c zs hz i hi
      obtain ⟨q1, q2⟩ := hz.all (fun _ => rfl)
      cases p with
      | none => have := q2 rfl; have := hz.len; omega
      | some ad => exact ⟨ad, rfl, q1 ad rfl _ _ (by rw [Nat.mul_one]; simp [hi])⟩
    refine ⟨fun x w' => ∃ i : Nat, x = i ∧ i ≤ al ∧ Mod no w w' ∧ xs.take i = ys.take i, fun x _ => ((al : Int) - x).toNat, ⟨0, rfl, Nat.zero_le _, Mod.refl _ _, rfl⟩, ?_⟩
    rintro _ _ w4 ⟨i, rfl, hi, m4, heq⟩
    have e1 : i < al → IntKind.i64.wrap ((i : Int) + 1) = ((i + 1 : Nat) : Int) := fun h => by rw [wrap64 (by omega) (by omega)]; rfl
    refine ifK_dec (fun hlt => ?_) (fun hge => ?_)
    · have hlt' : i < al := by omega
      intro w5 e5
      have m5 : Mod no w w5 := by subst e5; exact m4.trans (Mod.drew _)
      clear e5
      obtain ⟨ad, had, hc⟩ := get (row_mod hx m5 fun _ _ => id) (i := i) (by omega)
      obtain ⟨bd, hbd, hd⟩ := get (row_mod hy m5 fun _ _ => id) (i := i) (by omega)
      rw [e1 hlt']
      clear e1
      refine ⟨ad, had, by omega, hlt, _, by rw [Int.toNat_natCast]; exact hc, bd, hbd, by omega, by omega, _, by rw [Int.toNat_natCast]; exact hd, ?_⟩
      rw [byteArray_toList, byteArray_toList]
      have hiff : (xs[i].data.toList == ys[i].data.toList) = decide (xs[i] = ys[i]) := by
        rw [Bool.eq_iff_iff, beq_iff_eq, decide_eq_true_iff]
        constructor
        · intro h
          generalize xs[i] = x at h
          generalize ys[i] = y at h
          cases x; cases y
          simp only at h
          rw [Array.toList_inj.1 h]
        · intro h; rw [h]
      rw [hiff]
      refine ifK_not (fun hne => ?_) (fun hee => ?_)
      · have hne : ¬ xs[i] = ys[i] := of_decide_eq_false hne
        have : ¬ xs = ys := fun e => hne (by subst e; rfl)
        have h := h w5 m5
        rwa [decide_eq_false this] at h
      · have hb : xs[i] = ys[i] := of_decide_eq_true hee
        refine ⟨⟨i + 1, rfl, hlt', m5, ?_⟩, by simp only; omega⟩
        rw [List.take_add_one, List.take_add_one, heq, List.getElem?_eq_getElem (by omega), List.getElem?_eq_getElem (by omega), hb]
    · have h := h w4 m4
      have hi' : i = al := by omega
      rw [List.take_of_length_le (by omega), List.take_of_length_le (by omega)] at heq
      rwa [decide_eq_true heq] at h
end Go.Proofs.Ytemklabamlifdaa

/- Arguments that are structs, opened field by field. It names no program. -/
namespace Go.Proofs.Ytemklabamlifdaa.St
open Go Go.ChangeShapes Go.WideShapes Go.Deep

section
variable {H : Type} {enc : TypeId × Value → H} {P : Program} {w : World} {base : Nat} {spare : Nat → Bool} {held : Bool}
theorem open_agg {r : Reach} {b0 : Nat} {t : TypeId} {fs : Array Field} {v : Value} {d : DataW H} {p : List MemPlace} (hs : P.underlying t = some (.struct fs)) (hone : oneCellFields P fs = true) (hC : P.cellsOf t = fs.size)
    (hv : Value.okWide P w r b0 t v) (h : DataW.Trod enc P w base spare held t v d p) :
    ∃ (cs : Array Value) (ys : List (DataW H × List MemPlace)) (n : Nat), v = .agg cs ∧ cs.size = fs.size ∧ d = .agg (ys.map (·.1)) ∧ ys.length = fs.size ∧
      ∀ (j : Nat) (f : Field), fs[j]? = some f → ∃ c y, cs[j]? = some c ∧ ys[j]? = some y ∧ DataW.trod enc P w base spare held n f.type [c] = some y := by
  obtain ⟨cs, rfl, hsz⟩ := okWide_struct hs hv
  obtain ⟨fuel, hf⟩ := h
  obtain ⟨ys, n, _, hy, _, hlen, hg⟩ := DataW.trod_struct hs hf
  simp only [Prod.mk.injEq] at hy
  refine ⟨cs, ys, n, rfl, hsz.trans hC, hy.1, hlen, fun j f hj => ?_⟩
  obtain ⟨ho, hk⟩ := hone_of hone j f hj
  have hjl : j < fs.size := (Array.getElem?_eq_some_iff.1 hj).1
  have hjc : j < cs.size := by rw [hsz, hC]; exact hjl
  have hg := hg j f hj
  rw [ho, hk] at hg
  have hone' : ((Value.agg cs).cells.toList.drop j).take 1 = [cs[j]] := by
    show (cs.toList.drop j).take 1 = _
    rw [List.drop_eq_getElem_cons (by simpa using hjc)]
    simp
  rw [hone'] at hg
  have hys : ys[j]? = some (ys[j]'(by omega)) := List.getElem?_eq_getElem (by omega)
  exact ⟨cs[j], _, Array.getElem?_eq_getElem hjc, hys, hg.trans hys⟩
theorem agg_weights {t : TypeId} {fs : Array Field} {ys : List (DataW H × List MemPlace)} (hs : P.underlying t = some (.struct fs)) {j : Nat} {f : Field} (hj : fs[j]? = some f) {y : DataW H × List MemPlace} (hy : ys[j]? = some y)
    {B : Nat} (h : ∀ n ∈ (DataW.agg (ys.map (·.1))).weights P t, n ≤ B) : ∀ n ∈ y.1.weights P f.type, n ≤ B := by
  intro n hn
  refine h n ?_
  rw [DataW.weights, hs]
  refine DataW.weights_mem_each (j := j) (t := f.type) (d := y.1) ?_ ?_ n hn
  · rw [List.getElem?_map, Array.getElem?_toList, hj]; rfl
  · rw [List.getElem?_map, hy]; rfl
theorem slice_weights {t e : TypeId} {elems spare' : List (DataW H)} (hs : P.underlying t = some (.slice e)) {x : DataW H} (hx : x ∈ elems ++ spare') {B : Nat} (h : ∀ n ∈ (DataW.slice elems spare').weights P t, n ≤ B) : ∀ n ∈ x.weights P e, n ≤ B := by
  have all : ∀ (l : List (DataW H)), x ∈ l → ∀ n ∈ x.weights P e, n ∈ DataW.weightsAll P e l := by
    intro l
    induction l with
    | nil => intro h; cases h
    | cons y r ih =>
      intro h n hn
      rw [DataW.weightsAll, List.mem_append]
      rcases List.mem_cons.1 h with rfl | h
      · exact .inl hn
      · exact .inr (ih h n hn)
  intro n hn
  refine h n ?_
  rw [DataW.weights, hs]
  rcases List.mem_append.1 hx with hx | hx
  · exact List.mem_cons_of_mem _ (List.mem_append_left _ (all _ hx n hn))
  · exact List.mem_cons_of_mem _ (List.mem_append_right _ (all _ hx n hn))
theorem slice_size {t e : TypeId} {elems spare' : List (DataW H)} (hs : P.underlying t = some (.slice e)) {B : Nat} (h : ∀ n ∈ (DataW.slice elems spare').weights P t, n ≤ B) : (elems.length + spare'.length) * P.bytesOf e ≤ B := by
  refine h _ ?_
  rw [DataW.weights, hs]
  exact List.mem_cons_self
end
end Go.Proofs.Ytemklabamlifdaa.St

/- Arguments that are rows of structs: they are read, never written. It names no program. -/
namespace Go.Proofs.Ytemklabamlifdaa.St
open Go Go.ChangeShapes Go.WideShapes Go.Deep

/-- An argument's row. -/
structure ArgRow {α : Type} (L : Lay α) (w : World) (a : Option Addr) (l c : Nat) (xs : List α) : Prop where
  len : xs.length = l
  lc : l ≤ c
  cm : c ≤ 9223372036854775807
  blk : ∀ ad, a = some ad → 0 < l → ad.block < w.heap.size
  get : ∀ (i : Nat) (h : i < xs.length), ∃ ad, a = some ad ∧ ∀ j v, (L.cs xs[i])[j]? = some v → w.cell? (Addr.add (Addr.add ad (i * L.s)) j) = some v
theorem cell_no {w w' : World} (h : Mod no w w') {ad : Addr} (hb : ad.block < w.heap.size) : w'.cell? ad = w.cell? ad := by
  have := h.keep ad.block hb id
  unfold World.cell?
  rw [this]
theorem add_block (ad : Addr) (n : Nat) : (Addr.add ad n).block = ad.block := by unfold Addr.add; split <;> rfl
theorem ArgRow.no {α : Type} {L : Lay α} {w w' : World} {a : Option Addr} {l c : Nat} {xs : List α} (h : ArgRow L w a l c xs) (hm : Mod no w w') : ArgRow L w' a l c xs := by
  refine ⟨h.len, h.lc, h.cm, fun ad had hl => Nat.lt_of_lt_of_le (h.blk ad had hl) hm.size, fun i hi => ?_⟩
  obtain ⟨ad, had, hg⟩ := h.get i hi
  refine ⟨ad, had, fun j v hj => ?_⟩
  rw [cell_no hm (by rw [add_block, add_block]; exact h.blk ad had (by have := h.len; omega))]
  exact hg j v hj
theorem cell_lt {w : World} {ad : Addr} {v : Value} (h : w.cell? ad = some v) : ad.block < w.heap.size := by
  unfold World.cell? at h
  cases hh : w.heap[ad.block]? with
  | none => rw [hh] at h; cases h
  | some o => exact lt_of_heap hh

section
variable {H : Type} {enc : TypeId × Value → H} {P : Program} {w : World} {base : Nat} {spare : Nat → Bool} {held : Bool}
theorem open_slice_fields {t e : TypeId} {fs : Array Field} {fuel : Nat} {cs : List Value} {x : DataW H × List MemPlace} (ht : P.underlying t = some (.slice e)) (he : P.underlying e = some (.struct fs))
    (hone : oneCellFields P fs = true) (hC : P.cellsOf e = fs.size) (h : DataW.trod enc P w base spare held fuel t cs = some x) :
    (cs = [.slice none 0 0] ∧ x = (.nil, [])) ∨
    ∃ (a : Addr) (len cap m : Nat) (D : Nat → DataW H) (Pl : Nat → List MemPlace), cs = [.slice (some a) len cap] ∧ base ≤ a.block ∧ len ≤ cap ∧ cap ≤ maxLen ∧ m = (if spare a.block then cap else len) ∧
      x = (.slice ((List.range len).map D) ((List.range (m - len)).map fun j => D (len + j)), MemPlace.row a (m * fs.size) ++ (List.range m).flatMap Pl) ∧
      ∀ i, i < m → ∃ (ys : List (DataW H × List MemPlace)) (n : Nat), D i = .agg (ys.map (·.1)) ∧ Pl i = ys.flatMap (·.2) ∧ ys.length = fs.size ∧
        ∀ (j : Nat) (f : Field), fs[j]? = some f → ∃ (v : Value) (y : DataW H × List MemPlace), w.cell? (a.add (i * fs.size + j)) = some v ∧ ys[j]? = some y ∧ DataW.trod enc P w base spare held n f.type [v] = some y := by
  rcases open_slice ht h with h0 | ⟨a, len, cap, m, n, D, Pl, hcs, hb, hl, hm, hmm, hx, hi⟩
  · exact .inl h0
  · refine .inr ⟨a, len, cap, m, D, Pl, hcs, hb, hl, hm, hmm, by rw [hC] at hx; exact hx, fun i him => ?_⟩
    obtain ⟨cs', hc, ht'⟩ := hi i him
    rw [hC] at hc
    obtain ⟨ys, n', hn', hy, hlen, hyl, hf⟩ := DataW.trod_struct he ht'
    obtain ⟨_, hcl, hat⟩ := World.cells?_some hc
    simp only [Prod.mk.injEq] at hy
    refine ⟨ys, n', hy.1, hy.2, hyl, fun j f hj => ?_⟩
    obtain ⟨ho, hk⟩ := hone_of hone j f hj
    have hjl : j < fs.size := (Array.getElem?_eq_some_iff.1 hj).1
    have hcell := hat j hjl
    have hv : cs'[j]? = some (cs'[j]'(by omega)) := List.getElem?_eq_getElem (by omega)
    have h1 := hf j f hj
    rw [ho, hk] at h1
    have hone' : (cs'.drop j).take 1 = [cs'[j]'(by omega)] := by
      rw [List.drop_eq_getElem_cons (by omega)]
      rfl
    rw [hone'] at h1
    have hys : ys[j]? = some (ys[j]'(by omega)) := List.getElem?_eq_getElem (by omega)
    refine ⟨_, _, ?_, hys, h1.trans hys⟩
    rw [← Go.Deep.add_add, hcell, hv]
end

/-- An argument of a slice type whose elements are such structs: each is read as Q says. -/
theorem args_row {H : Type} {enc : TypeId × Value → H} {P : Program} {w : World} {v : Value} {d : DataW H} {p : List MemPlace} {base : Nat} {r : Reach} {b0 : Nat} {t e : TypeId} {fs : Array Field} {α : Type} [Inhabited α] {L : Lay α} (Q : α → Prop) {B : Nat}
    (ht : P.underlying t = some (.slice e)) (he : P.underlying e = some (.struct fs)) (hone : oneCellFields P fs = true) (hC : P.cellsOf e = fs.size) (hs : L.s = fs.size)
    (hv : Value.okWide P w r b0 t v) (h : DataW.Trod enc P w base (fun _ => true) true t v d p) (hz : ∀ n ∈ d.weights P t, n ≤ B)
    (hx : ∀ (ys : List (DataW H × List MemPlace)) (n : Nat) (V : Nat → Value), (∀ (j : Nat) (f : Field), fs[j]? = some f → ∃ y, ys[j]? = some y ∧ DataW.trod enc P w base (fun _ => true) true n f.type [V j] = some y ∧ ∀ m ∈ y.1.weights P f.type, m ≤ B) →
      ∃ x : α, (∀ j u, (L.cs x)[j]? = some u → V j = u) ∧ Q x) :
    ∃ a l c xs, v = .slice a l c ∧ ArgRow L w a l c xs ∧ (∀ x ∈ xs, Q x) ∧ c * P.bytesOf e ≤ B := by
  obtain ⟨a, l, c, rfl⟩ := okWide_slice ht hv
  obtain ⟨fuel, hf⟩ := h
  rcases open_slice_fields ht he hone hC hf with ⟨hcs, _⟩ | ⟨ad, len, cap, m, D, Pl, hcs, _, hl, hm, hmm, hxx, hi⟩
  · simp only [Value.cells, List.cons.injEq, and_true] at hcs
    injection hcs with h1 h2 h3
    subst h1; subst h2; subst h3
    exact ⟨none, 0, 0, [], rfl, ⟨rfl, Nat.le_refl _, by decide, fun ad h => (by cases h), fun i h => (by simp at h)⟩, fun x h => (by cases h), by rw [Nat.zero_mul]; exact Nat.zero_le _⟩
  · simp only [Value.cells, List.cons.injEq, and_true] at hcs
    injection hcs with h1 h2 h3
    subst h1; subst h2; subst h3
    have hmc : m = c := by rw [hmm]; rfl
    have hd : d = .slice ((List.range l).map D) ((List.range (m - l)).map fun j => D (l + j)) := congrArg Prod.fst hxx
    have hone : ∀ i, i < l → ∃ x : α, (∀ j u, (L.cs x)[j]? = some u → w.cell? (Addr.add ad (i * L.s + j)) = some u) ∧ Q x := by
      intro i hil
      obtain ⟨ys, n, hD, _, _, hg⟩ := hi i (by omega)
      have hDz : ∀ n ∈ (D i).weights P e, n ≤ B := by
        rw [hd] at hz
        exact slice_weights ht (List.mem_append_left _ (List.mem_map.2 ⟨i, List.mem_range.2 hil, rfl⟩)) hz
      have hch : ∀ j, ∃ v : Value, ∀ f, fs[j]? = some f → w.cell? (ad.add (i * fs.size + j)) = some v ∧ ∃ y, ys[j]? = some y ∧ DataW.trod enc P w base (fun _ => true) true n f.type [v] = some y := by
        intro j
        cases hj : fs[j]? with
        | none => exact ⟨.tuple #[], fun f hf => by cases hf⟩
        | some f =>
          obtain ⟨v, y, q1, q2, q3⟩ := hg j f hj
          exact ⟨v, fun f' hf' => by cases hf'; exact ⟨q1, y, q2, q3⟩⟩
      obtain ⟨V, hV⟩ := Classical.axiomOfChoice hch
      obtain ⟨x, hx1, hx2⟩ := hx ys n V fun j f hj => by
        obtain ⟨_, y, q2, q3⟩ := hV j f hj
        rw [hD] at hDz
        exact ⟨y, q2, q3, agg_weights he hj q2 hDz⟩
      refine ⟨x, fun j u hj => ?_, hx2⟩
      have hjs : j < fs.size := by
        have := (List.getElem?_eq_some_iff.1 hj).1
        rw [L.len] at this
        omega
      have := (hV j _ (Array.getElem?_eq_getElem hjs)).1
      rw [hs, this, hx1 j u hj]
    have hall : ∀ i, ∃ x : α, i < l → (∀ j u, (L.cs x)[j]? = some u → w.cell? (Addr.add ad (i * L.s + j)) = some u) ∧ Q x := by
      intro i
      by_cases h : i < l
      · obtain ⟨x, hx⟩ := hone i h
        exact ⟨x, fun _ => hx⟩
      · exact ⟨default, fun h' => absurd h' h⟩
    obtain ⟨f, hf⟩ := Classical.axiomOfChoice hall
    refine ⟨some ad, l, c, (List.range l).map f, rfl, ⟨by simp, hl, by simpa [maxLen] using hm, fun ad' had hl0 => ?_, fun i h => ?_⟩, fun x hx => ?_, ?_⟩
    · cases had
      have hp := (hf 0 hl0).1 0 ((L.cs (f 0))[0]'(by rw [L.len]; exact L.pos)) (List.getElem?_eq_getElem _)
      have := cell_lt hp
      rwa [add_block] at this
    · refine ⟨ad, rfl, fun j v hj => ?_⟩
      rw [List.getElem_map, List.getElem_range] at hj
      have := (hf i (by simpa using h)).1 j v hj
      rwa [← Go.Deep.add_add] at this
    · obtain ⟨i, hi, rfl⟩ := List.mem_map.1 hx
      exact (hf i (List.mem_range.1 hi)).2
    · rw [hd] at hz
      have := slice_size ht hz
      rw [List.length_map, List.length_map, List.length_range, List.length_range, show l + (m - l) = c by omega] at this
      exact this
end Go.Proofs.Ytemklabamlifdaa.St

/- The store laws' acts, as they lie; whether a list of them is light. -/
namespace Go.Proofs.Ytemklabamlifdaa
open Go Go.ChangeShapes Go.WideShapes Go.Deep Go.Proofs.Ytemklabamlifdaa.St

structure ActS where
  kind : Int
  a : ByteArray
  b : ByteArray
  da : Option Addr
  dl : Nat
  dc : Nat
  data : Bs
  n : Int
  m : Int
instance actInh : Inhabited ActS := ⟨⟨0, ByteArray.empty, ByteArray.empty, none, 0, 0, [], 0, 0⟩⟩
def actL : Lay ActS where
  cs x := [.int .i64 x.kind, .string x.a, .string x.b, .slice x.da x.dl x.dc, .int .i64 x.n, .int .i64 x.m]
  s := 6
  pos := by decide
  len _ := rfl
  one x v hv := by simp at hv; rcases hv with rfl | rfl | rfl | rfl | rfl | rfl <;> rfl
/-- An act's bytes lie there; nothing is longer than a machine can hold. -/
structure ActOk (w : World) (x : ActS) : Prop where
  rd : Rd w x.da x.dl x.dc x.data
  dc : x.dc ≤ 140737488355328
  na : x.a.size ≤ 140737488355328
  nb : x.b.size ≤ 140737488355328
theorem ActOk.no {w w' : World} {x : ActS} (h : ActOk w x) (hm : Mod no w w') : ActOk w' x := ⟨h.rd.no hm, h.dc, h.na, h.nb⟩
structure Acts (w : World) (a : Option Addr) (l c : Nat) (xs : List ActS) : Prop where
  row : ArgRow actL w a l c xs
  ok : ∀ x ∈ xs, ActOk w x
theorem Acts.no {w w' : World} {a : Option Addr} {l c : Nat} {xs : List ActS} (h : Acts w a l c xs) (hm : Mod no w w') : Acts w' a l c xs := ⟨h.row.no hm, fun x hx => (h.ok x hx).no hm⟩

theorem cellsAct : Try.prog.cellsOf 48 = 6 := by kernel_rfl
set_option maxRecDepth 100000 in
theorem args_acts {H : Type} {enc : TypeId × Value → H} {w : World} {v : Value} {d : DataW H} {p : List MemPlace} {base : Nat} {r : Reach} {b0 : Nat} (hv : Value.okWide Try.prog w r b0 45 v) (h : DataW.Trod enc Try.prog w base (fun _ => true) true 45 v d p)
    (hz : ∀ n ∈ d.weights Try.prog 45, n ≤ reachBytes) : ∃ a l c xs, v = .slice a l c ∧ Acts w a l c xs := by
  obtain ⟨a, l, c, xs, rfl, h1, h2, _⟩ := args_row (L := actL) (ActOk w) Try.underlying45 Try.underlying48 (by kernel_rfl) cellsAct rfl hv h hz (by
    intro ys n V hg
    obtain ⟨y0, _, t0, _⟩ := hg 0 _ rfl
    obtain ⟨y1, _, t1, z1⟩ := hg 1 _ rfl
    obtain ⟨y2, _, t2, z2⟩ := hg 2 _ rfl
    obtain ⟨y3, _, t3, z3⟩ := hg 3 _ rfl
    obtain ⟨y4, _, t4, _⟩ := hg 4 _ rfl
    obtain ⟨y5, _, t5, _⟩ := hg 5 _ rfl
    obtain ⟨a0, e0, _, _⟩ := DataW.trod_int Try.underlying3 t0
    obtain ⟨a1, e1, d1, x1⟩ := DataW.trod_string Try.underlying9 t1
    obtain ⟨a2, e2, d2, x2⟩ := DataW.trod_string Try.underlying9 t2
    obtain ⟨da, dl, dc, bs, e3, hr, hdc⟩ := bytes_of_trod t3 z3
    obtain ⟨a4, e4, _, _⟩ := DataW.trod_int Try.underlying3 t4
    obtain ⟨a5, e5, _, _⟩ := DataW.trod_int Try.underlying3 t5
    simp only [List.cons.injEq, and_true] at e0 e1 e2 e3 e4 e5
    have hb : reachBytes ≤ 140737488355328 := by decide
    refine ⟨⟨a0, a1, a2, da, dl, dc, bs, a4, a5⟩, fun j u hj => ?_, hr, hdc, ?_, ?_⟩
    · match j, hj with
      | 0, hj => cases hj; exact e0
      | 1, hj => cases hj; exact e1
      | 2, hj => cases hj; exact e2
      | 3, hj => cases hj; exact e3
      | 4, hj => cases hj; exact e4
      | 5, hj => cases hj; exact e5
      | j + 6, hj => simp [actL] at hj
    · rw [d1] at z1
      exact Nat.le_trans (z1 _ (by simp [DataW.weights])) hb
    · rw [d2] at z2
      exact Nat.le_trans (z2 _ (by simp [DataW.weights])) hb)
  exact ⟨a, l, c, xs, rfl, h1, h2⟩

/-- One of the acts is copied into a place of its own. -/
theorem copyAct {w : World} {a : Option Addr} {l c : Nat} {xs : List ActS} (hr : Acts w a l c xs) {x : Int} (i : Nat) (hx : x = i) (hi : i < xs.length) {K : World → Prop}
    (hk : ∀ w', w'.heap[w.heap.size]? = some (.cells (actL.cs xs[i]).toArray 48 (0, 0)) → Mod no w w' → K w') :
    ∃ ad : Addr, a = some ad ∧ (0 : Int) ≤ x ∧ x < (↑l : Int) ∧ ∃ x0 : Int, w.cell? (Addr.add (Addr.add ad (Int.toNat x * 6)) 0) = some (.int .i64 x0) ∧
      ∃ x1 : ByteArray, w.cell? (Addr.add (Addr.add ad (Int.toNat x * 6)) 1) = some (.string x1) ∧ ∃ x2 : ByteArray, w.cell? (Addr.add (Addr.add ad (Int.toNat x * 6)) 2) = some (.string x2) ∧
      ∃ (p3 : Option Addr) (l3 c3 : Nat), w.cell? (Addr.add (Addr.add ad (Int.toNat x * 6)) 3) = some (.slice p3 l3 c3) ∧ ∃ x4 : Int, w.cell? (Addr.add (Addr.add ad (Int.toNat x * 6)) 4) = some (.int .i64 x4) ∧
      ∃ x5 : Int, w.cell? (Addr.add (Addr.add ad (Int.toNat x * 6)) 5) = some (.int .i64 x5) ∧
      atW (w.alloc (.cells ⟨[.int .i64 0, .string ⟨#[]⟩, .string ⟨#[]⟩, .slice none 0 0, .int .i64 0, .int .i64 0]⟩ 48 (0, 0))) fun w1 => fillC w.heap.size [.int .i64 x0, .string x1, .string x2, .slice p3 l3 c3, .int .i64 x4, .int .i64 x5] 0 w1 K := by
  subst hx
  obtain ⟨ad, had, hg⟩ := hr.row.get i hi
  have hl := hr.row.len
  have hg : ∀ j v, (actL.cs xs[i])[j]? = some v → w.cell? (Addr.add (Addr.add ad (Int.toNat (i : Int) * 6)) j) = some v := hg
  refine ⟨_, had, by omega, by omega, _, hg 0 _ rfl, _, hg 1 _ rfl, _, hg 2 _ rfl, _, _, _, hg 3 _ rfl, _, hg 4 _ rfl, _, hg 5 _ rfl, ?_⟩
  intro w2 e2
  have m2 : Mod no w w2 := by subst e2; exact Mod.alloc _ _
  have b2 : w2.heap[w.heap.size]? = some (.cells #[.int .i64 0, .string (ByteArray.mk #[]), .string (ByteArray.mk #[]), .slice none 0 0, .int .i64 0, .int .i64 0] 48 (0, 0)) := by subst e2; exact new_at _ _
  clear e2
  refine fillC_ok (vs := actL.cs xs[i]) b2 rfl fun w3 b3 m3 _ => hk w3 b3 (m2.new m3 fun k hk => by cases hk; exact Nat.le_refl _)

theorem light_ok (a : Option Addr) (l c : Nat) (xs : List ActS) (w : World) (hr : Acts w a l c xs) (R : Value → World → Prop) (h : ∀ w' b, Mod no w w' → (b = true → l ≤ 250) → R (.bool b) w') : Ca Try.prog 27 #[.slice a l c] w R := by
  have hl := hr.row.len
  refine ca27 a l c w R ?_
  refine ⟨fun n x w' => ∃ (i k : Nat), x = i ∧ n = k ∧ i ≤ k ∧ k ≤ 250 ∧ i ≤ l ∧ Mod no w w', fun _ x _ => ((l : Int) - x).toNat, ⟨0, 0, rfl, rfl, Nat.zero_le _, by decide, Nat.zero_le _, Mod.refl _ _⟩, ?_⟩
  rintro _ _ _ w1 ⟨i, k, rfl, rfl, hik, hk, hi, m1⟩
  refine ifK_dec (fun hlt => ?_) (fun hge => h w1 true m1 fun _ => by omega)
  have hil : i < xs.length := by omega
  refine copyAct (hr.no m1) i rfl hil fun w2 b2 m2 => ?_
  have hok := hr.ok xs[i] (List.getElem_mem hil)
  have h1 := hok.rd.le
  have h2 := hok.dc
  have h3 := hok.na
  have h4 := hok.nb
  refine ⟨_, _, _, by rw [cl1 b2]; rfl, _, by rw [cl1 b2]; rfl, _, by rw [cl1 b2]; rfl, by decide, ?_⟩
  generalize (xs[i]).dl = q1 at h1
  generalize (xs[i]).dc = q2 at h1 h2
  generalize (xs[i]).a.size = q3 at h3
  generalize (xs[i]).b.size = q4 at h4
  clear hok b2
  have e1 : IntKind.i64.wrap (IntKind.i64.wrap ((q1 : Int) + (q3 : Int)) + (q4 : Int)) = ((q1 + q3 + q4 : Nat) : Int) := by rw [wrap64 (x := (q1 : Int) + (q3 : Int)) (by omega) (by omega), wrap64 (by omega) (by omega)]; omega
  have e2 : Int.tdiv ((q1 + q3 + q4 : Nat) : Int) 50 = ((q1 + q3 + q4) / 50 : Nat) := by rw [Int.tdiv_eq_ediv_of_nonneg (by omega)]; omega
  rw [e1, e2]
  have e3 : IntKind.i64.wrap (((q1 + q3 + q4) / 50 : Nat) : Int) = ((q1 + q3 + q4) / 50 : Nat) := wrap64 (by omega) (by omega)
  rw [e3]
  have e4 : IntKind.i64.wrap (1 + (((q1 + q3 + q4) / 50 : Nat) : Int)) = (1 + (q1 + q3 + q4) / 50 : Nat) := by rw [wrap64 (by omega) (by omega)]; omega
  rw [e4]
  have e5 : IntKind.i64.wrap ((k : Int) + ((1 + (q1 + q3 + q4) / 50 : Nat) : Int)) = (k + (1 + (q1 + q3 + q4) / 50) : Nat) := by rw [wrap64 (by omega) (by omega)]; omega
  rw [e5]
  have e6 : IntKind.i64.wrap ((i : Int) + 1) = ((i + 1 : Nat) : Int) := by rw [wrap64 (by omega) (by omega)]; rfl
  rw [e6]
  generalize (q1 + q3 + q4) / 50 = z
  refine ifK_dec (fun _ => h w2 false (m1.trans m2) fun h => by cases h) (fun hz => ?_)
  exact ⟨⟨i + 1, k + (1 + z), rfl, rfl, by omega, by omega, by omega, m1.trans m2⟩, by simp only; omega⟩
end Go.Proofs.Ytemklabamlifdaa

/- The walk of StoreKeeps. -/
namespace Go.Proofs.Ytemklabamlifdaa
open Go Go.Proofs.Ytemklabamlifdaa.St

/-! ### The plain law -/
def kp (all : List (Bs × Bs)) (dir sure : List (ByteArray × Nat)) (dark : Bool) (n : Int) : AS := ⟨100000, all, dir, sure, dark, n, 0, 0⟩
section
variable (x y : Bs)
theorem kp1 : (AS.new 100000).make nA = (kp [([], [])] [(nA, 0)] [] false 1, 0) := rfl
theorem kp2 (h : x.length ≤ 5000) : (kp [([], [])] [(nA, 0)] [] false 1).write nA x = (kp [(x, [])] [(nA, 0)] [] false 2, 0) := by
  rw [AS.write, if_pos (show (kp [([], [])] [(nA, 0)] [] false 1).known nA = 0 from rfl), if_neg (by show ¬ (100000 : Int) - ((16 + 0 + 0 : Nat) : Int) < x.length; omega)]; rfl
theorem kp3 : (kp [(x, [])] [(nA, 0)] [] false 2).sync nA = (kp [(x, x)] [(nA, 0)] [] false 3, 0) := rfl
theorem kp4 : (kp [(x, x)] [(nA, 0)] [] false 3).commit = (kp [(x, x)] [(nA, 0)] [(nA, 0)] false 4, 0) := rfl
theorem kp5 (h : x.length + y.length ≤ 5000) : (kp [(x, x)] [(nA, 0)] [(nA, 0)] false 4).write nA y = (kp [(x ++ y, x)] [(nA, 0)] [(nA, 0)] false 5, 0) := by
  rw [AS.write, if_pos (show (kp [(x, x)] [(nA, 0)] [(nA, 0)] false 4).known nA = 0 from rfl), if_neg (by show ¬ (100000 : Int) - ((16 + x.length + 0 : Nat) : Int) < y.length; omega)]; rfl
theorem kp6 (h : x.length + y.length ≤ 5000) : (kp [(x ++ y, x)] [(nA, 0)] [(nA, 0)] false 5).make nB = (kp [(x ++ y, x), ([], [])] [(nA, 0), (nB, 1)] [(nA, 0)] false 6, 0) := by
  have e : (kp [(x ++ y, x)] [(nA, 0)] [(nA, 0)] false 5).known nB = 3 := rfl
  rw [AS.make, if_neg (by rw [e]; decide), if_pos e, if_neg (by show ¬ (100000 : Int) - ((16 + (x ++ y).length + 0 : Nat) : Int) < 16; rw [List.length_append]; omega)]
  have : dset nB 1 [(nA, 0)] = [(nA, 0), (nB, 1)] := by decide +kernel
  show (kp ([(x ++ y, x)] ++ [([], [])]) (dset nB 1 [(nA, 0)]) [(nA, 0)] false 6, (0 : Int)) = _
  rw [this]; rfl
theorem kp7 : (kp [(x ++ y, x), ([], [])] [(nA, 0), (nB, 1)] [(nA, 0)] false 6).sync nB = (kp [(x ++ y, x), ([], [])] [(nA, 0), (nB, 1)] [(nA, 0)] false 7, 0) := by
  have e : (kp [(x ++ y, x), ([], [])] [(nA, 0), (nB, 1)] [(nA, 0)] false 6).known nB = 0 := by
    show (if goodB nB = false then (2 : Int) else if dget [(nA, 0), (nB, 1)] nB = none then 3 else 0) = 0
    have h1 : goodB nB = true := by decide +kernel
    have h2 : dget [(nA, 0), (nB, 1)] nB = some 1 := by decide +kernel
    rw [h1, h2]; rfl
  rw [AS.sync, if_pos e]
  have h2 : (dget [(nA, 0), (nB, 1)] nB).getD 0 = 1 := by decide +kernel
  show (kp ([(x ++ y, x), ([], [])].modify ((dget [(nA, 0), (nB, 1)] nB).getD 0) fun f => (f.1, f.1)) [(nA, 0), (nB, 1)] [(nA, 0)] false 7, (0 : Int)) = _
  rw [h2]; rfl
theorem take_keep (k : Nat) : (x ++ y).take (x.length + min k ((x ++ y).length - x.length)) = x ++ y.take (min k y.length) := by
  rw [List.take_append, List.length_append, List.take_of_length_le (by omega)]
  congr 2
  omega
theorem kp8 (keep : Int) : ((kp [(x ++ y, x), ([], [])] [(nA, 0), (nB, 1)] [(nA, 0)] false 7).fail keep).power = kp [(x ++ y.take (min keep.toNat y.length), x ++ y.take (min keep.toNat y.length)), ([], [])] [(nA, 0)] [(nA, 0)] false 7 := by
  have h : failF keep (x ++ y, x) = (x ++ y.take (min keep.toNat y.length), x ++ y.take (min keep.toNat y.length)) := by
    rw [failF, if_pos ⟨by simp, by simp⟩]
    simp only [take_keep]
  show kp [failF keep (x ++ y, x), failF keep ([], [])] _ _ _ _ = _
  rw [h]
  have h0 : failF keep ([], []) = ([], []) := by simp [failF]
  rw [h0]; rfl
theorem kp9 (z : Bs) : (kp [(z, z), ([], [])] [(nA, 0)] [(nA, 0)] false 7).read nA = (z, 0) := rfl
theorem kp10 (z : Bs) : (kp [(z, z), ([], [])] [(nA, 0)] [(nA, 0)] false 7).names = [nA] := rfl
end

/-! ### The walk -/
theorem boxS (w : World) (n : ByteArray) (K : World → Prop) (hK : ∀ w', Strs w' (some ⟨w.heap.size, 0, none⟩) 1 1 [n] → Mod no w w' → K w') : atW (w.alloc (.cells #[.string n] 9)) K := by
  intro w' e
  have m : Mod no w w' := by subst e; exact Mod.alloc _ _
  have b : w'.heap[w.heap.size]? = some (.cells #[.string n] 9 (0, 0)) := by subst e; exact new_at _ _
  exact hK w' (Els.lit (fun _ => rfl) b [n] rfl (by show 1 ≤ maxLen; decide)) m

theorem Strs.no {w w' : World} {a : Option Addr} {l c : Nat} {xs : List ByteArray} (h : Strs w a l c xs) (hm : Mod no w w') : Strs w' a l c xs := row_mod h hm fun _ _ => id

/-- append(append([]byte{}, first...), more[:n]...). -/
theorem glue {w37 : World} {fa ma : Option Addr} {fl fc ml mc n : Nat} {x y : Bs} (hx : Rd w37 fa fl fc x) (hy : Rd w37 ma ml mc y) (hn : n ≤ ml) (hl : fl + ml ≤ 1099511627776) (K : Option Addr → Nat → Nat → World → Prop)
    (hK : ∀ w45 p l c, Rd w45 p l c (x ++ y.take n) → Mod no w37 w45 → K p l c w45) :
    atW (w37.alloc (.cells #[] 5)) fun w38 => ∃ v39 w40, (Builtin.append_ #[24, 24] 24 #[.slice (some ⟨w37.heap.size, 0, none⟩) 0 0, .slice fa fl fc]).run Try.prog w38 = .ok v39 w40 ∧ ∃ p41 n42 n43, v39 = .slice p41 n42 n43 ∧
      ∃ v44 w45, (Builtin.append_ #[24, 24] 24 #[.slice p41 n42 n43, .slice (if mc = 0 then ma else Option.map (fun x => Addr.add x 0) ma) n mc]).run Try.prog w40 = .ok v44 w45 ∧ ∃ p46 n47 n48, v44 = .slice p46 n47 n48 ∧ K p46 n47 n48 w45 := by
  intro w38 e38
  have m38 : Mod no w37 w38 := by subst e38; exact Mod.alloc _ _
  have b38 : w38.heap[w37.heap.size]? = some (.cells #[] 5 (0, 0)) := by subst e38; exact new_at _ _
  clear e38
  have r0 : Els u8v 5 w38 (some ⟨w37.heap.size, 0, none⟩) 0 0 [] := Els.lit u8one b38 [] rfl (Nat.zero_le _)
  have hx1 := hx.no m38
  have hxl := hx.len
  have hyl := hy.len
  obtain ⟨a', c', w40, hrun, h2, h3, h4⟩ := r0.push (P := Try.prog) (ty := 24) u8one bytesLaid (ys := x) (m := fl) (cc := fc) hx1.len hx1.all hx1.nil (by omega)
  have m40 : Mod no w37 w40 := m38.new h3 fun k hk => by simp [rowB] at hk; omega
  refine ⟨_, w40, hrun, _, _, _, rfl, ?_⟩
  rw [sub0]
  have hy1 := (hy.no m40).take hn
  obtain ⟨a2, c2, w45, hrun2, g2, g3, g4⟩ := h2.push (P := Try.prog) (ty := 24) u8one bytesLaid (ys := y.take n) (m := n) (cc := mc) hy1.len hy1.all hy1.nil (by omega)
  refine ⟨_, w45, hrun2, _, _, _, rfl, hK w45 _ _ _ (Rd.of_els g2) (m40.new g3 fun k hk => ?_)⟩
  rcases h4 k hk with h | h
  · simp [rowB] at h; omega
  · exact Nat.le_trans m38.size h

theorem keeps_end {w w50 : World} {s : Nat} {F : Nat → Prop} {a : AS} (hs : SB w w50 s F a) (hn : a.names = [nA]) (R : Value → World → Prop) (hR : ∀ w', Mod no w w' → R (.bool true) w') :
    (Ca Try.prog 23 #[.pointer (some ⟨s, 0, none⟩)] w50 fun v52 w53 => ∃ p54 n55 n56, v52 = .slice p54 n55 n56 ∧ atW (w53.alloc (.cells #[.string nA] 9)) fun w57 =>
      Ca Try.prog 22 #[.slice p54 n55 n56, .slice (some ⟨w53.heap.size, 0, none⟩) 1 1] w57 fun v58 w59 => ∃ b60, v58 = .bool b60 ∧ ifK b60 (Ca Try.prog 12 #[] w59 fun v61 w62 => ∃ b63, v61 = .bool b63 ∧ R (.bool b63) w62) (R (.bool false) w59)) ∧
    atW (w50.alloc (.cells #[.string nA] 9)) fun w64 => Ca Try.prog 23 #[.pointer (some ⟨s, 0, none⟩)] w64 fun v65 w66 => ∃ p67 n68 n69, v65 = .slice p67 n68 n69 ∧
      Ca Try.prog 22 #[.slice p67 n68 n69, .slice (some ⟨w50.heap.size, 0, none⟩) 1 1] w66 fun v70 w71 => ∃ b72, v70 = .bool b72 ∧ ifK b72 (Ca Try.prog 12 #[] w71 fun v73 w74 => ∃ b75, v73 = .bool b75 ∧ R (.bool b75) w74) (R (.bool false) w71) := by
  have fin : ∀ w59, Mod no w w59 → ∃ b60, Value.bool (decide (([nA] : List ByteArray) = [nA])) = .bool b60 ∧ ifK b60 (Ca Try.prog 12 #[] w59 fun v61 w62 => ∃ b63, v61 = .bool b63 ∧ R (.bool b63) w62) (R (.bool false) w59) := by
    intro w59 m59
    refine ⟨_, rfl, ?_⟩
    rw [decide_eq_true rfl]
    refine (ifK_of (fun _ => ?_) (fun h => by cases h) : ifK true _ _)
    exact lives_ok w59 _ fun w62 m62 => ⟨_, rfl, hR w62 (m59.trans m62)⟩
  constructor
  · refine names_ok hs.st _ fun w53 p l c hp m53 _ => ⟨p, l, c, rfl, ?_⟩
    rw [hn] at hp
    refine boxS w53 nA _ fun w57 hb m57 => ?_
    have hl := hp.len.1
    simp only [List.length_singleton] at hl
    exact texts_ok (hp.no m57) hb (by omega) _ fun w59 m59 => fin w59 (((hs.mod.trans m53).trans m57).trans m59)
  · refine boxS w50 nA _ fun w64 hb m64 => ?_
    refine names_ok (hs.no m64).st _ fun w66 p l c hp m66 _ => ⟨p, l, c, rfl, ?_⟩
    have hn' : a.names = [nA] := hn
    rw [hn'] at hp
    have hl := hp.len.1
    simp only [List.length_singleton] at hl
    exact texts_ok hp (hb.no m66) (by omega) _ fun w59 m59 => fin w59 (((hs.mod.trans m64).trans m66).trans m59)

theorem keeps_walk (fa : Option Addr) (fl fc : Nat) (x : Bs) (ma : Option Addr) (ml mc : Nat) (y : Bs) (keep : Int) (w : World) (hx : RdA w fa fl fc x) (hy : RdA w ma ml mc y) (R : Value → World → Prop) (hR : ∀ w', Mod no w w' → R (.bool true) w') :
    Ca Try.prog 4 #[.slice fa fl fc, .slice ma ml mc, .int .i64 keep] w R := by
  refine ca4 fa fl fc ma ml mc keep w R ?_
  obtain ⟨hx, hxm⟩ := hx
  obtain ⟨hy, hym⟩ := hy
  have hxl := hx.len
  have hyl := hy.len
  have hxc := hx.le
  have hyc := hy.le
  refine ifK_dec (fun _ => lives_ok w _ fun w1 m1 => ⟨_, rfl, hR w1 m1⟩) (fun hle => ?_)
  have hle : x.length + y.length ≤ 5000 := by
    rw [wrap64 (by omega) (by omega)] at hle
    omega
  have hn : nA.size < 4611686018427387904 := by decide
  have hnb : nB.size < 4611686018427387904 := by decide
  have apart : ∀ {w' : World} {s : Nat} {F : Nat → Prop} {a : AS} {p : Option Addr} {l c : Nat} {z : Bs}, SB w w' s F a → Rd w p l c z → 0 < l → ∀ k, rowB p k → ¬ F k := fun hs hz h0 k hk hf => by
    have := hs.lo k hf
    have := hz.lt h0 k hk
    omega
  refine new_ok 100000 w _ (fun h => by rcases h with h | h <;> exact absurd h (by decide)) fun _ _ w1 s h1 m1 => ⟨_, rfl, (ifK_of (fun h => by cases h) (fun _ => ?_) : ifK false _ _)⟩
  obtain ⟨F, h1⟩ := SB.new h1 m1
  refine make_ok h1.st nA hn _ fun w2 hp => ?_
  rw [kp1] at hp ⊢
  obtain ⟨F, h2, _, _⟩ := h1.step hp
  refine ⟨_, rfl, (ifK_of (fun h => by cases h) (fun _ => ?_) : ifK false _ _)⟩
  refine write_ok h2.st nA hn (hx.no h2.mod) (apart h2 hx) _ fun w3 hp => ?_
  rw [kp2 x (by omega)] at hp ⊢
  obtain ⟨F, h3, _, _⟩ := h2.step hp
  refine ⟨_, rfl, (ifK_of (fun h => by cases h) (fun _ => ?_) : ifK false _ _)⟩
  refine sync_ok h3.st nA hn _ fun w4 hp => ?_
  rw [kp3] at hp ⊢
  obtain ⟨F, h4, _, _⟩ := h3.step hp
  refine ⟨_, rfl, (ifK_of (fun h => by cases h) (fun _ => ?_) : ifK false _ _)⟩
  refine commit_ok h4.st _ fun w5 hp => ?_
  rw [kp4] at hp ⊢
  obtain ⟨F, h5, _, _⟩ := h4.step hp
  refine ⟨_, rfl, (ifK_of (fun h => by cases h) (fun _ => ?_) : ifK false _ _)⟩
  refine write_ok h5.st nA hn (hy.no h5.mod) (apart h5 hy) _ fun w6 hp => ?_
  rw [kp5 x y hle] at hp ⊢
  obtain ⟨F, h6, _, _⟩ := h5.step hp
  refine ⟨_, rfl, (ifK_of (fun h => by cases h) (fun _ => ?_) : ifK false _ _)⟩
  refine make_ok h6.st nB hnb _ fun w7 hp => ?_
  rw [kp6 x y hle] at hp ⊢
  obtain ⟨F, h7, _, _⟩ := h6.step hp
  refine ⟨_, rfl, (ifK_of (fun h => by cases h) (fun _ => ?_) : ifK false _ _)⟩
  refine sync_ok h7.st nB hnb _ fun w8 hp => ?_
  rw [kp7] at hp ⊢
  obtain ⟨F, h8, _, _⟩ := h7.step hp
  refine ⟨_, rfl, (ifK_of (fun h => by cases h) (fun _ => ?_) : ifK false _ _)⟩
  refine fail2_ok h8.st keep _ fun w9 hp => ⟨rfl, ?_⟩
  obtain ⟨F, h9, _, _⟩ := h8.step hp
  refine power3_ok h9.st _ fun w10 hp => ⟨rfl, ?_⟩
  rw [kp8] at hp
  obtain ⟨F, h10, _, _⟩ := h9.step hp
  refine read_ok h10.st nA hn _ fun w11 p l c hr m11 _ => ?_
  rw [kp9] at hr ⊢
  have h11 := h10.no m11
  refine ⟨p, l, c, 0, rfl, ?_⟩
  have rest : ∀ (n : Nat), n ≤ ml → n = min keep.toNat y.length → ∀ w50 w45 : World, Mod no w11 w45 → Mod no w45 w50 →
      ∃ b51, Value.bool (decide (x ++ y.take (min keep.toNat y.length) = x ++ y.take n)) = .bool b51 ∧ (b51 = true ∧ SB w w50 s F (kp [(x ++ y.take (min keep.toNat y.length), x ++ y.take (min keep.toNat y.length)), ([], [])] [(nA, 0)] [(nA, 0)] false 7)) := by
    intro n _ hn w50 w45 m45 m50
    exact ⟨_, rfl, by rw [hn]; simp, (h11.no m45).no m50⟩
  have hx11 := hx.no h11.mod
  have hy11 := hy.no h11.mod
  refine ifK_dec (fun hneg => ?_) (fun hneg => ifK_dec (fun hbig => ?_) (fun hbig => ?_))
  · intro w37 e37
    have m37 : Mod no w11 w37 := by subst e37; exact Mod.drew _
    clear e37
    refine (ifK_of (fun _ => ?_) (fun h => by cases h) : ifK true _ _)
    refine ⟨by decide, by decide, by omega, ?_⟩
    refine glue (n := 0) (hx11.no m37) (hy11.no m37) (Nat.zero_le _) (by omega) _ fun w45 q l' c' hq m45 => ?_
    refine same_ok ((Rd.of_els hr).no (m37.trans m45)) hq _ ?_
    obtain ⟨b, hb, hbt, h50⟩ := rest 0 (by omega) (by omega) w45 w45 (m37.trans m45) (Mod.refl _ _)
    refine ⟨b, hb, ?_⟩
    subst hbt
    refine (ifK_of (fun _ => ?_) (fun h => by cases h) : ifK true _ _)
    exact keeps_end h50 (kp10 _) R hR
  · intro w37 e37
    have m37 : Mod no w11 w37 := by subst e37; exact Mod.drew _
    clear e37
    refine (ifK_of (fun _ => ?_) (fun h => by cases h) : ifK true _ _)
    refine ⟨by decide, by omega, by omega, ?_⟩
    rw [Int.toNat_natCast]
    refine glue (n := ml) (hx11.no m37) (hy11.no m37) (Nat.le_refl _) (by omega) _ fun w45 q l' c' hq m45 => ?_
    refine same_ok ((Rd.of_els hr).no (m37.trans m45)) hq _ ?_
    obtain ⟨b, hb, hbt, h50⟩ := rest ml (by omega) (by omega) w45 w45 (m37.trans m45) (Mod.refl _ _)
    refine ⟨b, hb, ?_⟩
    subst hbt
    refine (ifK_of (fun _ => ?_) (fun h => by cases h) : ifK true _ _)
    exact keeps_end h50 (kp10 _) R hR
  · intro w37 e37
    have m37 : Mod no w11 w37 := by subst e37; exact Mod.drew _
    clear e37
    refine (ifK_of (fun _ => ?_) (fun h => by cases h) : ifK true _ _)
    refine ⟨by decide, by omega, by omega, ?_⟩
    refine glue (n := keep.toNat) (hx11.no m37) (hy11.no m37) (by omega) (by omega) _ fun w45 q l' c' hq m45 => ?_
    refine same_ok ((Rd.of_els hr).no (m37.trans m45)) hq _ ?_
    obtain ⟨b, hb, hbt, h50⟩ := rest keep.toNat (by omega) (by omega) w45 w45 (m37.trans m45) (Mod.refl _ _)
    refine ⟨b, hb, ?_⟩
    subst hbt
    refine (ifK_of (fun _ => ?_) (fun h => by cases h) : ifK true _ _)
    exact keeps_end h50 (kp10 _) R hR
end Go.Proofs.Ytemklabamlifdaa
