/- Parts of the proof of StoreActs. -/
import Derived.Test.YtemklabamlifdaaCore9
import Derived.Test.YtemklabamlifdaaProg
import Derived.Test.YtemklabamlifdaaU2
/- The library's general sort, at one type: what its parts do. -/
namespace Go.Proofs.Ytemklabamlifdaa.Sortstring
open Go Go.Proofs.Ytemklabamlifdaa Go.Proofs.Ytemklabamlifdaa.St

theorem piv_eqs (a b l : Nat) (hab : a ≤ b) (hb : b ≤ l) (hl : l < 4611686018427387904) :
    IntKind.i64.wrap ((b : Int) - a) = ((b - a : Nat) : Int) ∧ Int.tdiv ((b - a : Nat) : Int) 4 = (((b - a) / 4 : Nat) : Int) ∧
    IntKind.i64.wrap ((a : Int) + IntKind.i64.wrap (IntKind.i64.wrap (((b - a) / 4 : Nat) : Int) * 1)) = ((a + (b - a) / 4 : Nat) : Int) ∧
    IntKind.i64.wrap ((a : Int) + IntKind.i64.wrap (IntKind.i64.wrap (((b - a) / 4 : Nat) : Int) * 2)) = ((a + (b - a) / 4 * 2 : Nat) : Int) ∧
    IntKind.i64.wrap ((a : Int) + IntKind.i64.wrap (IntKind.i64.wrap (((b - a) / 4 : Nat) : Int) * 3)) = ((a + (b - a) / 4 * 3 : Nat) : Int) :=
  ⟨(by first | (simp only [IntKind.wrap_i64]; omega) | omega), by rw [show (4 : Int) = ((4 : Nat) : Int) from rfl, ← Int.ofNat_tdiv], (by first | (simp only [IntKind.wrap_i64]; omega) | omega), (by first | (simp only [IntKind.wrap_i64]; omega) | omega), (by first | (simp only [IntKind.wrap_i64]; omega) | omega)⟩

section
variable (e : TypeId) (d : Option Addr) (l c : Nat) (xs : List ByteArray) (w : World) (hd : Els Value.string e w d l c xs) (hl : l < 4611686018427387904)
include hd hl

/-! ### The pivot -/
omit hl in
theorem order2_ok (s : Nat) (t : TypeId) (n : Int) (hs : w.heap[s]? = some (.cells #[.int .i64 n] t (0, 0))) (x y : Nat) (hx : x < l) (hy : y < l) (R : Value → World → Prop)
    (h : ∀ w' (n' : Int) (x' y' : Nat), (x' = x ∧ y' = y ∨ x' = y ∧ y' = x) → w'.heap[s]? = some (.cells #[.int .i64 n'] t (0, 0)) → Mod (on s) w w' → R (.tuple #[.int .i64 x', .int .i64 y']) w') :
    Ca Try.prog 99 #[.slice d l c, .int .i64 x, .int .i64 y, .pointer (some ⟨s, 0, none⟩)] w R := by
  refine ca99 d l c x y (some ⟨s, 0, none⟩) w R ?_
  intro w0 e0
  have m0 : Mod no w w0 := by subst e0; exact Mod.drew _
  clear e0
  have hs0 := m0.at' hs
  refine lss (hd.no m0) y x rfl rfl hy hx (fun _ => ?_) (fun _ => ?_)
  · refine ⟨n, by rw [cl hs0]; rfl, ⟨_, by rw [cl1 hs0]; rfl⟩, fz1 hs0 _, ?_⟩
    intro w1 e1
    have hs1 : w1.heap[s]? = some (.cells #[.int .i64 (IntKind.i64.wrap (n + 1))] t (0, 0)) := by subst e1; exact set1 hs0 _ _
    have m1 : Mod (on s) w0 w1 := by subst e1; exact Mod.set1 _ _ _ _
    exact h w1 _ y x (.inr ⟨rfl, rfl⟩) hs1 (m0.no_trans m1)
  · exact h w0 n x y (.inl ⟨rfl, rfl⟩) hs0 m0.of_no

omit hl in
theorem median_ok (s : Nat) (t : TypeId) (n : Int) (hs : w.heap[s]? = some (.cells #[.int .i64 n] t (0, 0))) (hne : ¬ rowB d s) (x y z : Nat) (hx : x < l) (hy : y < l) (hz : z < l) (R : Value → World → Prop)
    (h : ∀ w' (n' : Int) (m : Nat), (m = x ∨ m = y ∨ m = z) → w'.heap[s]? = some (.cells #[.int .i64 n'] t (0, 0)) → Mod (on s) w w' → R (.int .i64 m) w') :
    Ca Try.prog 97 #[.slice d l c, .int .i64 x, .int .i64 y, .int .i64 z, .pointer (some ⟨s, 0, none⟩)] w R := by
  refine ca97 d l c x y z (some ⟨s, 0, none⟩) w R ?_
  have keep : ∀ {w'}, Mod (on s) w w' → Els Value.string e w' d l c xs := fun hm => hd.mod hm fun k hk he => hne (by cases he; exact hk)
  refine order2_ok e d l c xs w hd s t n hs x y hx hy _ fun w1 n1 x1 y1 h1 hs1 m1 => ⟨_, _, rfl, ?_⟩
  refine order2_ok e d l c xs w1 (keep m1) s t n1 hs1 y1 z (by omega) hz _ fun w2 n2 y2 z2 h2 hs2 m2 => ⟨_, _, rfl, ?_⟩
  refine order2_ok e d l c xs w2 (keep (m1.trans m2)) s t n2 hs2 x1 y2 (by omega) (by omega) _ fun w3 n3 x3 y3 h3 hs3 m3 => ⟨_, _, rfl, ?_⟩
  exact h w3 n3 y3 (by omega) hs3 ((m1.trans m2).trans m3)

theorem medianAdj_ok (s : Nat) (t : TypeId) (n : Int) (hs : w.heap[s]? = some (.cells #[.int .i64 n] t (0, 0))) (hne : ¬ rowB d s) (x : Nat) (hx : 0 < x) (hx1 : x + 1 < l) (R : Value → World → Prop)
    (h : ∀ w' (n' : Int) (m : Nat), (x ≤ m + 1 ∧ m ≤ x + 1) → w'.heap[s]? = some (.cells #[.int .i64 n'] t (0, 0)) → Mod (on s) w w' → R (.int .i64 m) w') :
    Ca Try.prog 96 #[.slice d l c, .int .i64 x, .pointer (some ⟨s, 0, none⟩)] w R := by
  refine ca96 d l c x (some ⟨s, 0, none⟩) w R ?_
  have e1 : IntKind.i64.wrap ((x : Int) - 1) = ((x - 1 : Nat) : Int) := (by first | (simp only [IntKind.wrap_i64]; omega) | omega)
  have e2 : IntKind.i64.wrap ((x : Int) + 1) = ((x + 1 : Nat) : Int) := (by first | (simp only [IntKind.wrap_i64]; omega) | omega)
  rw [W96, e1, e2]
  exact median_ok e d l c xs w hd s t n hs hne (x - 1) x (x + 1) (by omega) (by omega) hx1 _ fun w1 n1 m h1 hs1 m1 => ⟨_, rfl, h w1 n1 m (by rcases h1 with rfl | rfl | rfl <;> omega) hs1 m1⟩

theorem choosePivot_ok (a b : Nat) (hab : a + 8 ≤ b) (hb : b ≤ l) (R : Value → World → Prop)
    (h : ∀ w' (p : Nat) (hint : Int), a ≤ p → p < b → Mod no w w' → R (.tuple #[.int .i64 p, .int .i64 hint]) w') :
    Ca Try.prog 85 #[.slice d l c, .int .i64 a, .int .i64 b] w R := by
  refine ca85 d l c a b w R ?_
  obtain ⟨elen, e4, ei, ej, ek⟩ := piv_eqs a b l (by omega) hb hl
  rw [W85]
  simp only [elen, e4, ei, ej, ek]
  clear elen e4 ei ej ek
  intro w0 e0
  have m0 : Mod no w w0 := by subst e0; exact Mod.alloc _ _
  have hs0 : w0.heap[w.heap.size]? = some (.cells #[.int .i64 0] 3 (0, 0)) := by subst e0; exact new_at _ _
  clear e0
  have hne : ¬ rowB d w.heap.size := by
    intro hk
    obtain ⟨g, rfl, hc⟩ := hd.get (i := 0) (by have := hd.len; omega)
    have : g = w.heap.size := by simpa [rowB] using hk
    subst this
    have := hd.at (i := 0) (by have := hd.len; omega)
    obtain ⟨g', hg', hc'⟩ := this
    injection hg' with hg'; injection hg' with hg'; subst hg'
    rw [World.cell?, Array.getElem?_eq_none (by simp [Addr.add])] at hc'
    cases hc'
  have hd0 := hd.no m0
  have keep : ∀ {w'}, Mod (on w.heap.size) w0 w' → Els Value.string e w' d l c xs := fun hm => hd0.mod hm fun k hk he => hne (by cases he; exact hk)
  refine ⟨by decide, by decide, by decide, fun x w' => ∃ (m : Nat) (n : Int), x = m ∧ a ≤ m ∧ m < b ∧ w'.heap[w.heap.size]? = some (.cells #[.int .i64 n] 3 (0, 0)) ∧ Mod (on w.heap.size) w0 w', ?_, ?_⟩
  · refine ifK_dec (fun _ => ifK_dec (fun h50 => ?_) (fun _ => ?_)) (fun hn => ?_)
    · refine medianAdj_ok e d l c xs w0 hd0 hl _ 3 0 hs0 hne _ (by omega) (by omega) _ fun w1 n1 x1 h1 hs1 m1 => ⟨_, rfl, ?_⟩
      refine medianAdj_ok e d l c xs w1 (keep m1) hl _ 3 n1 hs1 hne _ (by omega) (by omega) _ fun w2 n2 x2 h2 hs2 m2 => ⟨_, rfl, ?_⟩
      refine medianAdj_ok e d l c xs w2 (keep (m1.trans m2)) hl _ 3 n2 hs2 hne _ (by omega) (by omega) _ fun w3 n3 x3 h3 hs3 m3 => ⟨_, rfl, ?_⟩
      refine median_ok e d l c xs w3 (keep ((m1.trans m2).trans m3)) _ 3 n3 hs3 hne _ _ _ (by omega) (by omega) (by omega) _ fun w4 n4 x4 h4 hs4 m4 => ⟨_, rfl, ?_⟩
      have hx : a ≤ x4 ∧ x4 < b := by
        clear hs1 hs2 hs3 hs4 m1 m2 m3 m4 h
        rcases h4 with rfl | rfl | rfl <;> omega
      exact ⟨x4, n4, rfl, hx.1, hx.2, hs4, ((m1.trans m2).trans m3).trans m4⟩
    · refine median_ok e d l c xs w0 hd0 _ 3 0 hs0 hne _ _ _ (by omega) (by omega) (by omega) _ fun w4 n4 x4 h4 hs4 m4 => ⟨_, rfl, ?_⟩
      have hx : a ≤ x4 ∧ x4 < b := by rcases h4 with rfl | rfl | rfl <;> omega
      exact ⟨x4, n4, rfl, hx.1, hx.2, hs4, m4⟩
    · exact absurd hn (by omega)
  · rintro _ _ w1 ⟨m, n, rfl, h1, h2, hs1, m1⟩
    have m01 : Mod no w w1 := m0.new m1 fun k hk => by cases hk; exact Nat.le_refl _
    refine ⟨n, by rw [cl hs1]; rfl, ifK_of (fun _ => ?_) (fun _ => ifK_of (fun _ => ?_) (fun _ => ?_))⟩
    all_goals exact h w1 m _ h1 h2 m01

/-! ### Reversing, scattering -/
theorem reverse_ok (a b : Nat) (hab : a < b) (hb : b ≤ l) (R : Value → World → Prop)
    (h : ∀ w' ys, Els Value.string e w' d l c ys → Seg a b xs ys → Mod (rowB d) w w' → R (.tuple #[]) w') :
    Ca Try.prog 86 #[.slice d l c, .int .i64 a, .int .i64 b] w R := by
  refine ca86 d l c a b w R ?_
  refine ⟨fun x y w' => ∃ (i j : Nat) (ys : List ByteArray), x = i ∧ y = j ∧ a ≤ i ∧ i ≤ b ∧ j < b ∧ Els Value.string e w' d l c ys ∧ Seg a b xs ys ∧ Mod (rowB d) w w', fun x y _ => (y - x).toNat,
    ⟨a, b - 1, xs, rfl, (by first | (simp only [IntKind.wrap_i64]; omega) | omega), Nat.le_refl _, by omega, by omega, hd, Seg.refl _ _ _, Mod.refl _ _⟩, ?_⟩
  rintro _ _ _ w1 ⟨i, j, ys, rfl, rfl, hi, hib, hj, hys, hsg, hm⟩
  have hyl := hys.len.1
  refine ifK_dec (fun hij => ?_) (fun _ => h w1 ys hys hsg hm)
  intro w2 e2
  have m2 : Mod no w1 w2 := by subst e2; exact Mod.drew _
  clear e2
  refine (hys.no m2).swp i j rfl rfl (by omega) (by omega) fun w3 h3 m3 => ?_
  exact ⟨⟨i + 1, j - 1, _, (by first | (simp only [IntKind.wrap_i64]; omega) | omega), (by first | (simp only [IntKind.wrap_i64]; omega) | omega), by omega, by omega, by omega, h3, hsg.trans (Seg.swap (by omega) (by omega) (by omega) (by omega) (by omega) (by omega)), (hm.trans_no m2).trans m3⟩, (by first | (simp only [IntKind.wrap_i64]; omega) | omega)⟩

/-! ### Parting -/
omit hd in
/-- As long as the left one is less. -/
theorem part_up (a b : Nat) (hb : b ≤ l) : ∀ (ys : List ByteArray) (w' : World) (i j : Nat) (J : Int) (Q : Int → World → Prop), J = j → Els Value.string e w' d l c ys → Pt ys a b i j →
    (∀ (i' : Nat) w'', Els Value.string e w'' d l c ys → Pt ys a b i' j → (i' ≤ j → at0 ys a ≤ at0 ys i') → i ≤ i' → Mod no w' w'' → Q i' w'') →
    (∃ (z : Int → World → Prop) (m : Int → World → Nat), z i w' ∧ ∀ (_ : Nat → Value) (x : Int) (w1 : World), z x w1 → atW w1.drew fun w2 => ifK (decide (x ≤ J))
      (∃ ad : Addr, d = some ad ∧ (0 : Int) ≤ x ∧ x < (↑l : Int) ∧ ∃ y : ByteArray, w2.cell? (Addr.add ad (Int.toNat x * 1)) = some (Value.string y) ∧
        ∃ ad : Addr, d = some ad ∧ (0 : Int) ≤ (a : Int) ∧ (a : Int) < (↑l : Int) ∧ ∃ y' : ByteArray, w2.cell? (Addr.add ad (Int.toNat (a : Int) * 1)) = some (Value.string y') ∧
        Ca Try.prog 88 (Array.mk [Value.string y, Value.string y']) w2 (fun v w' => ∃ b : Bool, v = Value.bool b ∧ ifK b (z (IntKind.wrap .i64 (x + 1)) w' ∧ m (IntKind.wrap .i64 (x + 1)) w' < m x w1) (Q x w')))
      (Q x w2)) := by
  intro ys w' i j J Q hJ hys hpt hQ
  refine ⟨fun x w'' => ∃ i' : Nat, x = i' ∧ Els Value.string e w'' d l c ys ∧ Pt ys a b i' j ∧ i ≤ i' ∧ Mod no w' w'', fun x _ => ((j : Int) + 1 - x).toNat, ⟨i, rfl, hys, hpt, Nat.le_refl _, Mod.refl _ _⟩, ?_⟩
  rintro _ _ w1 ⟨i', rfl, hy1, hp1, hi1, m1⟩ w2 e2
  have m2 : Mod no w1 w2 := by subst e2; exact Mod.drew _
  clear e2
  have hjb := hp1.jb
  have hai := hp1.ai
  refine ifK_dec (fun hle => ?_) (fun hgt => hQ i' w2 (hy1.no m2) hp1 (fun h => by omega) hi1 (m1.trans m2))
  refine lss (hy1.no m2) i' a rfl rfl (by omega) (by omega) (fun hlt => ?_) (fun hge => hQ i' w2 (hy1.no m2) hp1 (fun _ => Lin.nlt hge) hi1 (m1.trans m2))
  exact ⟨⟨i' + 1, (by first | (simp only [IntKind.wrap_i64]; omega) | omega), hy1.no m2, hp1.up (by omega) (Lin.lle hlt), by omega, m1.trans m2⟩, (by first | (simp only [IntKind.wrap_i64]; omega) | omega)⟩
omit hd in
/-- As long as the right one is not less. -/
theorem part_down (a b : Nat) (hb : b ≤ l) : ∀ (ys : List ByteArray) (w' : World) (i j : Nat) (I : Int) (Q : Int → World → Prop), I = i → Els Value.string e w' d l c ys → Pt ys a b i j → (i ≤ j → at0 ys a ≤ at0 ys i) →
    (∀ (j' : Nat) w'', Els Value.string e w'' d l c ys → Pt ys a b i j' → (i ≤ j' → at0 ys a ≤ at0 ys i ∧ at0 ys j' < at0 ys a) → j' ≤ j → Mod no w' w'' → Q j' w'') →
    (∃ (z : Int → World → Prop) (m : Int → World → Nat), z j w' ∧ ∀ (_ : Nat → Value) (x : Int) (w1 : World), z x w1 → atW w1.drew fun w2 => ifK (decide (I ≤ x))
      (∃ ad : Addr, d = some ad ∧ (0 : Int) ≤ x ∧ x < (↑l : Int) ∧ ∃ y : ByteArray, w2.cell? (Addr.add ad (Int.toNat x * 1)) = some (Value.string y) ∧
        ∃ ad : Addr, d = some ad ∧ (0 : Int) ≤ (a : Int) ∧ (a : Int) < (↑l : Int) ∧ ∃ y' : ByteArray, w2.cell? (Addr.add ad (Int.toNat (a : Int) * 1)) = some (Value.string y') ∧
        Ca Try.prog 88 (Array.mk [Value.string y, Value.string y']) w2 (fun v w' => ∃ b : Bool, v = Value.bool b ∧ ifK (!b) (z (IntKind.wrap .i64 (x - 1)) w' ∧ m (IntKind.wrap .i64 (x - 1)) w' < m x w1) (Q x w')))
      (Q x w2)) := by
  intro ys w' i j I Q hI hys hpt hi0 hQ
  refine ⟨fun x w'' => ∃ j' : Nat, x = j' ∧ Els Value.string e w'' d l c ys ∧ Pt ys a b i j' ∧ j' ≤ j ∧ Mod no w' w'', fun x _ => (x + 1 - (i : Int)).toNat, ⟨j, rfl, hys, hpt, Nat.le_refl _, Mod.refl _ _⟩, ?_⟩
  rintro _ _ w1 ⟨j', rfl, hy1, hp1, hj1, m1⟩ w2 e2
  have m2 : Mod no w1 w2 := by subst e2; exact Mod.drew _
  clear e2
  have hjb := hp1.jb
  have hai := hp1.ai
  refine ifK_dec (fun hle => ?_) (fun hgt => hQ j' w2 (hy1.no m2) hp1 (fun h => by omega) hj1 (m1.trans m2))
  refine nls (hy1.no m2) j' a rfl rfl (by omega) (by omega) (fun hge => ?_) (fun hlt => hQ j' w2 (hy1.no m2) hp1 (fun _ => ⟨hi0 (by omega), hlt⟩) hj1 (m1.trans m2))
  exact ⟨⟨j' - 1, (by first | (simp only [IntKind.wrap_i64]; omega) | omega), hy1.no m2, hp1.down (by omega) (Lin.nlt hge), by omega, m1.trans m2⟩, (by first | (simp only [IntKind.wrap_i64]; omega) | omega)⟩
theorem partition_ok (a b p : Nat) (hap : a ≤ p) (hpb : p < b) (hb : b ≤ l) (R : Value → World → Prop)
    (h : ∀ w' ys (m : Nat) (q : Bool), Els Value.string e w' d l c ys → Seg a b xs ys → Parted ys a m b → Mod (rowB d) w w' → R (.tuple #[.int .i64 m, .bool q]) w') :
    Ca Try.prog 90 #[.slice d l c, .int .i64 a, .int .i64 b, .int .i64 p] w R := by
  have hxl := hd.len.1
  refine ca90 d l c a b p w R ?_
  have ea : IntKind.i64.wrap ((a : Int) + 1) = ((a + 1 : Nat) : Int) := (by first | (simp only [IntKind.wrap_i64]; omega) | omega)
  have eb : IntKind.i64.wrap ((b : Int) - 1) = ((b - 1 : Nat) : Int) := (by first | (simp only [IntKind.wrap_i64]; omega) | omega)
  rw [W90, ea, eb]
  clear ea eb
  intro w0 e0
  have m0 : Mod no w w0 := by subst e0; exact Mod.drew _
  clear e0
  refine (hd.no m0).swp a p rfl rfl (by omega) (by omega) fun w1 h1 m1 => ?_
  have m1 := m0.no_trans m1
  have s1 : Seg a b xs (swapL xs a p) := Seg.swap (by omega) (by omega) (by omega) (by omega) hap hpb
  have fin : ∀ (ys : List ByteArray) (w' : World) (i j : Nat) (q : Bool), Els Value.string e w' d l c ys → Seg a b xs ys → Pt ys a b i j → j < i → Mod (rowB d) w w' →
      ∀ w'', Els Value.string e w'' d l c (swapL ys j a) → Mod (rowB d) w' w'' → R (.tuple #[.int .i64 j, .bool q]) w'' := by
    intro ys w' i j q hys hsg hpt hji hm w'' hy'' m''
    have hyl := hys.len.1
    have h1 := hpt.ai
    have h2 := hpt.ij
    have h3 := hpt.jb
    exact h w'' _ j q hy'' (hsg.trans (Seg.swap (by omega) (by omega) (by omega) (by omega) (by omega) (by omega))) (hpt.done (by omega) hji) (hm.trans m'')
  refine ⟨_, part_up e d l c hl a b hb _ w1 (a + 1) (b - 1) _ (fun x w' => ∃ i : Nat, x = i ∧ Els Value.string e w' d l c (swapL xs a p) ∧ Pt (swapL xs a p) a b i (b - 1) ∧ (i ≤ b - 1 → at0 (swapL xs a p) a ≤ at0 (swapL xs a p) i) ∧ Mod (rowB d) w w') rfl h1
    ⟨Nat.le_refl _, by omega, by omega, fun k h1 h2 => by omega, fun k h1 h2 => by omega⟩ (fun i w' h1 h2 h3 _ h4 => ⟨i, rfl, h1, h2, h3, m1.trans_no h4⟩), ?_⟩
  rintro _ _ w2 ⟨i, rfl, h2, hpt, hi, m2⟩
  refine ⟨_, part_down e d l c hl a b hb _ w2 i (b - 1) _ (fun x w' => ∃ j : Nat, x = j ∧ Els Value.string e w' d l c (swapL xs a p) ∧ Pt (swapL xs a p) a b i j ∧ (i ≤ j → at0 (swapL xs a p) a ≤ at0 (swapL xs a p) i ∧ at0 (swapL xs a p) j < at0 (swapL xs a p) a) ∧ Mod (rowB d) w w') rfl h2 hpt hi
    (fun j w' h1 h2 h3 _ h4 => ⟨j, rfl, h1, h2, h3, m2.trans_no h4⟩), ?_⟩
  rintro _ _ w3 ⟨j, rfl, h3, hpt, hij, m3⟩
  have hjb := hpt.jb
  have hai := hpt.ai
  have hil := hpt.ij
  have step : ∀ (ys : List ByteArray) (w' : World) (i j : Nat), Els Value.string e w' d l c ys → Seg a b xs ys → Pt ys a b i j → (i ≤ j → at0 ys a ≤ at0 ys i ∧ at0 ys j < at0 ys a) → i ≤ j → i < j := by
    intro ys w' i j _ _ hpt hij hle
    refine Nat.lt_of_le_of_ne hle fun e => ?_
    subst e
    have := hij hle
    exact absurd this.2 (Lin.nle this.1)
  refine ifK_dec (fun hgt => ?_) (fun hle => ?_)
  · intro w4 e4
    have m4 : Mod no w3 w4 := by subst e4; exact Mod.drew _
    clear e4
    refine (h3.no m4).swp j a rfl rfl (by omega) (by omega) fun w5 h5 m5 => ?_
    exact fin _ w4 i j true (h3.no m4) s1 hpt (by omega) (m3.trans_no m4) w5 h5 m5
  · intro w4 e4
    have m4 : Mod no w3 w4 := by subst e4; exact Mod.drew _
    clear e4
    have hlt := step _ w3 i j h3 s1 hpt hij (by omega)
    obtain ⟨hx, hy⟩ := hij (by omega)
    refine (h3.no m4).swp i j rfl rfl (by omega) (by omega) fun w5 h5 m5 => ?_
    have hl3 := h3.len.1
    refine ⟨fun x y w' => ∃ (i j : Nat) (ys : List ByteArray), x = i ∧ y = j ∧ Els Value.string e w' d l c ys ∧ Seg a b xs ys ∧ Pt ys a b i j ∧ Mod (rowB d) w w', fun x y _ => (y + 1 - x).toNat,
      ⟨i + 1, j - 1, _, (by first | (simp only [IntKind.wrap_i64]; omega) | omega), (by first | (simp only [IntKind.wrap_i64]; omega) | omega), h5, s1.trans (Seg.swap (by omega) (by omega) (by omega) (by omega) (by omega) (by omega)), hpt.swap (by omega) hlt (Lin.lle hy) hx, (m3.trans_no m4).trans m5⟩, ?_⟩
    rintro _ _ _ w6 ⟨i6, j6, ys, rfl, rfl, h6, s6, hpt6, m6⟩
    refine ⟨_, part_up e d l c hl a b hb _ w6 i6 j6 _ (fun x w' => ∃ i : Nat, x = i ∧ Els Value.string e w' d l c ys ∧ Pt ys a b i j6 ∧ (i ≤ j6 → at0 ys a ≤ at0 ys i) ∧ i6 ≤ i ∧ Mod (rowB d) w w') rfl h6 hpt6
      (fun i w' h1 h2 h3 h5 h4 => ⟨i, rfl, h1, h2, h3, h5, m6.trans_no h4⟩), ?_⟩
    rintro _ _ w7 ⟨i7, rfl, h7, hpt7, hi7, hii, m7⟩
    refine ⟨_, part_down e d l c hl a b hb _ w7 i7 j6 _ (fun x w' => ∃ j : Nat, x = j ∧ Els Value.string e w' d l c ys ∧ Pt ys a b i7 j ∧ (i7 ≤ j → at0 ys a ≤ at0 ys i7 ∧ at0 ys j < at0 ys a) ∧ j ≤ j6 ∧ Mod (rowB d) w w') rfl h7 hpt7 hi7
      (fun j w' h1 h2 h3 h5 h4 => ⟨j, rfl, h1, h2, h3, h5, m7.trans_no h4⟩), ?_⟩
    rintro _ _ w8 ⟨j8, rfl, h8, hpt8, hij8, hjj, m8⟩
    have hjb8 := hpt8.jb
    have hai8 := hpt8.ai
    have hil8 := hpt8.ij
    have hl8 := h8.len.1
    refine ifK_dec (fun hgt => ?_) (fun hle => ?_)
    · intro w9 e9
      have m9 : Mod no w8 w9 := by subst e9; exact Mod.drew _
      clear e9
      refine (h8.no m9).swp j8 a rfl rfl (by omega) (by omega) fun w10 h10 m10 => ?_
      exact fin _ w9 i7 j8 false (h8.no m9) s6 hpt8 (by omega) (m8.trans_no m9) w10 h10 m10
    · intro w9 e9
      have m9 : Mod no w8 w9 := by subst e9; exact Mod.drew _
      clear e9
      have hlt8 := step _ w8 i7 j8 h8 s6 hpt8 hij8 (by omega)
      obtain ⟨hx8, hy8⟩ := hij8 (by omega)
      refine (h8.no m9).swp i7 j8 rfl rfl (by omega) (by omega) fun w10 h10 m10 => ?_
      exact ⟨⟨i7 + 1, j8 - 1, _, (by first | (simp only [IntKind.wrap_i64]; omega) | omega), (by first | (simp only [IntKind.wrap_i64]; omega) | omega), h10, s6.trans (Seg.swap (by omega) (by omega) (by omega) (by omega) (by omega) (by omega)), hpt8.swap (by omega) hlt8 (Lin.lle hy8) hx8, (m8.trans_no m9).trans m10⟩, (by first | (simp only [IntKind.wrap_i64]; omega) | omega)⟩
end
end Go.Proofs.Ytemklabamlifdaa.Sortstring

/- The library's general sort, at one type: parting off what is equal, heap sort, scattering, sorting what is nearly sorted. -/
namespace Go.Proofs.Ytemklabamlifdaa.Sortstring
open Go Go.Proofs.Ytemklabamlifdaa Go.Proofs.Ytemklabamlifdaa.St

section
variable (e : TypeId) (d : Option Addr) (l c : Nat) (xs : List ByteArray) (w : World) (hd : Els Value.string e w d l c xs) (hl : l < 4611686018427387904)
include hd hl

theorem partEq_ok (a b p : Nat) (hap : a ≤ p) (hpb : p < b) (hb : b ≤ l) (hmin : ∀ k, a ≤ k → k < b → at0 xs p ≤ at0 xs k) (R : Value → World → Prop)
    (h : ∀ w' ys (m : Nat), Els Value.string e w' d l c ys → Seg a b xs ys → Eqd ys a m b → Mod (rowB d) w w' → R (.int .i64 m) w') :
    Ca Try.prog 89 #[.slice d l c, .int .i64 a, .int .i64 b, .int .i64 p] w R := by
  refine ca89 d l c a b p w R ?_
  have ea : IntKind.i64.wrap ((a : Int) + 1) = ((a + 1 : Nat) : Int) := (by first | (simp only [IntKind.wrap_i64]; omega) | omega)
  have eb : IntKind.i64.wrap ((b : Int) - 1) = ((b - 1 : Nat) : Int) := (by first | (simp only [IntKind.wrap_i64]; omega) | omega)
  rw [W89, ea, eb]
  clear ea eb
  intro w0 e0
  have m0 : Mod no w w0 := by subst e0; exact Mod.drew _
  clear e0
  refine (hd.no m0).swp a p rfl rfl (by omega) (by omega) fun w1 h1 m1 => ?_
  have m1 := m0.no_trans m1
  have s1 : Seg a b xs (swapL xs a p) := hd.seg (by omega) (by omega) (by omega) (by omega) hap hpb
  have p1 : AtE (swapL xs a p) a (at0 xs p) := by
    refine ⟨?_⟩
    rw [at0_swapL (hd.lt (by omega)) (hd.lt (by omega))]
    by_cases e : a = p
    · rw [if_pos e, e]
    · rw [if_neg e, if_pos rfl]
  refine ⟨fun x y w' => ∃ (i j : Nat) (ys : List ByteArray), x = i ∧ y = j ∧ Els Value.string e w' d l c ys ∧ Seg a b xs ys ∧ Pt ys a b i j ∧ AtE ys a (at0 xs p) ∧ Mod (rowB d) w w', fun x y _ => (y + 1 - x).toNat,
    ⟨a + 1, b - 1, _, rfl, rfl, h1, s1, ⟨Nat.le_refl _, by omega, by omega, fun k h1 h2 => by omega, fun k h1 h2 => by omega⟩, p1, m1⟩, ?_⟩
  rintro _ _ _ w2 ⟨i, j, ys, rfl, rfl, h2, s2, hpt, hp2, m2⟩
  refine ⟨fun x w' => ∃ i' : Nat, x = i' ∧ Els Value.string e w' d l c ys ∧ Pt ys a b i' j ∧ i ≤ i' ∧ (i' ≤ j → at0 ys a < at0 ys i') ∧ Mod (rowB d) w w', ⟨fun x w' => ∃ i' : Nat, x = i' ∧ Els Value.string e w' d l c ys ∧ Pt ys a b i' j ∧ i ≤ i' ∧ Mod (rowB d) w w',
    fun x _ => ((j : Int) + 1 - x).toNat, ⟨i, rfl, h2, hpt, Nat.le_refl _, m2⟩, ?_⟩, ?_⟩
  · rintro _ _ w3 ⟨i', rfl, h3, hp3, hi3, m3⟩ w4 e4
    have m4 : Mod no w3 w4 := by subst e4; exact Mod.drew _
    clear e4
    have hjb := hp3.jb
    have hai := hp3.ai
    have m4' := m3.trans_no m4
    refine ifK_dec (fun hle => ?_) (fun hgt => ⟨i', rfl, h3.no m4, hp3, hi3, fun h => by omega, m4'⟩)
    refine nls (h3.no m4) a i' rfl rfl (by omega) (by omega) (fun hge => ?_) (fun hlt => ⟨i', rfl, h3.no m4, hp3, hi3, fun _ => hlt, m4'⟩)
    exact ⟨⟨i' + 1, (by first | (simp only [IntKind.wrap_i64]; omega) | omega), h3.no m4, hp3.up (by omega) (Lin.nlt hge), by omega, m4'⟩, (by first | (simp only [IntKind.wrap_i64]; omega) | omega)⟩
  rintro _ _ w5 ⟨i5, rfl, h5, hp5, hi5, hx5, m5⟩
  refine ⟨fun x w' => ∃ j' : Nat, x = j' ∧ Els Value.string e w' d l c ys ∧ Pt ys a b i5 j' ∧ j' ≤ j ∧ (i5 ≤ j' → at0 ys j' ≤ at0 ys a) ∧ Mod (rowB d) w w', ⟨fun x w' => ∃ j' : Nat, x = j' ∧ Els Value.string e w' d l c ys ∧ Pt ys a b i5 j' ∧ j' ≤ j ∧ Mod (rowB d) w w',
    fun x _ => (x + 1 - (i5 : Int)).toNat, ⟨j, rfl, h5, hp5, Nat.le_refl _, m5⟩, ?_⟩, ?_⟩
  · rintro _ _ w3 ⟨j', rfl, h3, hp3, hi3, m3⟩ w4 e4
    have m4 : Mod no w3 w4 := by subst e4; exact Mod.drew _
    clear e4
    have hjb := hp3.jb
    have hai := hp3.ai
    have m4' := m3.trans_no m4
    refine ifK_dec (fun hle => ?_) (fun hgt => ⟨j', rfl, h3.no m4, hp3, hi3, fun h => by omega, m4'⟩)
    refine lss (h3.no m4) a j' rfl rfl (by omega) (by omega) (fun hlt => ?_) (fun hge => ⟨j', rfl, h3.no m4, hp3, hi3, fun _ => Lin.nlt hge, m4'⟩)
    exact ⟨⟨j' - 1, (by first | (simp only [IntKind.wrap_i64]; omega) | omega), h3.no m4, hp3.down (by omega) (Lin.lle hlt), by omega, m4'⟩, (by first | (simp only [IntKind.wrap_i64]; omega) | omega)⟩
  rintro _ _ w6 ⟨j6, rfl, h6, hp6, hj6, hx6, m6⟩
  have hjb := hp6.jb
  have hai := hp6.ai
  have hil := hp6.ij
  refine ifK_dec (fun hgt => ?_) (fun hle => ?_)
  · refine h w6 ys i5 h6 s2 (hp6.eqd (by omega) fun k h7 h8 => ?_) m6
    rw [hp2.eq]
    exact s2.all (hd.le hb) (P := fun v => at0 xs p ≤ v) hmin k h7 h8
  · intro w7 e7
    have m7 : Mod no w6 w7 := by subst e7; exact Mod.drew _
    clear e7
    have hlt : i5 < j6 := by
      refine Nat.lt_of_le_of_ne (by omega) fun e => ?_
      subst e
      have h7 := hx5 (by omega)
      have h8 := hx6 (by omega)
      exact absurd h7 (Lin.nle h8)
    refine (h6.no m7).swp i5 j6 rfl rfl (by omega) (by omega) fun w8 h8 m8 => ?_
    refine ⟨⟨i5 + 1, j6 - 1, _, (by first | (simp only [IntKind.wrap_i64]; omega) | omega), (by first | (simp only [IntKind.wrap_i64]; omega) | omega), h8, s2.trans (h6.seg (by omega) (by omega) (by omega) (by omega) (by omega) (by omega)), hp6.swap (h6.le hb) hlt (hx6 (by omega)) (Lin.lle (hx5 (by omega))), ?_, (m6.trans_no m7).trans m8⟩, (by first | (simp only [IntKind.wrap_i64]; omega) | omega)⟩
    exact ⟨by rw [at0_swapL (h6.lt (by omega)) (h6.lt (by omega)), if_neg (by omega), if_neg (by omega), hp2.eq]⟩

/-! ### Heap sort -/
theorem siftDown_ok (lo hi f : Nat) (hlo : lo ≤ hi) (hf : f + hi ≤ l) (hh : Hp xs f (lo + 1) hi) (R : Value → World → Prop)
    (h : ∀ w' ys, Els Value.string e w' d l c ys → Seg (f + lo) (f + hi) xs ys → Hp ys f lo hi → Mod (rowB d) w w' → R (.tuple #[]) w') :
    Ca Try.prog 93 #[.slice d l c, .int .i64 lo, .int .i64 hi, .int .i64 f] w R := by
  refine ca93 d l c lo hi f w R ?_
  refine ⟨fun x w' => ∃ (r : Nat) (ys : List ByteArray), x = r ∧ lo ≤ r ∧ (r < hi ∨ r = lo) ∧ Els Value.string e w' d l c ys ∧ Seg (f + lo) (f + hi) xs ys ∧ Sift ys f lo hi r ∧ Mod (rowB d) w w', fun x _ => ((hi : Int) - x).toNat,
    ⟨lo, xs, rfl, Nat.le_refl _, .inr rfl, hd, Seg.refl _ _ _, Sift.start hh, Mod.refl _ _⟩, ?_⟩
  rintro _ _ w1 ⟨r, ys, rfl, hlr, hr, h1, s1, hs1, m1⟩
  refine ifK_of (fun hb => ?_) (fun hb => ?_)
  · have hb : hi ≤ 2 * r + 1 := by
      have := of_decide_eq_true hb
      clear hb
      simp only [IntKind.wrap_i64] at this
      omega
    exact h w1 ys h1 s1 (hs1.done fun k h2 h3 => by omega) m1
  have hb : 2 * r + 1 < hi := by
    have := of_decide_eq_false hb
    clear hb
    simp only [IntKind.wrap_i64] at this
    omega
  refine ⟨fun x w' => ∃ k : Nat, x = k ∧ (k = 2 * r + 1 ∨ k = 2 * r + 2) ∧ k < hi ∧ (∀ q, (q = 2 * r + 1 ∨ q = 2 * r + 2) → q < hi → at0 ys (f + q) ≤ at0 ys (f + k)) ∧ Els Value.string e w' d l c ys ∧ Mod (rowB d) w w', ?_, ?_⟩
  · intro w2 e2
    have m2 : Mod no w1 w2 := by subst e2; exact Mod.drew _
    clear e2
    refine ifK_of (fun hc => ?_) (fun hc => ?_)
    · have hc : 2 * r + 2 < hi := by
        have := of_decide_eq_true hc
        clear hc
        simp only [IntKind.wrap_i64] at this
        omega
      refine lss (h1.no m2) (f + (2 * r + 1)) (f + (2 * r + 2)) (by first | (simp only [IntKind.wrap_i64]; omega) | omega) (by first | (simp only [IntKind.wrap_i64]; omega) | omega) (by omega) (by omega) (fun hlt => ?_) (fun hge => ?_)
      · refine ⟨2 * r + 2, (by first | (simp only [IntKind.wrap_i64]; omega) | omega), .inr rfl, hc, fun q hq hqh => ?_, h1.no m2, m1.trans_no m2⟩
        rcases hq with rfl | rfl
        · exact Lin.lle hlt
        · exact Lin.refl _
      · refine ⟨2 * r + 1, (by first | (simp only [IntKind.wrap_i64]; omega) | omega), .inl rfl, hb, fun q hq hqh => ?_, h1.no m2, m1.trans_no m2⟩
        rcases hq with rfl | rfl
        · exact Lin.refl _
        · exact Lin.nlt hge
    · have hc : hi ≤ 2 * r + 2 := by
        have := of_decide_eq_false hc
        clear hc
        simp only [IntKind.wrap_i64] at this
        omega
      refine ⟨2 * r + 1, (by first | (simp only [IntKind.wrap_i64]; omega) | omega), .inl rfl, hb, fun q hq hqh => ?_, h1.no m2, m1.trans_no m2⟩
      rcases hq with rfl | rfl
      · exact Lin.refl _
      · omega
  rintro _ _ w3 ⟨k, rfl, hk, hkh, hmax, h3, m3⟩ w4 e4
  have m4 : Mod no w3 w4 := by subst e4; exact Mod.drew _
  clear e4
  refine nls (h3.no m4) (f + r) (f + k) (by first | (simp only [IntKind.wrap_i64]; omega) | omega) (by first | (simp only [IntKind.wrap_i64]; omega) | omega) (by omega) (by omega) (fun hge => ?_) (fun hlt => ?_)
  · exact h w4 ys (h3.no m4) s1 (hs1.done fun q hq hqh => Lin.tr (hmax q hq hqh) (Lin.nlt hge)) (m3.trans_no m4)
  · intro w5 e5
    have m5 : Mod no w4 w5 := by subst e5; exact Mod.drew _
    clear e5
    refine ((h3.no m4).no m5).swp (f + r) (f + k) (by first | (simp only [IntKind.wrap_i64]; omega) | omega) (by first | (simp only [IntKind.wrap_i64]; omega) | omega) (by omega) (by omega) fun w6 h6 m6 => ?_
    refine ⟨⟨k, _, rfl, by omega, .inl hkh, h6, s1.trans (h1.seg (by omega) (by omega) (by omega) (by omega) (by omega) (by omega)), hs1.step hlr (h1.le hf) hk hkh hmax hlt, ((m3.trans_no m4).trans_no m5).trans m6⟩, by simp only; omega⟩

theorem heapSort_ok (a b : Nat) (hab : a < b) (hb : b ≤ l) (R : Value → World → Prop)
    (h : ∀ w' ys, Els Value.string e w' d l c ys → Seg a b xs ys → Srt ys a b → Mod (rowB d) w w' → R (.tuple #[]) w') :
    Ca Try.prog 83 #[.slice d l c, .int .i64 a, .int .i64 b] w R := by
  refine ca83 d l c a b w R ?_
  obtain ⟨n, rfl⟩ : ∃ n, b = a + (n + 1) := ⟨b - a - 1, by omega⟩
  have e1 : IntKind.i64.wrap (((a + (n + 1) : Nat) : Int) - a) = ((n + 1 : Nat) : Int) := (by first | (simp only [IntKind.wrap_i64]; omega) | omega)
  have e2 : IntKind.i64.wrap (((n + 1 : Nat) : Int) - 1) = (n : Int) := (by first | (simp only [IntKind.wrap_i64]; omega) | omega)
  have e3 : Int.tdiv (n : Int) 2 = ((n / 2 : Nat) : Int) := by rw [show (2 : Int) = ((2 : Nat) : Int) from rfl, ← Int.ofNat_tdiv]
  have e4 : IntKind.i64.wrap ((n / 2 : Nat) : Int) = ((n / 2 : Nat) : Int) := (by first | (simp only [IntKind.wrap_i64]; omega) | omega)
  rw [W83, e1, e2, e3, e4]
  clear e1 e2 e3 e4
  refine ⟨by decide, ?_⟩
  refine ⟨fun x w' => ∃ (i : Nat) (ys : List ByteArray), x = (i : Int) - 1 ∧ i ≤ n + 1 ∧ Els Value.string e w' d l c ys ∧ Seg a (a + (n + 1)) xs ys ∧ Hp ys a i (n + 1) ∧ Mod (rowB d) w w', fun x _ => (x + 1).toNat,
    ⟨n / 2 + 1, xs, by omega, by omega, hd, Seg.refl _ _ _, fun p k h1 h2 h3 => by omega, Mod.refl _ _⟩, ?_⟩
  rintro _ _ w1 ⟨i, ys, rfl, hi, h1, s1, hp1, m1⟩
  refine ifK_dec (fun hge => ?_) (fun hlt => ?_)
  · obtain ⟨k, rfl⟩ : ∃ k, i = k + 1 := ⟨i - 1, by omega⟩
    rw [show ((k + 1 : Nat) : Int) - 1 = (k : Int) by omega]
    refine siftDown_ok e d l c ys w1 h1 hl k (n + 1) a (by omega) (by omega) hp1 _ fun w2 zs h2 s2 hp2 m2 => ⟨rfl, ⟨k, zs, (by first | (simp only [IntKind.wrap_i64]; omega) | omega), by omega, h2, s1.trans (s2.mono (by omega) (by omega)), hp2, m1.trans m2⟩, (by first | (simp only [IntKind.wrap_i64]; omega) | omega)⟩
  · have : i = 0 := by omega
    subst this
    refine ⟨fun x w' => ∃ (i : Nat) (ys : List ByteArray), x = (i : Int) - 1 ∧ i ≤ n + 1 ∧ Els Value.string e w' d l c ys ∧ Seg a (a + (n + 1)) xs ys ∧ Pop ys a i (n + 1) ∧ Mod (rowB d) w w', fun x _ => (x + 1).toNat,
      ⟨n + 1, ys, by omega, by omega, h1, s1, Pop.start hp1, m1⟩, ?_⟩
    rintro _ _ w2 ⟨i, ys, rfl, hi, h2, s2, hp2, m2⟩
    refine ifK_dec (fun hge => ?_) (fun hlt => ?_)
    · obtain ⟨k, rfl⟩ : ∃ k, i = k + 1 := ⟨i - 1, by omega⟩
      rw [show ((k + 1 : Nat) : Int) - 1 = (k : Int) by omega]
      intro w3 e3
      have m3 : Mod no w2 w3 := by subst e3; exact Mod.drew _
      clear e3
      refine (h2.no m3).swp a (a + k) rfl (by first | (simp only [IntKind.wrap_i64]; omega) | omega) (by omega) (by omega) fun w4 h4 m4 => ?_
      refine siftDown_ok e d l c _ w4 h4 hl 0 k a (by omega) (by omega) (hp2.swap (by omega) (h2.le (by omega))) _ fun w5 zs h5 s5 hp5 m5 => ⟨rfl, ⟨k, zs, (by first | (simp only [IntKind.wrap_i64]; omega) | omega), by omega, h5, ?_, hp2.step (by omega) (h2.le (by omega)) s5 hp5, ((m2.trans_no m3).trans m4).trans m5⟩, (by first | (simp only [IntKind.wrap_i64]; omega) | omega)⟩
      exact (s2.trans (h2.seg (by omega) (by omega) (by omega) (by omega) (by omega) (by omega))).trans (s5.mono (by omega) (by omega))
    · have : i = 0 := by omega
      subst this
      exact h w2 ys h2 s2 hp2.done m2
end

/-! ### Scattering -/
theorem wrapU (x : Int) : IntKind.wrap .u64 x = x % 18446744073709551616 := by simp [IntKind.wrap, IntKind.bits, IntKind.signed]
theorem nextPow_ok (n : Nat) (hn : 0 < n) (hl : n < 4611686018427387904) (w : World) (R : Value → World → Prop) (h : ∀ k : Nat, k ≤ 2 * n → 0 < k → R (.int .u64 k) w) : Ca Try.prog 94 #[.int .i64 n] w R := by
  refine ca94 n w R ?_
  have e1 : IntKind.wrap .u64 (n : Int) = n := by rw [wrapU]; omega
  rw [W94, e1]
  clear e1
  refine bitsLen_ok n w _ fun k hk => ⟨_, rfl, by omega, ?_⟩
  obtain ⟨h1, h2⟩ := hk (by omega) (by omega)
  have h3 : ((2 ^ k : Nat) : Int) ≤ 2 * n := by simpa using h2
  have h4 : 0 < 2 ^ k := Nat.pow_pos (by decide)
  have e2 : IntKind.wrap .u64 (1 * 2 ^ min (Int.toNat (k : Int)) 64) = ((2 ^ k : Nat) : Int) := by
    have e3 : min (Int.toNat (k : Int)) 64 = k := by omega
    have e4 : (1 : Int) * 2 ^ k = ((2 ^ k : Nat) : Int) := by simp
    rw [e3, e4, wrapU]
    omega
  rw [e2]
  exact h _ (by omega) h4
theorem xorNext_ok (s : Nat) (t : TypeId) (n : Int) (w : World) (hs : w.heap[s]? = some (.cells #[.int .u64 n] t (0, 0))) (R : Value → World → Prop)
    (h : ∀ w' (n' : Int), w'.heap[s]? = some (.cells #[.int .u64 n'] t (0, 0)) → Mod (on s) w w' → R (.int .u64 n') w') : Ca Try.prog 95 #[.pointer (some ⟨s, 0, none⟩)] w R := by
  refine ca95 (some ⟨s, 0, none⟩) w R ?_
  have step : ∀ (w : World) (n m : Int) (K : World → Prop), w.heap[s]? = some (.cells #[.int .u64 n] t (0, 0)) → (∀ w', w'.heap[s]? = some (.cells #[.int .u64 m] t (0, 0)) → Mod (on s) w w' → K w') →
      (∃ v : Value, w.cell? (Addr.add ⟨s, 0, none⟩ 0) = some v) ∧ w.frozen? (Addr.add ⟨s, 0, none⟩ 0) = false ∧ atW (w.setCell (Addr.add ⟨s, 0, none⟩ 0) (.int .u64 m)) K := by
    intro w n m K hs hK
    refine ⟨⟨_, by rw [cl1 hs]; rfl⟩, fz1 hs _, fun w' e => ?_⟩
    subst e
    exact hK _ (set1 hs 0 _) (Mod.set1 _ _ _ _)
  intro w0 e0
  have m0 : Mod no w w0 := by subst e0; exact Mod.drew _
  clear e0
  have hs0 := m0.at' hs
  refine ⟨n, by rw [cl hs0]; rfl, n, by rw [cl hs0]; rfl, by decide, step w0 n _ _ hs0 fun w1 hs1 m1 => ?_⟩
  intro w2 e2
  have m2 : Mod no w1 w2 := by subst e2; exact Mod.drew _
  clear e2
  have hs2 := m2.at' hs1
  refine ⟨_, by rw [cl hs2]; rfl, _, by rw [cl hs2]; rfl, by decide, step w2 _ _ _ hs2 fun w3 hs3 m3 => ?_⟩
  intro w4 e4
  have m4 : Mod no w3 w4 := by subst e4; exact Mod.drew _
  clear e4
  have hs4 := m4.at' hs3
  refine ⟨_, by rw [cl hs4]; rfl, _, by rw [cl hs4]; rfl, by decide, step w4 _ _ _ hs4 fun w5 hs5 m5 => ?_⟩
  exact ⟨_, by rw [cl hs5]; rfl, h w5 _ hs5 (((((m0.no_trans m1).trans_no m2).trans m3).trans_no m4).trans m5)⟩

theorem and_le (x y : Int) (k : Nat) (hy : y = k) (hk : k < 18446744073709551616) : ((BitVec.ofInt 64 x &&& BitVec.ofInt 64 y).toNat) ≤ k := by
  rw [BitVec.toNat_and]
  refine Nat.le_trans Nat.and_le_right ?_
  rw [hy, BitVec.toNat_ofInt]
  omega
theorem breakP_ok (e : TypeId) (d : Option Addr) (l c : Nat) (xs : List ByteArray) (w : World) (hd : Els Value.string e w d l c xs) (hl : l < 4611686018427387904) (a b : Nat) (hab : a + 8 ≤ b) (hb : b ≤ l) (R : Value → World → Prop)
    (h : ∀ w' ys, Els Value.string e w' d l c ys → Seg a b xs ys → Mod (rowB d) w w' → R (.tuple #[]) w') :
    Ca Try.prog 84 #[.slice d l c, .int .i64 a, .int .i64 b] w R := by
  refine ca84 d l c a b w R ?_
  obtain ⟨elen, e4, ei, ej, ek⟩ := piv_eqs a b l (by omega) hb hl
  rw [W84]
  simp only [elen, e4, ej]
  clear elen e4 ei ej ek
  have hq : a + (b - a) / 4 * 2 + 1 < b ∧ a + 1 ≤ a + (b - a) / 4 * 2 := by omega
  generalize a + (b - a) / 4 * 2 = mid at hq
  have em : IntKind.i64.wrap ((mid : Int) - 1) = ((mid - 1 : Nat) : Int) := (by first | (simp only [IntKind.wrap_i64]; omega) | omega)
  have ep : IntKind.i64.wrap ((mid : Int) + 1) = ((mid + 1 : Nat) : Int) := (by first | (simp only [IntKind.wrap_i64]; omega) | omega)
  rw [em, ep]
  clear em ep
  refine ifK_of (fun _ => ?_) (fun hn => absurd (of_decide_eq_false hn) (by omega))
  intro w0 e0
  have m0 : Mod no w w0 := by subst e0; exact Mod.alloc _ _
  have hs0 : ∃ t, w0.heap[w.heap.size]? = some (.cells #[.int .u64 0] t (0, 0)) := by subst e0; exact ⟨_, new_at _ _⟩
  clear e0
  obtain ⟨t, hs0⟩ := hs0
  have hne : ¬ rowB d w.heap.size := by
    intro hk
    obtain ⟨g, rfl, hc⟩ := hd.get (i := 0) (by have := hd.len; omega)
    have : g = w.heap.size := by simpa [rowB] using hk
    subst this
    rw [World.cell?, Array.getElem?_eq_none (by simp [Addr.add])] at hc
    cases hc
  refine ⟨⟨_, by rw [cl1 hs0]; rfl⟩, fz1 hs0 _, ?_⟩
  intro w2 e2
  have m2 : Mod (on w.heap.size) w0 w2 := by subst e2; exact Mod.set1 _ _ _ _
  have hs2 : ∃ n : Int, w2.heap[w.heap.size]? = some (.cells #[.int .u64 n] t (0, 0)) := by subst e2; exact ⟨_, set1 hs0 0 _⟩
  clear e2
  have m02 : Mod no w w2 := m0.new m2 fun k hk => by cases hk; exact Nat.le_refl _
  refine nextPow_ok (b - a) (by omega) (by omega) w2 _ fun k hk hk0 => ⟨_, rfl, by decide, ?_⟩
  refine ⟨fun x w' => ∃ (i : Nat) (n : Int) (ys : List ByteArray), x = i ∧ mid - 1 ≤ i ∧ i ≤ mid + 2 ∧ w'.heap[w.heap.size]? = some (.cells #[.int .u64 n] t (0, 0)) ∧ Els Value.string e w' d l c ys ∧ Seg a b xs ys ∧ Mod (fun k => rowB d k ∨ k = w.heap.size) w w', fun x _ => ((mid : Int) + 2 - x).toNat, ?_, ?_⟩
  · obtain ⟨n, hs2⟩ := hs2
    exact ⟨mid - 1, n, xs, rfl, Nat.le_refl _, by omega, hs2, hd.no m02, Seg.refl _ _ _, m02.of_no⟩
  rintro _ _ w3 ⟨i, n, ys, rfl, hi1, hi2, hs3, h3, s3, m3⟩
  have m3' : Mod (rowB d) w w3 := m3.mono fun k hk h => by
    rcases h with h | h
    · exact h
    · omega
  refine ⟨by decide, ifK_dec (fun hle => ?_) (fun hgt => h w3 ys h3 s3 m3')⟩
  refine xorNext_ok _ t n w3 hs3 _ fun w4 n4 hs4 m4 => ⟨_, rfl, ?_⟩
  have h4 : Els Value.string e w4 d l c ys := h3.mod m4 fun k hk he => hne (by cases he; exact hk)
  have hand : IntKind.wrap .u64 ((k : Int) - 1) = ((k - 1 : Nat) : Int) := by rw [wrapU]; omega
  rw [hand]
  have hale := and_le n4 ((k - 1 : Nat) : Int) (k - 1) rfl (by omega)
  generalize ((BitVec.ofInt 64 n4 &&& BitVec.ofInt 64 ((k - 1 : Nat) : Int)).toNat) = o at hale
  have e5 : IntKind.wrap .i64 (IntKind.wrap .u64 (o : Int)) = o := by rw [wrapU, IntKind.wrap_i64]; omega
  rw [e5]
  clear e5
  refine ⟨fun x w' => ∃ q : Nat, x = q ∧ q < b - a ∧ w' = w4, ifK_dec (fun hge => ⟨o - (b - a), (by first | (simp only [IntKind.wrap_i64]; omega) | omega), by omega, rfl⟩) (fun hlt => ⟨o, rfl, by omega, rfl⟩), ?_⟩
  rintro _ _ _ ⟨q, rfl, hq1, rfl⟩ w5 e5
  rename_i w4
  have m5 : Mod no w4 w5 := by subst e5; exact Mod.drew _
  clear e5
  refine (h4.no m5).swp i (a + q) rfl (by first | (simp only [IntKind.wrap_i64]; omega) | omega) (by omega) (by omega) fun w6 h6 m6 => ?_
  have hs6 : w6.heap[w.heap.size]? = some (.cells #[.int .u64 n4] t (0, 0)) := m6.at (m5.at' hs4) hne
  clear hale hk hk0 hand
  have e8 : IntKind.i64.wrap ((i : Int) + 1) = ((i + 1 : Nat) : Int) := (by first | (simp only [IntKind.wrap_i64]; omega) | omega)
  rw [e8]
  clear e8
  exact ⟨⟨i + 1, n4, _, rfl, by omega, by omega, hs6, h6, s3.trans (h4.seg (by omega) (by omega) (by omega) (by omega) (by omega) (by omega)),
    ((m3.trans (m4.mono fun k _ h => .inr h)).trans_no m5).trans (m6.mono fun k _ h => .inl h)⟩, by simp only; omega⟩
end Go.Proofs.Ytemklabamlifdaa.Sortstring

/- The formulas of functions, printed by a program of mine (gen.py) out of the translation. -/
namespace Go.Proofs.Ytemklabamlifdaa
open Go Go.Proofs.Ytemklabamlifdaa.St
set_option maxRecDepth 100000

/-- slices.pdqsortOrdered[string] -/
noncomputable def C80 : Code := (Try.f80.body).getD .skip
def pl80 : Nat → Plan
  | 17 => (.quiet 0 (.quiet 1 (.quiet 2 (.quiet 3 (.quiet 4 (.quiet 5 (.quiet 6 (.quiet 7 (.quiet 8 (.quiet 9 (.quiet 10 (.quiet 11 (.eff 12 [] (.quiet 13 (.quiet 14 .done)))))))))))))))
  | _ => .done
def ls80 : Nat → List (Nat × LT)
  | 2 => [(1, (.one (.int .i64))), (2, (.one (.int .i64))), (3, (.one (.int .i64))), (8, (.one .bool)), (9, (.one .bool))]
  | 10 => [(0, .agg []), (3, (.one (.int .i64)))]
  | 14 => [(0, .agg []), (11, (.one (.int .i64))), (12, (.one (.int .i64)))]
  | 18 => [(0, .agg [])]
  | 21 => [(0, .agg []), (1, (.one (.int .i64)))]
  | _ => []
def W80 (dataa : Option Addr) (datal : Nat) (datac : Nat) (a_ : Int) (b : Int) (limit : Int) (w : World) (R : Value → World → Prop) : Prop :=
  (∃ z0 : Int → Int → Int → Bool → Bool → World → Prop, (∃ z1 : Int → Int → Int → Bool → Bool → World → Nat, ((z0 (a_) (b) (limit) (true) (true) (w)) ∧ (∀ (_ : Nat → Value), (∀ (x3 : Int), (∀ (x4 : Int), (∀ (x5 : Int), (∀ (b6 : Bool), (∀ (b7 : Bool), (∀ (w8 : World), ((z0 (x3) (x4) (x5) (b6) (b7) (w8)) → (ifK (decide (IntKind.wrap IntKind.i64 (x4 - x3) ≤ 12))
    (Ca Try.prog (82) (Array.mk [Value.slice dataa datal datac, Value.int IntKind.i64 x3, Value.int IntKind.i64 x4]) (w8) (fun v9 => (fun w10 =>
      ((v9 = Value.tuple (Array.mk (List.reverse []))) ∧ (R (Value.tuple (Array.mk (List.reverse []))) (w10))))))
    (ifK (x5 == 0)
      (Ca Try.prog (83) (Array.mk [Value.slice dataa datal datac, Value.int IntKind.i64 x3, Value.int IntKind.i64 x4]) (w8) (fun v11 => (fun w12 =>
        ((v11 = Value.tuple (Array.mk (List.reverse []))) ∧ (R (Value.tuple (Array.mk (List.reverse []))) (w12))))))
      (∃ z13 : Int → World → Prop, ((ifK (!b6)
        (Ca Try.prog (84) (Array.mk [Value.slice dataa datal datac, Value.int IntKind.i64 x3, Value.int IntKind.i64 x4]) (w8) (fun v14 => (fun w15 =>
          ((v14 = Value.tuple (Array.mk (List.reverse []))) ∧ (z13 (IntKind.wrap IntKind.i64 (x5 - 1)) (w15))))))
        (z13 (x5) (w8))) ∧ (∀ (_ : Nat → Value), (∀ (x17 : Int), (∀ (w18 : World), ((z13 (x17) (w18)) → (Ca Try.prog (85) (Array.mk [Value.slice dataa datal datac, Value.int IntKind.i64 x3, Value.int IntKind.i64 x4]) (w18) (fun v19 => (fun w20 =>
        (∃ x21 : Int, (∃ x22 : Int, ((v19 = Value.tuple (Array.mk (List.reverse [Value.int IntKind.i64 x22, Value.int IntKind.i64 x21]))) ∧ (∃ z23 : Int → Int → World → Prop, ((ifK (x22 == 2)
          (Ca Try.prog (86) (Array.mk [Value.slice dataa datal datac, Value.int IntKind.i64 x3, Value.int IntKind.i64 x4]) (w20) (fun v24 => (fun w25 =>
            ((v24 = Value.tuple (Array.mk (List.reverse []))) ∧ (z23 (IntKind.wrap IntKind.i64 (IntKind.wrap IntKind.i64 (x4 - 1) - IntKind.wrap IntKind.i64 (x21 - x3))) (1) (w25))))))
          (z23 (x21) (x22) (w20))) ∧ (∀ (_ : Nat → Value), (∀ (x27 : Int), (∀ (x28 : Int), (∀ (w29 : World), ((z23 (x27) (x28) (w29)) → (∃ z30 : World → Prop, ((ifK (b6)
          (ifK (b7)
            (ifK (x28 == 1)
              (Ca Try.prog (87) (Array.mk [Value.slice dataa datal datac, Value.int IntKind.i64 x3, Value.int IntKind.i64 x4]) (w29) (fun v31 => (fun w32 =>
                (∃ b33 : Bool, ((v31 = Value.bool b33) ∧ (ifK (b33)
                  (R (Value.tuple (Array.mk (List.reverse []))) (w32))
                  (z30 (w32))))))))
              (z30 (w29)))
            (z30 (w29)))
          (z30 (w29))) ∧ (∀ (_ : Nat → Value), (∀ (w35 : World), ((z30 (w35)) → (∃ z36 : Int → World → Prop, ((atW (World.drew w35) (fun w37 =>
          (ifK (decide (x3 > 0))
            (∃ a38 : Addr, ((dataa = some a38) ∧ (((0 : Int) ≤ IntKind.wrap IntKind.i64 (x3 - 1)) ∧ (((IntKind.wrap IntKind.i64 (x3 - 1) : Int) < (↑datal : Int)) ∧ (∃ s39 : ByteArray, ((World.cell? w37 (Addr.add a38 (Int.toNat (IntKind.wrap IntKind.i64 (x3 - 1)) * 1)) = some (Value.string s39)) ∧ (∃ a40 : Addr, ((dataa = some a40) ∧ (((0 : Int) ≤ x27) ∧ (((x27 : Int) < (↑datal : Int)) ∧ (∃ s41 : ByteArray, ((World.cell? w37 (Addr.add a40 (Int.toNat x27 * 1)) = some (Value.string s41)) ∧ (Ca Try.prog (88) (Array.mk [Value.string s39, Value.string s41]) (w37) (fun v42 => (fun w43 =>
              (∃ b44 : Bool, ((v42 = Value.bool b44) ∧ (ifK (!b44)
                (Ca Try.prog (89) (Array.mk [Value.slice dataa datal datac, Value.int IntKind.i64 x3, Value.int IntKind.i64 x4, Value.int IntKind.i64 x27]) (w43) (fun v45 => (fun w46 =>
                  (∃ x47 : Int, ((v45 = Value.int IntKind.i64 x47) ∧ ((z0 (x47) (x4) (x17) (b6) (b7) (w46)) ∧ (z1 x47 x4 x17 b6 b7 w46 < z1 x3 x4 x5 b6 b7 w8)))))))
                (z36 (x3) (w43))))))))))))))))))))
            (z36 (x3) (w37))))) ∧ (∀ (_ : Nat → Value), (∀ (x49 : Int), (∀ (w50 : World), ((z36 (x49) (w50)) → (Ca Try.prog (90) (Array.mk [Value.slice dataa datal datac, Value.int IntKind.i64 x49, Value.int IntKind.i64 x4, Value.int IntKind.i64 x27]) (w50) (fun v51 => (fun w52 =>
          (∃ x53 : Int, (∃ b54 : Bool, ((v51 = Value.tuple (Array.mk (List.reverse [Value.bool b54, Value.int IntKind.i64 x53]))) ∧ (((8 : Int) ≠ 0) ∧ (ifK (decide (IntKind.wrap IntKind.i64 (x53 - x49) < IntKind.wrap IntKind.i64 (x4 - x53)))
            (Ca Try.prog (80) (Array.mk [Value.slice dataa datal datac, Value.int IntKind.i64 x49, Value.int IntKind.i64 x53, Value.int IntKind.i64 x17]) (w52) (fun v55 => (fun w56 =>
              ((v55 = Value.tuple (Array.mk (List.reverse []))) ∧ ((z0 (IntKind.wrap IntKind.i64 (x53 + 1)) (x4) (x17) (decide (IntKind.wrap IntKind.i64 (x53 - x49) ≥ IntKind.wrap IntKind.i64 (Int.tdiv (IntKind.wrap IntKind.i64 (x4 - x3)) 8))) (b54) (w56)) ∧ (z1 (IntKind.wrap IntKind.i64 (x53 + 1)) x4 x17 (decide (IntKind.wrap IntKind.i64 (x53 - x49) ≥ IntKind.wrap IntKind.i64 (Int.tdiv (IntKind.wrap IntKind.i64 (x4 - x3)) 8))) b54 w56 < z1 x3 x4 x5 b6 b7 w8))))))
            (Ca Try.prog (80) (Array.mk [Value.slice dataa datal datac, Value.int IntKind.i64 (IntKind.wrap IntKind.i64 (x53 + 1)), Value.int IntKind.i64 x4, Value.int IntKind.i64 x17]) (w52) (fun v57 => (fun w58 =>
              ((v57 = Value.tuple (Array.mk (List.reverse []))) ∧ ((z0 (x49) (x53) (x17) (decide (IntKind.wrap IntKind.i64 (x4 - x53) ≥ IntKind.wrap IntKind.i64 (Int.tdiv (IntKind.wrap IntKind.i64 (x4 - x3)) 8))) (b54) (w58)) ∧ (z1 x49 x53 x17 (decide (IntKind.wrap IntKind.i64 (x4 - x53) ≥ IntKind.wrap IntKind.i64 (Int.tdiv (IntKind.wrap IntKind.i64 (x4 - x3)) 8))) b54 w58 < z1 x3 x4 x5 b6 b7 w8)))))))))))))))))))))))))))))))))))))))))))))))))))))))))
theorem ca80 (dataa : Option Addr) (datal : Nat) (datac : Nat) (a_ : Int) (b : Int) (limit : Int) (w : World) (R : Value → World → Prop) (h : W80 dataa datal datac a_ b limit w R) : Ca Try.prog 80 ⟨[(.slice dataa datal datac), (.int .i64 a_), (.int .i64 b), (.int .i64 limit)]⟩ w R := by
  have h1 : Try.prog.follows .mixedOrders = true := by kernel_rfl
  have h2 : Try.f80.body = some C80 := by kernel_rfl
  have h3 : (Try.f80.name == "runtime.NumGoroutine") = false := by kernel_rfl
  have h6 : Try.f80.results.toList = [] := by kernel_rfl
  have h4 : Nat.ble 4 134 = true := by kernel_rfl
  have h5 : okCode 134 pl80 ls80 C80 0 = true := by kernel_rfl
  have e : W80 dataa datal datac a_ b limit w R = wpC none Try.prog 134 pl80 ls80 C80 0 (endP Try.prog [] R) (fr0 [(.slice dataa datal datac), (.int .i64 a_), (.int .i64 b), (.int .i64 limit)]) [] w := by kernel_rfl
  exact ca_of' (P := Try.prog) (g := 80) (fn := Try.f80) (c := C80) (m := 134) (rs := []) (args := [(.slice dataa datal datac), (.int .i64 a_), (.int .i64 b), (.int .i64 limit)]) (pl := pl80) (ls := ls80) (w := w) (R := R) h1 Try.func80 h2 Try.ntmps80 h6 h3 h4 h5 (Eq.mp e h)

/-- slices.Sort[[]string,string] -/
noncomputable def C72 : Code := (Try.f72.body).getD .skip
def pl72 : Nat → Plan := fun _ => .done
def ls72 : Nat → List (Nat × LT) := fun _ => []
def W72 (xa : Option Addr) (xl : Nat) (xc : Nat) (w : World) (R : Value → World → Prop) : Prop :=
  (Ca Try.prog (81) (Array.mk [Value.int IntKind.u64 (IntKind.wrap IntKind.u64 (↑xl : Int))]) (w) (fun v0 => (fun w1 =>
    (∃ x2 : Int, ((v0 = Value.int IntKind.i64 x2) ∧ (Ca Try.prog (80) (Array.mk [Value.slice xa xl xc, Value.int IntKind.i64 0, Value.int IntKind.i64 (↑xl : Int), Value.int IntKind.i64 x2]) (w1) (fun v3 => (fun w4 =>
      ((v3 = Value.tuple (Array.mk (List.reverse []))) ∧ (R (Value.tuple (Array.mk (List.reverse []))) (w4)))))))))))
theorem ca72 (xa : Option Addr) (xl : Nat) (xc : Nat) (w : World) (R : Value → World → Prop) (h : W72 xa xl xc w R) : Ca Try.prog 72 ⟨[(.slice xa xl xc)]⟩ w R := by
  have h1 : Try.prog.follows .mixedOrders = true := by kernel_rfl
  have h2 : Try.f72.body = some C72 := by kernel_rfl
  have h3 : (Try.f72.name == "runtime.NumGoroutine") = false := by kernel_rfl
  have h6 : Try.f72.results.toList = [] := by kernel_rfl
  have h4 : Nat.ble 1 11 = true := by kernel_rfl
  have h5 : okCode 11 pl72 ls72 C72 0 = true := by kernel_rfl
  have e : W72 xa xl xc w R = wpC none Try.prog 11 pl72 ls72 C72 0 (endP Try.prog [] R) (fr0 [(.slice xa xl xc)]) [] w := by kernel_rfl
  exact ca_of' (P := Try.prog) (g := 72) (fn := Try.f72) (c := C72) (m := 11) (rs := []) (args := [(.slice xa xl xc)]) (pl := pl72) (ls := ls72) (w := w) (R := R) h1 Try.func72 h2 Try.ntmps72 h6 h3 h4 h5 (Eq.mp e h)
end Go.Proofs.Ytemklabamlifdaa

/- The library's general sort, at one type: sorting what is nearly sorted; the sort itself. -/
namespace Go.Proofs.Ytemklabamlifdaa.Sortstring
open Go Go.Proofs.Ytemklabamlifdaa Go.Proofs.Ytemklabamlifdaa.St

theorem wS {i : Nat} (h : i < 4611686018427387904) : IntKind.i64.wrap ((i : Int) + 1) = ((i + 1 : Nat) : Int) := by rw [wrap64 (by omega) (by omega)]; rfl
theorem wP {i : Nat} (h : i < 4611686018427387904) (h0 : 0 < i) : IntKind.i64.wrap ((i : Int) - 1) = ((i - 1 : Nat) : Int) := by rw [wrap64 (by omega) (by omega)]; omega
theorem wD {i j : Nat} (h : i < 4611686018427387904) (h0 : j ≤ i) : IntKind.i64.wrap ((i : Int) - (j : Int)) = ((i - j : Nat) : Int) := by rw [wrap64 (by omega) (by omega)]; omega

section
variable (e : TypeId) (d : Option Addr) (l c : Nat) (xs : List ByteArray) (w : World) (hd : Els Value.string e w d l c xs) (hl : l < 4611686018427387904)
include hd hl

theorem partial_ok (a b : Nat) (hab : a < b) (hb : b ≤ l) (hbel : Bel xs a b) (R : Value → World → Prop)
    (h : ∀ w' ys (q : Bool), Els Value.string e w' d l c ys → Seg a b xs ys → (q = true → Srt ys a b) → Mod (rowB d) w w' → R (.bool q) w') :
    Ca Try.prog 87 #[.slice d l c, .int .i64 a, .int .i64 b] w R := by
  refine ca87 d l c a b w R ?_
  rw [W87, wS (by omega)]
  refine ⟨fun x y w' => ∃ (i j : Nat) (ys : List ByteArray), x = i ∧ y = j ∧ a < i ∧ i ≤ b ∧ j ≤ 5 ∧ Els Value.string e w' d l c ys ∧ Seg a b xs ys ∧ Srt ys a i ∧ Mod (rowB d) w w', fun _ y _ => (5 - y).toNat,
    ⟨a + 1, 0, xs, rfl, rfl, by omega, by omega, by omega, hd, Seg.refl _ _ _, Srt.nil _ _ _ (Nat.le_refl _), Mod.refl _ _⟩, ?_⟩
  rintro _ _ _ w1 ⟨i0, j0, ys, rfl, rfl, hi1, hi2, hj5, h1, s1, srt1, m1⟩
  refine ifK_dec (fun hlt => ?_) (fun _ => h w1 ys false h1 s1 (fun h => by cases h) m1)
  have hj : (j0 : Int) < 5 := hlt
  clear hlt
  -- as long as it rises
  refine ⟨fun x w' => ∃ i : Nat, x = i ∧ a < i ∧ i ≤ b ∧ Els Value.string e w' d l c ys ∧ Srt ys a i ∧ (i < b → at0 ys i < at0 ys (i - 1)) ∧ Mod (rowB d) w w', ⟨fun x w' => ∃ i : Nat, x = i ∧ a < i ∧ i ≤ b ∧ Els Value.string e w' d l c ys ∧ Srt ys a i ∧ Mod (rowB d) w w',
    fun x _ => ((b : Int) - x).toNat, ⟨i0, rfl, hi1, hi2, h1, srt1, m1⟩, ?_⟩, ?_⟩
  · rintro _ _ w2 ⟨i, rfl, h3, h4, h2, srt2, m2⟩ w3 e3
    have m3 : Mod no w2 w3 := by subst e3; exact Mod.drew _
    clear e3
    refine ifK_dec (fun hib => ?_) (fun hib => ⟨i, rfl, h3, h4, h2.no m3, srt2, fun h => by omega, m2.trans_no m3⟩)
    have hib : i < b := by omega
    rw [wS (i := i) (by omega), wP (i := i) (by omega) (by omega)]
    refine nls (h2.no m3) i (i - 1) rfl rfl (by omega) (by omega) (fun hge => ⟨⟨i + 1, rfl, by omega, by omega, h2.no m3, (Ins.start srt2).done (.inr (Lin.nlt hge)), m2.trans_no m3⟩, by simp only; omega⟩)
      (fun hls => ⟨i, rfl, h3, h4, h2.no m3, srt2, fun _ => hls, m2.trans_no m3⟩)
  rintro _ _ w4 ⟨i, rfl, h3, h4, h2, srt2, hls, m2⟩
  refine ifK_eq (fun hib => ?_) (fun hib => ?_)
  · have hib : i = b := by omega
    subst hib
    exact h w4 ys true h2 s1 (fun _ => srt2) m2
  have hib : i < b := by omega
  have hls := hls hib
  rw [wD (i := b) (j := a) (by omega) (by omega), wD (i := i) (j := a) (by omega) (by omega), wD (i := b) (j := i) (by omega) (by omega), wS (i := i) (by omega), wS (i := j0) (by omega), wP (i := i) (by omega) (by omega)]
  refine ifK_of (fun _ => h w4 ys false h2 s1 (fun h => by cases h) m2) (fun _ => ?_)
  intro w5 e5
  have m5 : Mod no w4 w5 := by subst e5; exact Mod.drew _
  clear e5
  refine (h2.no m5).swp i (i - 1) rfl rfl (by omega) (by omega) fun w6 h6 m6 => ?_
  have s6 : Seg a b xs (swapL ys i (i - 1)) := s1.trans (h2.seg (by omega) (by omega) (by omega) (by omega) (by omega) (by omega))
  have m6 := (m2.trans_no m5).trans m6
  have srt6 : Srt (swapL ys i (i - 1)) a (i - 1) := by
    intro p q h7 h8 h9
    rw [at0_swapL (h2.lt (by omega)) (h2.lt (by omega)), at0_swapL (h2.lt (by omega)) (h2.lt (by omega)), if_neg (by omega), if_neg (by omega), if_neg (by omega), if_neg (by omega)]
    exact srt2 p q h7 h8 (by omega)
  -- the smaller one to the left
  refine ⟨fun w' => ∃ zs, Els Value.string e w' d l c zs ∧ Seg a b xs zs ∧ Srt zs a i ∧ Mod (rowB d) w w', ?_, ?_⟩
  · refine ifK_dec (fun hge => ?_) (fun hlt => ⟨_, h6, s6, Srt.nil _ _ _ (by omega), m6⟩)
    refine ⟨fun x w' => ∃ (j : Nat) (zs : List ByteArray), x = j ∧ a ≤ j ∧ j + 1 ≤ i ∧ Els Value.string e w' d l c zs ∧ Seg a b xs zs ∧ Ins zs a (i - 1) j ∧ Mod (rowB d) w w', fun x _ => x.toNat,
      ⟨i - 1, _, rfl, by omega, by omega, h6, s6, Ins.start srt6, m6⟩, ?_⟩
    rintro _ _ w7 ⟨j, zs, rfl, hj1, hj2, h7, s7, ins7, m7⟩
    have fin : (j ≤ a ∨ at0 zs (j - 1) ≤ at0 zs j) → Srt zs a i := fun hh => by
      have := ins7.done hh
      rwa [Nat.sub_add_cancel (by omega)] at this
    refine ifK_dec (fun hj0 => ?_) (fun hj0 => ⟨zs, h7, s7, fin (.inl (by omega)), m7⟩)
    have hj0 : 0 < j := by omega
    intro w8 e8
    have m8 : Mod no w7 w8 := by subst e8; exact Mod.drew _
    clear e8
    rw [wP (i := j) (by omega) hj0]
    refine nls (h7.no m8) j (j - 1) rfl rfl (by omega) (by omega) (fun hge => ⟨zs, h7.no m8, s7, fin (.inr (Lin.nlt hge)), m7.trans_no m8⟩) (fun hlt => ?_)
    have haj : a < j := by
      refine Nat.lt_of_le_of_ne hj1 fun e => ?_
      subst e
      exact absurd hlt (Lin.nle ((hbel.seg s7 (hd.le hb)) hj0 a (Nat.le_refl _) hab))
    intro w9 e9
    have m9 : Mod no w8 w9 := by subst e9; exact Mod.drew _
    clear e9
    refine ((h7.no m8).no m9).swp j (j - 1) rfl rfl (by omega) (by omega) fun w10 h10 m10 => ?_
    exact ⟨⟨j - 1, _, rfl, by omega, by omega, h10, s7.trans (h7.seg (by omega) (by omega) (by omega) (by omega) (by omega) (by omega)), ins7.step (h7.lt (by omega)) haj (by omega) hlt, ((m7.trans_no m8).trans_no m9).trans m10⟩, by simp only; omega⟩
  -- the greater one to the right
  rintro _ w11 ⟨zs, h11, s11, srt11, m11⟩
  have next : ∀ (w' : World) (us : List ByteArray), Els Value.string e w' d l c us → Seg a b xs us → Srt us a i → Mod (rowB d) w w' →
      (∃ (i' j' : Nat) (ys : List ByteArray), (i : Int) = i' ∧ ((j0 + 1 : Nat) : Int) = j' ∧ a < i' ∧ i' ≤ b ∧ j' ≤ 5 ∧ Els Value.string e w' d l c ys ∧ Seg a b xs ys ∧ Srt ys a i' ∧ Mod (rowB d) w w') ∧ (5 - ((j0 + 1 : Nat) : Int)).toNat < (5 - (j0 : Int)).toNat := by
    intro w' us hu su srtu mu
    exact ⟨⟨i, j0 + 1, us, rfl, rfl, h3, h4, by omega, hu, su, srtu, mu⟩, by omega⟩
  refine ifK_of (fun hge => ?_) (fun _ => next w11 zs h11 s11 srt11 m11)
  refine ⟨fun x w' => ∃ (j : Nat) (us : List ByteArray), x = j ∧ i < j ∧ j ≤ b ∧ Els Value.string e w' d l c us ∧ Seg a b xs us ∧ Srt us a i ∧ Mod (rowB d) w w', fun x _ => ((b : Int) - x).toNat,
    ⟨i + 1, zs, rfl, by omega, by omega, h11, s11, srt11, m11⟩, ?_⟩
  rintro _ _ w12 ⟨j, us, rfl, hj1, hj2, h12, s12, srt12, m12⟩
  refine ifK_dec (fun hjb => ?_) (fun _ => next w12 us h12 s12 srt12 m12)
  have hjb : j < b := by omega
  intro w13 e13
  have m13 : Mod no w12 w13 := by subst e13; exact Mod.drew _
  clear e13
  rw [wP (i := j) (by omega) (by omega), wS (i := j) (by omega)]
  refine nls (h12.no m13) j (j - 1) rfl rfl (by omega) (by omega) (fun _ => next w13 us (h12.no m13) s12 srt12 (m12.trans_no m13)) (fun hlt => ?_)
  intro w14 e14
  have m14 : Mod no w13 w14 := by subst e14; exact Mod.drew _
  clear e14
  refine ((h12.no m13).no m14).swp j (j - 1) rfl rfl (by omega) (by omega) fun w15 h15 m15 => ?_
  have s15 : Seg i b us (swapL us j (j - 1)) := h12.seg (by omega) (by omega) (by omega) (by omega) (by omega) (by omega)
  exact ⟨⟨j + 1, _, rfl, by omega, by omega, h15, s12.trans (s15.mono (by omega) (Nat.le_refl _)), srt12.of_out s15 (.inl (Nat.le_refl _)), ((m12.trans_no m13).trans_no m14).trans m15⟩, by simp only; omega⟩
end

/-- The general sort. -/
theorem pdq_ok (e : TypeId) (d : Option Addr) (l c : Nat) (hl : l < 4611686018427387904) : ∀ (n a b : Nat) (lim : Int) (xs : List ByteArray) (w : World), b - a ≤ n → Els Value.string e w d l c xs → a ≤ b → b ≤ l → Bel xs a b → ∀ R : Value → World → Prop,
    (∀ w' ys, Els Value.string e w' d l c ys → Seg a b xs ys → Srt ys a b → Mod (rowB d) w w' → R (.tuple #[]) w') →
    Ca Try.prog 80 #[.slice d l c, .int .i64 a, .int .i64 b, .int .i64 lim] w R := by
  intro n
  induction n using Nat.strongRecOn with
  | _ n ih =>
  intro a b lim xs w hn hd hab hb hbel R h
  refine ca80 d l c a b lim w R ?_
  refine ⟨fun x y _ _ _ w' => ∃ (a' b' : Nat) (ys : List ByteArray), x = a' ∧ y = b' ∧ a ≤ a' ∧ a' ≤ b' ∧ b' ≤ b ∧ Els Value.string e w' d l c ys ∧ Seg a b xs ys ∧ Alm ys a b a' b' ∧ Bel ys a' b' ∧ Mod (rowB d) w w', fun x y _ _ _ _ => (y - x).toNat,
    ⟨a, b, xs, rfl, rfl, Nat.le_refl _, hab, Nat.le_refl _, hd, Seg.refl _ _ _, Alm.start _ _ _, hbel, Mod.refl _ _⟩, ?_⟩
  rintro _ _ _ lim' b6 b7 w1 ⟨a', b', ys, rfl, rfl, ha, hab', hb', h1, s1, alm1, bel1, m1⟩
  have sorted : ∀ w' zs, Els Value.string e w' d l c zs → Seg a' b' ys zs → Srt zs a' b' → Mod (rowB d) w1 w' → R (.tuple #[]) w' := fun w' zs hz sz srt mz =>
    h w' zs hz (s1.trans (sz.mono ha hb')) ((alm1.seg sz ha hb' (h1.le hb)).full srt) (m1.trans mz)
  rw [wD (i := b') (j := a') (by omega) hab']
  refine ifK_dec (fun _ => ?_) (fun hlen => ?_)
  · exact insertion_ok e d l c a' b' ys w1 h1 hab' (by omega) hl _ fun w2 zs h2 s2 srt2 m2 => ⟨rfl, sorted w2 zs h2 s2 srt2 m2⟩
  have hlen : a' + 12 < b' := by omega
  refine ifK_of (fun _ => ?_) (fun _ => ?_)
  · exact heapSort_ok e d l c ys w1 h1 hl a' b' (by omega) (by omega) _ fun w2 zs h2 s2 srt2 m2 => ⟨rfl, sorted w2 zs h2 s2 srt2 m2⟩
  -- a part of another order is as good
  refine ⟨fun _ w' => ∃ zs, Els Value.string e w' d l c zs ∧ Seg a' b' ys zs ∧ Mod (rowB d) w1 w', ?_, ?_⟩
  · refine ifK_of (fun _ => ?_) (fun _ => ⟨ys, h1, Seg.refl _ _ _, Mod.refl _ _⟩)
    exact breakP_ok e d l c ys w1 h1 hl a' b' (by omega) (by omega) _ fun w2 zs h2 s2 m2 => ⟨rfl, zs, h2, s2, m2⟩
  rintro _ lim2 w2 ⟨zs, h2, s2, m2⟩
  refine choosePivot_ok e d l c zs w2 h2 hl a' b' (by omega) (by omega) _ fun w3 p hint hp1 hp2 m3 => ⟨_, _, rfl, ?_⟩
  refine ⟨fun x _ w' => ∃ (p : Nat) (us : List ByteArray), x = p ∧ a' ≤ p ∧ p < b' ∧ Els Value.string e w' d l c us ∧ Seg a' b' ys us ∧ Mod (rowB d) w1 w', ?_, ?_⟩
  · refine ifK_of (fun _ => ?_) (fun _ => ⟨p, zs, rfl, hp1, hp2, h2.no m3, s2, m2.trans_no m3⟩)
    refine reverse_ok e d l c zs w3 (h2.no m3) hl a' b' (by omega) (by omega) _ fun w4 us h4 s4 m4 => ⟨rfl, b' - 1 - (p - a'), us, ?_, by omega, by omega, h4, s2.trans s4, (m2.trans_no m3).trans m4⟩
    rw [wP (i := b') (by omega) (by omega), wD (i := p) (j := a') (by omega) hp1, wD (by omega) (by omega)]
  rintro _ _ hint2 w5 ⟨p, us, rfl, hp1, hp2, h5, s5, m5⟩
  refine ⟨fun w' => ∃ vs, Els Value.string e w' d l c vs ∧ Seg a' b' ys vs ∧ Mod (rowB d) w1 w', ?_, ?_⟩
  · refine ifK_of (fun _ => ifK_of (fun _ => ifK_of (fun _ => ?_) (fun _ => ⟨us, h5, s5, m5⟩)) (fun _ => ⟨us, h5, s5, m5⟩)) (fun _ => ⟨us, h5, s5, m5⟩)
    refine partial_ok e d l c us w5 h5 hl a' b' (by omega) (by omega) (bel1.seg s5 (h1.le (by omega))) _ fun w6 vs q h6 s6 srt6 m6 => ⟨q, rfl, ?_⟩
    exact ifK_of (fun hq => sorted w6 vs h6 (s5.trans s6) (srt6 hq) (m5.trans m6)) (fun _ => ⟨vs, h6, s5.trans s6, m5.trans m6⟩)
  rintro _ w7 ⟨vs, h7, s7, m7⟩
  have s7' : Seg a b xs vs := s1.trans (s7.mono ha hb')
  have m7' := m1.trans m7
  have alm7 := alm1.seg s7 ha hb' (h1.le hb)
  have bel7 := bel1.seg s7 (h1.le (by omega))
  -- parted into less and more
  refine ⟨fun x w' => x = (a' : Int) ∧ Els Value.string e w' d l c vs ∧ Mod (rowB d) w w', ?_, ?_⟩
  · intro w8 e8
    have m8 : Mod no w7 w8 := by subst e8; exact Mod.drew _
    clear e8
    refine ifK_dec (fun ha0 => ?_) (fun _ => ⟨rfl, h7.no m8, m7'.trans_no m8⟩)
    have ha0 : 0 < a' := by omega
    rw [wP (i := a') (by omega) ha0]
    refine nls (h7.no m8) (a' - 1) p rfl rfl (by omega) (by omega) (fun hge => ?_) (fun _ => ⟨rfl, h7.no m8, m7'.trans_no m8⟩)
    have hmin : ∀ k, a' ≤ k → k < b' → at0 vs p ≤ at0 vs k := fun k h8 h9 => Lin.tr (Lin.nlt hge) (bel7 ha0 k h8 h9)
    refine partEq_ok e d l c vs w8 (h7.no m8) hl a' b' p hp1 hp2 (by omega) hmin _ fun w9 ts m h9 s9 eq9 m9 => ⟨_, rfl, ?_⟩
    have hm1 := eq9.am
    have hm2 := eq9.mb
    exact ⟨⟨m, b', ts, rfl, rfl, by omega, hm2, hb', h9, s7'.trans (s9.mono ha hb'), (alm7.seg s9 ha hb' (h7.le hb)).eqd eq9, eq9.bel, (m7'.trans_no m8).trans m9⟩, by simp only; omega⟩
  rintro _ _ w10 ⟨rfl, h10, m10⟩
  refine partition_ok e d l c vs w10 h10 hl a' b' p hp1 hp2 (by omega) _ fun w11 ts m q h11 s11 pt11 m11 => ⟨_, _, rfl, by decide, ?_⟩
  have hm1 := pt11.am
  have hm2 := pt11.mb
  have s11' : Seg a b xs ts := s7'.trans (s11.mono ha hb')
  have alm11 := alm7.seg s11 ha hb' (h7.le hb)
  have bel11 := bel7.seg s11 (h7.le (by omega))
  have m11' := m10.trans m11
  rw [wS (i := m) (by omega)]
  refine ifK_of (fun _ => ?_) (fun _ => ?_)
  · refine ih (m - a') (by omega) a' m lim2 ts w11 (Nat.le_refl _) h11 hm1 (by omega) (bel11.mono (by omega)) _ fun w12 rs h12 s12 srt12 m12 => ⟨rfl, ?_⟩
    have pt12 := pt11.left (h11.le (by omega)) s12
    exact ⟨⟨m + 1, b', rs, rfl, rfl, by omega, by omega, hb', h12, s11'.trans (s12.mono (by omega) (by omega)), (alm11.seg (s12.mono (Nat.le_refl _) (by omega)) ha hb' (h11.le hb)).left pt12 srt12, pt12.bel, m11'.trans m12⟩, by simp only; omega⟩
  · refine ih (b' - (m + 1)) (by omega) (m + 1) b' lim2 ts w11 (Nat.le_refl _) h11 (by omega) (by omega) pt11.bel _ fun w12 rs h12 s12 srt12 m12 => ⟨rfl, ?_⟩
    have pt12 := pt11.right (h11.le (by omega)) s12
    exact ⟨⟨a', m, rs, rfl, rfl, ha, hm1, by omega, h12, s11'.trans (s12.mono (by omega) (by omega)), (alm11.seg (s12.mono (by omega) (Nat.le_refl _)) ha hb' (h11.le hb)).right pt12 srt12,
      (bel11.seg (s12.mono (by omega) (Nat.le_refl _)) (h11.le (by omega))).mono (by omega), m11'.trans m12⟩, by simp only; omega⟩

theorem sort_ok (e : TypeId) (d : Option Addr) (l c : Nat) (xs : List ByteArray) (w : World) (hd : Els Value.string e w d l c xs) (hl : l < 4611686018427387904) (R : Value → World → Prop)
    (h : ∀ w' ys, Els Value.string e w' d l c ys → ys.Perm xs → Srt ys 0 l → Mod (rowB d) w w' → R (.tuple #[]) w') :
    Ca Try.prog 72 #[.slice d l c] w R := by
  refine ca72 d l c w R ?_
  refine bitsLen_ok _ w _ fun n _ => ⟨n, rfl, ?_⟩
  exact pdq_ok e d l c hl l 0 l n xs w (Nat.le_refl _) hd (Nat.zero_le _) (Nat.le_refl _) (fun h => absurd h (by omega)) _ fun w' ys h1 h2 h3 h4 => ⟨rfl, h w' ys h1 h2.perm h3 h4⟩
end Go.Proofs.Ytemklabamlifdaa.Sortstring

/- The library's Keys of a directory, Collect, Sorted. -/
namespace Go.Proofs.Ytemklabamlifdaa
open Go Go.Proofs.Ytemklabamlifdaa Go.Proofs.Ytemklabamlifdaa.St

abbrev Strs (w : World) (a : Option Addr) (l c : Nat) (xs : List ByteArray) : Prop := Els Value.string 9 w a l c xs

theorem keys_seq (B : Nat) (w0 : World) (bx m : Nat) (t : TypeId) (D : List (ByteArray × Nat)) (hbx : w0.heap[bx]? = some (.cells #[.map (some m)] t (0, 0))) (hB : bx < B) (hm : MapAt w0 m (kvL Value.string (dirL D))) (hmB : m < B) (N : Nat) (hN : D.length ≤ N) :
    SeqOf Try.prog (.func (.func 73) #[] #[.pointer (some ⟨bx, 0, none⟩)]) B w0 N (fun v => ∃ k, v = .string k) (fun xs => xs.Perm (D.map fun p => .string p.1)) := by
  refine ⟨⟨_, _, _, rfl⟩, ?_⟩
  intro J y w R hk hst hJ hy hend
  refine (ca73 y (some ⟨bx, 0, none⟩) w R ?_ : Ca _ _ _ _ _)
  obtain ⟨es, clock, hes, hkv, hn, hc⟩ := hm
  have hes' := hk.old m _ hes (.inl hmB)
  refine ⟨some m, by rw [cl (hk.old bx _ hbx (.inl hB))]; rfl, es, clock, hes', ?_⟩
  intro w3 e3
  have m3 : Mod no w w3 := by subst e3; exact Mod.alloc _ _
  have b3 : w3.heap[w.heap.size]? = some (.mapIter (some m) clock #[] clock) := by subst e3; exact new_at _ _
  clear e3
  have hlen : D.length = es.toList.length := by
    have := congrArg List.length hkv
    simpa [kvL, dirL] using this.symm
  have hkeys : es.toList.map (·.key) = D.map fun p => .string p.1 := by
    have := congrArg (List.map Prod.fst) hkv
    simpa [kvL, dirL, Function.comp_def] using this
  have hkey : ∀ e ∈ es.toList, ∃ k, e.key = .string k := by
    intro e he
    have : e.key ∈ D.map fun p => Value.string p.1 := by rw [← hkeys]; exact List.mem_map_of_mem he
    obtain ⟨p, _, hp⟩ := List.mem_map.1 this
    exact ⟨p.1, hp.symm⟩
  refine ⟨fun w' => ∃ (seen : Array Nat) (c0 : Nat) (got : List MapEntry), w'.heap[w.heap.size]? = some (.mapIter (some m) clock seen c0) ∧ clock ≤ c0 ∧ (got ++ (leftOf es seen).toList).Perm es.toList ∧ J (got.map (·.key)) w' ∧ Kp B w0 w',
    fun w' => match w'.heap[w.heap.size]? with | some (.mapIter _ _ seen _) => (leftOf es seen).size | _ => 0, ⟨#[], clock, [], b3, Nat.le_refl _, by simp only [leftOf, Array.toList_filter, List.nil_append]; exact .of_eq (List.filter_eq_self.2 (by simp)), hst.1 _ _ _ hJ m3, hk.trans (Kp.of_no m3)⟩, ?_⟩
  rintro _ w7 ⟨seen, c0, got, hit, hcc, hperm, hJ7, hk7⟩
  have hm7 := hk7.old m _ hes (.inl hmB)
  rcases next_at (P := Try.prog) (ty := 0) hit hm7 hc hcc with ⟨h0, hrun⟩ | ⟨e, he, w8, hrun, m8, hit8⟩
  · refine ⟨_, w7, hrun, .inl ⟨rfl, hend w7 _ ?_ hJ7 hk7⟩⟩
    have : (leftOf es seen).toList = [] := List.eq_nil_of_length_eq_zero (by simpa using h0)
    rw [this, List.append_nil] at hperm
    rw [← hkeys]
    exact hperm.map _
  · refine ⟨_, w8, hrun, .inr ⟨_, _, rfl, ?_⟩⟩
    have hmem := (mem_left he).1
    have hk8 : Kp B w0 w8 := by
      refine ⟨m8.os.trans hk7.os, m8.tape.trans hk7.tape, m8.output.trans hk7.output, Nat.le_trans hk7.size m8.size, fun k o ho hko => m8.at (hk7.old k o ho hko) fun hS => ?_⟩
      cases hS
      have := lt_of_heap ho
      have := hk.size
      omega
    have hm8 := hk8.old m _ hes (.inl hmB)
    refine ⟨e.key, e.val, entry_at hit8 hm8 hmem hn, ?_⟩
    obtain ⟨k, hkk⟩ := hkey e hmem
    rw [hkk]
    have hJ8 := hst.2 _ _ _ _ _ hJ7 hit rfl m8
    have hll : got.length < D.length := by
      have h1 := hperm.length_eq
      have h2 : 0 < (leftOf es seen).toList.length := List.length_pos_of_mem he
      rw [List.length_append] at h1
      omega
    refine hy _ (.string k) w8 hk8 hJ8 (by simpa using (by omega : got.length < N)) ⟨k, rfl⟩ _ fun w15 hk15 hJ15 => ⟨true, rfl, ?_⟩
    have hit15 := hk15.old _ _ hit8 (.inr rfl)
    refine ⟨⟨seen.push e.born, clock, got ++ [e], hit15, Nat.le_refl _, ?_, by rw [List.map_append]; simpa [hkk] using hJ15, hk8.trans hk15⟩, ?_⟩
    · rw [List.append_assoc]
      exact ((List.Perm.append_left got (left_perm hn he)).symm).trans hperm
    · simp only [hit15, hit]
      exact left_shrinks es seen e he

/-- Sorted(Keys(m)): a new row of the directory's names, rising. -/
theorem sortedKeys_ok (m : Nat) (D : List (ByteArray × Nat)) (w : World) (hm : MapAt w m (kvL Value.string (dirL D))) (hs : D.length < 1099511627776) :
    Ca Try.prog 50 #[.map (some m)] w (fun sv w1 => Mod no w w1 ∧ ∀ R : Value → World → Prop,
      (∀ w' a l c ys, Strs w' a l c ys → ys.Perm (D.map (·.1)) → Srt ys 0 l → Mod no w1 w' → (∀ k, rowB a k → w1.heap.size ≤ k) → R (.slice a l c) w') → Ca Try.prog 49 #[sv] w1 R) := by
  refine ca50 (some m) w _ ?_
  intro w1 e1
  have m1 : Mod no w w1 := by subst e1; exact Mod.alloc _ _
  have b1 : w1.heap[w.heap.size]? = some (.cells #[.map (some m)] 63 (0, 0)) := by subst e1; exact new_at _ _
  have s1 : w1.heap.size = w.heap.size + 1 := by subst e1; simp
  clear e1
  have hm1 := hm.mod m1 id
  have hmlt := hm.lt
  refine ⟨m1, fun R h => ?_⟩
  refine ca49 _ w1 R ?_
  refine ca71 _ w1 _ ?_
  refine Seqstring.appendSeq_ok _ D.length _ w1 (by omega) (keys_seq w1.heap.size w1 w.heap.size m 63 D b1 (by omega) hm1 (by omega) D.length (Nat.le_refl _)) _ ?_
  intro w2 a l c xs hperm ho m2 hnew
  refine ⟨a, l, c, rfl, a, l, c, rfl, ?_⟩
  obtain ⟨ys, hys, hyp⟩ : ∃ ys : List ByteArray, xs = ys.map .string ∧ ys.Perm (D.map (·.1)) := by
    have : ∀ (xs : List Value) (ts : List ByteArray), xs.Perm (ts.map Value.string) → ∃ ys : List ByteArray, xs = ys.map .string ∧ ys.Perm ts := by
      intro xs ts hp
      have hall : ∀ v ∈ xs, ∃ k, v = .string k := fun v hv => by
        obtain ⟨k, _, e⟩ := List.mem_map.1 (hp.mem_iff.1 hv)
        exact ⟨k, e.symm⟩
      let g : Value → ByteArray := fun v => match v with | .string n => n | _ => ByteArray.mk #[]
      refine ⟨xs.map g, ?_, ?_⟩
      · rw [List.map_map]
        conv => lhs; rw [← List.map_id xs]
        apply List.map_congr_left
        intro v hv
        obtain ⟨k, rfl⟩ := hall v hv
        rfl
      · have := hp.map g
        rw [List.map_map] at this
        simpa [g, Function.comp_def] using this
    refine this xs (D.map (·.1)) ?_
    rw [List.map_map]
    exact hperm
  subst hys
  have hl : l = D.length := by
    have h1 := (row_len ho).2.1
    have h2 := hyp.length_eq
    rw [List.length_map] at h1 h2
    omega
  refine Sortstring.sort_ok 9 a l c ys w2 ho (by omega) _ fun w3 zs hz hzp hsrt m3 => ⟨rfl, ?_⟩
  refine h w3 a l c zs hz (hzp.trans hyp) hsrt ?_ fun k hk => by have := hnew k hk; omega
  exact m2.new m3 fun k hk => by have := hnew k hk; omega

/-- The names that rise are these ones. -/
theorem sorted_unique {ys : List ByteArray} {D : List (ByteArray × Nat)} (hp : ys.Perm (D.map (·.1))) (hs : Srt ys 0 ys.length) (hr : Rises D) : ys = D.map (·.1) := by
  have hle : ∀ {xs : List ByteArray}, Srt xs 0 xs.length → xs.Pairwise (· ≤ ·) := by
    intro xs h
    rw [List.pairwise_iff_getElem]
    intro i j hi hj hij
    have := h i j (Nat.zero_le _) hij hj
    simpa [at0, hi, hj] using this
  have h1 := hle hs
  have h2 : (D.map (·.1)).Pairwise (· ≤ ·) := List.Pairwise.imp (fun h => Lin.lle h) hr
  refine List.Perm.eq_of_pairwise (le := fun a b => a ≤ b) ?_ h1 h2 hp
  intro a b _ _ hab hba
  exact str_tri hba hab
end Go.Proofs.Ytemklabamlifdaa

/- Contracts of the store's calls. -/
namespace Go.Proofs.Ytemklabamlifdaa
open Go Go.Proofs.Ytemklabamlifdaa.St

theorem ifNe {x y : Int} {A B : Prop} (h1 : x ≠ y → A) (h2 : x = y → B) : ifK (x != y) A B := ifK_of (fun h => h1 (by simpa using h)) (fun h => h2 (by simpa using h))

section
variable {w : World} {s : Nat} {F : Nat → Prop} {a : AS}

theorem new_ok (room : Int) (w : World) (R : Value → World → Prop) (h1 : (room < 0 ∨ 1073741824 < room) → R (.pointer none) w)
    (h2 : 0 ≤ room → room ≤ 1073741824 → ∀ w' s, Stt w' s (fun k => w.heap.size ≤ k) (AS.new room) → Mod no w w' → R (.pointer (some ⟨s, 0, none⟩)) w') : Ca Try.prog 13 #[.int .i64 room] w R := by
  refine ca13 room w R ?_
  refine ifK_dec (fun h => h1 (.inl h)) (fun hl => ifK_dec (fun h => h1 (.inr h)) (fun hr => ?_))
  intro w0 e0
  have m0 : Mod no w w0 := by subst e0; exact Mod.alloc _ _
  have n0 : MapAt w0 w.heap.size [] := by subst e0; exact MapAt.new w
  clear e0
  intro w1 e1
  have m1 : Mod no w0 w1 := by subst e1; exact Mod.alloc _ _
  have n1 : MapAt w1 w0.heap.size [] := by subst e1; exact MapAt.new w0
  clear e1
  intro w2 e2
  have m2 : Mod no w1 w2 := by subst e2; exact Mod.alloc _ _
  have c2 : w2.heap[w1.heap.size]? = some (.cells #[.int .i64 room, .map (some w.heap.size), .map (some w0.heap.size), .bool false, .int .i64 0, .int .i64 0, .int .i64 0] 65 (0, 0)) := by subst e2; exact new_at _ _
  clear e2
  have l0 := n0.lt
  have l1 := n1.lt
  have z0 := m0.size
  have z1 := m1.size
  have hnl : ∀ i, ¬ (AS.new room).Live i := by
    rintro i (⟨n, hn⟩ | ⟨n, hn⟩) <;> simp [AS.new] at hn
  exact h2 (by omega) (by omega) w2 _ ⟨w.heap.size, w0.heap.size, [], [], fun i => i, ⟨c2, (n0.mod m1 id).mod m2 id, n1.mod m2 id⟩, .refl _, .refl _, fun i hi => absurd hi (hnl i), fun i j hi => absurd hi (hnl i), by omega, AS.Ok.new (by omega) (by omega), (by omega : w.heap.size ≤ w1.heap.size), Nat.le_refl _, z0, fun i hi => absurd hi (hnl i)⟩ ((m0.trans m1).trans m2)

theorem power2_ok (h : Stt w s F a) (R : Value → World → Prop) (hR : R (.int .i64 (if a.dark then 9 else 0)) w) : Ca Try.prog 43 #[.pointer (some ⟨s, 0, none⟩)] w R :=
  let ⟨_, _, _, _, _, h⟩ := h
  power_ok s _ w h.st R hR
theorem on2_ok (h : Stt w s F a) (R : Value → World → Prop) (hR : R (.bool (!a.dark)) w) : Ca Try.prog 26 #[.pointer (some ⟨s, 0, none⟩)] w R :=
  let ⟨_, _, _, _, _, h⟩ := h
  on_ok s _ w h.st R hR
theorem fail2_ok (h : Stt w s F a) (keep : Int) (R : Value → World → Prop) (hR : ∀ w', StP s F w (a.fail keep) w' → R (.tuple #[]) w') : Ca Try.prog 18 #[.pointer (some ⟨s, 0, none⟩), .int .i64 keep] w R :=
  let ⟨_, _, _, _, _, h⟩ := h
  fail_ok h keep R hR

theorem power3_ok (h : Stt w s F a) (R : Value → World → Prop) (hR : ∀ w', StP s F w a.power w' → R (.tuple #[]) w') : Ca Try.prog 19 #[.pointer (some ⟨s, 0, none⟩)] w R := by
  obtain ⟨nb, sb, N, S, φ, h⟩ := h
  have hc := h.st.cell
  refine ca19 _ w R ?_
  refine (ifK_of (fun _ => ?_) (fun h => by cases h) : ifK true _ _)
  obtain ⟨q1, q2, q3, q4⟩ := setFile hc 3 (by simp) (.bool false)
  refine ⟨some nb, by rw [cl1 hc]; rfl, (ifK_of (fun _ => ?_) (fun h => by cases h) : ifK true _ _)⟩
  refine ⟨q1, q2, fun w4 e4 => ?_⟩
  rw [← e4] at q3 q4
  clear e4
  obtain ⟨r1, r2, r3, r4⟩ := setFile q4 5 (by simp) (.int .i64 0)
  refine ⟨r1, r2, fun w7 e7 => hR w7 ?_⟩
  rw [← e7] at r3 r4
  have m := q3.trans r3
  exact ⟨F, ⟨_, _, _, _, _, h.scal m a.power rfl rfl rfl rfl r4⟩, fun _ hk => .inl hk, m.mono fun k _ hk => by cases hk; exact h.fs⟩
theorem count_ok (h : Stt w s F a) (R : Value → World → Prop) (hR : R (.int .i64 a.count) w) : Ca Try.prog 29 #[.pointer (some ⟨s, 0, none⟩)] w R := by
  obtain ⟨nb, sb, N, S, φ, h⟩ := h
  refine ca29 _ w R ?_
  refine (ifK_of (fun h => by cases h) (fun _ => ?_) : ifK false _ _)
  exact ⟨a.count, by rw [cl1 h.st.cell]; rfl, hR⟩
theorem plan_ok (h : Stt w s F a) (n keep : Int) (R : Value → World → Prop) (hR : ∀ w', StP s F w (a.plan n keep).1 w' → R (.int .i64 (a.plan n keep).2) w') : Ca Try.prog 24 #[.pointer (some ⟨s, 0, none⟩), .int .i64 n, .int .i64 keep] w R := by
  have h0 := h
  obtain ⟨nb, sb, N, S, φ, h⟩ := h
  refine ca24 _ n keep w R ?_
  refine power2_ok h0 _ ⟨_, rfl, ?_⟩
  cases hd : a.dark with
  | true =>
    have hp : a.plan n keep = (a, 9) := by rw [AS.plan, if_pos hd]
    rw [hp] at hR
    exact (ifK_of (fun _ => hR w (StP.refl h0)) (fun h => by cases h) : ifK true _ _)
  | false =>
    refine (ifK_of (fun h => by cases h) (fun _ => ?_) : ifK false _ _)
    refine ifK_dec (fun hn => ?_) (fun hn => ?_)
    · have hp : a.plan n keep = (a, 2) := by rw [AS.plan, if_neg (by rw [hd]; simp), if_pos hn]
      rw [hp] at hR
      exact hR w (StP.refl h0)
    · have hp : a.plan n keep = ({ a with left := n, keep := keep }, 0) := by rw [AS.plan, if_neg (by rw [hd]; simp), if_neg hn]
      rw [hp] at hR
      have hc := h.st.cell
      obtain ⟨q1, q2, q3, q4⟩ := setFile hc 5 (by simp) (.int .i64 n)
      refine ⟨q1, q2, fun w4 e4 => ?_⟩
      rw [← e4] at q3 q4
      clear e4
      obtain ⟨r1, r2, r3, r4⟩ := setFile q4 6 (by simp) (.int .i64 keep)
      refine ⟨r1, r2, fun w7 e7 => hR w7 ?_⟩
      rw [← e7] at r3 r4
      have m := q3.trans r3
      exact ⟨F, ⟨_, _, _, _, _, h.scal m { a with left := n, keep := keep } rfl rfl rfl rfl r4⟩, fun _ hk => .inl hk, m.mono fun k _ hk => by cases hk; exact h.fs⟩

theorem used_ok (h : Stt w s F a) (R : Value → World → Prop) (hR : ∀ w', Mod no w w' → R (.int .i64 a.used) w') : Ca Try.prog 28 #[.pointer (some ⟨s, 0, none⟩)] w R := by
  have h0 := h
  obtain ⟨nb, sb, N, S, φ, h⟩ := h
  refine ca28 _ w R ?_
  refine on2_ok h0 _ ⟨_, rfl, ?_⟩
  cases hd : a.dark with
  | true =>
    have hp : a.used = 0 := by rw [AS.used, if_pos hd]
    rw [hp] at hR
    exact (ifK_of (fun _ => hR w (Mod.refl _ _)) (fun h => by cases h) : ifK true _ _)
  | false =>
    have hp : a.used = a.need := by rw [AS.used, if_neg (by rw [hd]; simp)]
    rw [hp] at hR
    refine (ifK_of (fun h => by cases h) (fun _ => ?_) : ifK false _ _)
    intro w3 e3
    have m3 : Mod no w w3 := by subst e3; exact Mod.drew _
    clear e3
    have h3 := h.no m3
    refine ⟨a.room, by rw [cl1 h3.st.cell]; rfl, ?_⟩
    refine free2_ok h3 _ fun w7 m7 => ⟨_, rfl, by rw [cl2 (h3.no m7).st.cell]; rfl, ?_⟩
    have hle := AS.need_le h.ok
    have hN := h.ok.dirN
    have h01 := h.ok.room0
    have h02 := h.ok.room1
    rw [wrap64 (by omega) (by omega), show a.room - (a.room - (a.need : Int)) = a.need by omega]
    exact hR w7 (m3.trans m7)

theorem names_ok (h : Stt w s F a) (R : Value → World → Prop) (hR : ∀ w' p l c, Strs w' p l c a.names → Mod no w w' → (∀ k, rowB p k → w.heap.size ≤ k) → R (.slice p l c) w') : Ca Try.prog 23 #[.pointer (some ⟨s, 0, none⟩)] w R := by
  have h0 := h
  obtain ⟨nb, sb, N, S, φ, h⟩ := h
  refine ca23 _ w R ?_
  refine on2_ok h0 _ ⟨_, rfl, ?_⟩
  cases hd : a.dark with
  | true =>
    have hp : a.names = [] := by rw [AS.names, if_pos hd]
    rw [hp] at hR
    exact (ifK_of (fun _ => hR w none 0 0 (Els.nil _ _) (Mod.refl _ _) (fun k hk => by simp [rowB] at hk)) (fun h => by cases h) : ifK true _ _)
  | false =>
    have hp : a.names = a.dir.map (·.1) := by rw [AS.names, if_neg (by rw [hd]; simp)]
    rw [hp] at hR
    refine (ifK_of (fun h => by cases h) (fun _ => ?_) : ifK false _ _)
    refine ⟨some nb, by rw [cl1 h.st.cell]; rfl, ?_⟩
    have hlen := h.len
    have hN := h.ok.dirN
    refine (sortedKeys_ok nb N w h.st.now (by omega)).mono fun v w1 ⟨m1, hk⟩ => ⟨_, rfl, ?_⟩
    refine hk _ fun w2 p l c ys hy hperm hsrt m2 hnew => ⟨p, l, c, rfl, ?_⟩
    have hnm : (N.map (·.1)).Perm (a.dir.map (·.1)) := by
      have := h.now.map (·.1)
      rwa [List.map_map] at this
    have hl := hy.len.1
    have he : ys = a.dir.map (·.1) := sorted_unique (hperm.trans hnm) (by rw [hl]; exact hsrt) h.ok.dirS
    subst he
    exact hR w2 p l c hy (m1.trans m2) fun k hk => Nat.le_trans m1.size (hnew k hk)

theorem read_ok (h : Stt w s F a) (name : ByteArray) (hn : name.size < 4611686018427387904) (R : Value → World → Prop)
    (hR : ∀ w' p l c, Els u8v 5 w' p l c (a.read name).1 → Mod no w w' → (∀ k, rowB p k → w.heap.size ≤ k) → R (.tuple #[.slice p l c, .int .i64 (a.read name).2]) w') : Ca Try.prog 20 #[.pointer (some ⟨s, 0, none⟩), .string name] w R := by
  obtain ⟨nb, sb, N, S, φ, h⟩ := h
  refine ca20 _ name w R ?_
  refine known2_ok h name hn _ (fun f hd hg hf w1 m1 => ?_) (fun hk w1 m1 => ?_)
  · refine ⟨_, _, rfl, (ifK_of (fun h => by cases h) (fun _ => ?_) : ifK false _ _)⟩
    obtain ⟨hk, hi⟩ := AS.known_of hd hg hf
    have hr : a.read name = ((a.file f).1, 0) := by rw [AS.read, if_pos hk, hi]
    rw [hr] at hR
    have h1 := h.no m1
    obtain ⟨pa, ca, pb, cb, hfc, ha, _⟩ := h1.file f (.inl ⟨name, dget_some hf⟩)
    have hfl := h.ok.flen f
    refine ⟨pa, _, ca, by rw [cl1 hfc]; rfl, ?_⟩
    exact clone8_ok (Rd.of_els ha) (by omega) _ fun w2 p c r2 m2 n2 => ⟨p, _, c, rfl, hR w2 p _ c r2 (m1.trans m2) fun k hk => Nat.le_trans m1.size (n2 k hk)⟩
  · refine ⟨_, _, rfl, ifNe (fun _ => ?_) (fun h => absurd h hk)⟩
    have hr : a.read name = ([], a.known name) := by rw [AS.read, if_neg hk]
    rw [hr] at hR
    exact hR w1 none 0 0 (Els.nil _ _) m1 fun k hk => by simp [rowB] at hk

theorem make_ok (h : Stt w s F a) (name : ByteArray) (hn : name.size < 4611686018427387904) (R : Value → World → Prop) (hR : ∀ w', StP s F w (a.make name).1 w' → R (.int .i64 (a.make name).2) w') :
    Ca Try.prog 14 #[.pointer (some ⟨s, 0, none⟩), .string name] w R := by
  have h0 := h
  obtain ⟨nb, sb, N, S, φ, h⟩ := h
  refine ca14 _ name w R ?_
  intro w0 e0
  have m0 : Mod no w w0 := by subst e0; exact Mod.alloc _ _
  have c0 : w0.heap[w.heap.size]? = some (.cells #[.pointer (some ⟨s, 0, none⟩)] 25 (0, 0)) := by subst e0; exact new_at _ _
  clear e0
  intro w1 e1
  have m1 : Mod no w0 w1 := by subst e1; exact Mod.alloc _ _
  have c1 : w1.heap[w0.heap.size]? = some (.cells #[.string name] 9 (0, 0)) := by subst e1; exact new_at _ _
  clear e1
  have c01 := m1.at' c0
  have m01 := m0.trans m1
  refine ⟨_, by rw [cl c01]; rfl, name, by rw [cl c1]; rfl, ?_⟩
  refine known2_ok (h.no m01) name hn _ (fun f hd hg hf w2 m2 => ?_) (fun hk w2 m2 => ?_)
  · refine ⟨_, _, rfl, (ifK_of (fun _ => ?_) (fun h => by cases h) : ifK true _ _)⟩
    obtain ⟨hk, hi⟩ := AS.known_of hd hg hf
    have hr : a.make name = (a, 4) := by rw [AS.make, if_pos hk]
    rw [hr] at hR
    exact hR w2 (StP.of_no h0 (m01.trans m2))
  · refine ⟨_, _, rfl, ifK_eq (fun h => absurd h hk) (fun _ => ?_)⟩
    refine ifNe (fun hne => ?_) (fun he => ?_)
    · have hr : a.make name = (a, a.known name) := by rw [AS.make, if_neg hk, if_neg hne]
      rw [hr] at hR
      exact hR w2 (StP.of_no h0 (m01.trans m2))
    · refine ⟨_, by rw [cl (m2.at' c01)]; rfl, ?_⟩
      have hgood : a.dark = false ∧ goodB name = true := by
        unfold AS.known at he
        split at he
        · cases he
        · split at he
          · cases he
          · rename_i h1 h2
            exact ⟨by simpa using h1, by simpa using h2⟩
      refine free2_ok ((h.no m01).no m2) _ fun w3 m3 => ⟨_, rfl, ifK_dec (fun hr => ?_) (fun hr => ?_)⟩
      · have hr' : a.make name = (a, 6) := by rw [AS.make, if_neg hk, if_pos he, if_pos hr]
        rw [hr'] at hR
        exact hR w3 (StP.of_no h0 ((m01.trans m2).trans m3))
      · have hr' : a.make name = a.counted fun a => { a with all := a.all ++ [([], [])], dir := dset name a.all.length a.dir } := by rw [AS.make, if_neg hk, if_pos he, if_neg hr]
        rw [hr'] at hR
        refine ⟨_, by rw [cl (m3.at' (m2.at' c01))]; rfl, ?_⟩
        have h3 := ((h.no m01).no m2).no m3
        refine counted_ok h3 _ _ (make1_does h3 (m3.at' (m2.at' c01)) (m3.at' (m2.at' c1)) hgood.2 hr) _ fun w4 hp => ⟨_, rfl, hR w4 (hp.pre ((m01.trans m2).trans m3))⟩

/-- A pointer that is put into a box of its own. -/
theorem boxF (p : Option Addr) (w2 : World) (K : World → Prop) (hK : ∀ w7, w7.heap[w2.heap.size]? = some (.cells #[.pointer p] 68 (0, 0)) → Mod no w2 w7 → K w7) :
    atW (w2.alloc (.cells #[.pointer none] 68)) fun w5 => (∃ v6 : Value, w5.cell? (Addr.add ⟨w2.heap.size, 0, none⟩ 0) = some v6) ∧ w5.frozen? (Addr.add ⟨w2.heap.size, 0, none⟩ 0) = false ∧ atW (w5.setCell (Addr.add ⟨w2.heap.size, 0, none⟩ 0) (.pointer p)) fun w7 => K w7 := by
  intro w5 e5
  have m5 : Mod no w2 w5 := by subst e5; exact Mod.alloc _ _
  have b5 : w5.heap[w2.heap.size]? = some (.cells #[.pointer none] 68 (0, 0)) := by subst e5; exact new_at _ _
  clear e5
  refine ⟨⟨_, by rw [cl1 b5]; rfl⟩, fz1 b5 _, fun w7 e7 => ?_⟩
  have m7 : Mod (on w2.heap.size) w5 w7 := by subst e7; exact Mod.set1 _ _ _ _
  have b7 : w7.heap[w2.heap.size]? = some (.cells #[.pointer p] 68 (0, 0)) := by subst e7; rw [set1 b5]; rfl
  exact hK w7 b7 (m5.new m7 fun k hk => by cases hk; exact Nat.le_refl _)

theorem write_ok (h : Stt w s F a) (name : ByteArray) (hn : name.size < 4611686018427387904) {ba : Option Addr} {bl bc : Nat} {bs : Bs} (hb : Rd w ba bl bc bs) (hbF : 0 < bl → ∀ k, rowB ba k → ¬ F k) (R : Value → World → Prop)
    (hR : ∀ w', StP s F w (a.write name bs).1 w' → R (.int .i64 (a.write name bs).2) w') : Ca Try.prog 15 #[.pointer (some ⟨s, 0, none⟩), .string name, .slice ba bl bc] w R := by
  have h0 := h
  obtain ⟨nb, sb, N, S, φ, h⟩ := h
  have hbl := hb.len
  refine ca15 _ name ba bl bc w R ?_
  intro w0 e0
  have m0 : Mod no w w0 := by subst e0; exact Mod.alloc _ _
  have c0 : w0.heap[w.heap.size]? = some (.cells #[.slice ba bl bc] 24 (0, 0)) := by subst e0; exact new_at _ _
  clear e0
  refine known2_ok (h.no m0) name hn _ (fun f hd hg hf w2 m2 => ⟨_, _, rfl, boxF _ w2 _ fun w7 b7 m7 => ?_⟩) (fun hk w2 m2 => ⟨_, _, rfl, boxF _ w2 _ fun w7 b7 m7 => ?_⟩)
  · refine (ifK_of (fun h => by cases h) (fun _ => ?_) : ifK false _ _)
    obtain ⟨hk, hi⟩ := AS.known_of hd hg hf
    intro w8 e8
    have m8 : Mod no w0 w8 := by subst e8; exact (m2.trans m7).trans (Mod.drew _)
    have b8 : w8.heap[w2.heap.size]? = some (.cells #[.pointer (some ⟨φ f, 0, none⟩)] 68 (0, 0)) := by subst e8; exact b7
    clear e8
    refine ⟨ba, bl, bc, by rw [cl (m8.at' c0)]; rfl, ?_⟩
    have h8 := (h.no m0).no m8
    refine free2_ok h8 _ fun w9 m9 => ⟨_, rfl, by rw [cl1 (m9.at' (m8.at' c0))]; rfl, ifK_dec (fun hr => ?_) (fun hr => ?_)⟩
    · have hr' : a.write name bs = (a, 6) := by rw [AS.write, if_pos hk, if_pos (by omega)]
      rw [hr'] at hR
      exact hR w9 (StP.of_no h0 ((m0.trans m8).trans m9))
    · have hr' : a.write name bs = a.counted fun a => a.upd (a.idx name) fun x => (x.1 ++ bs, x.2) := by rw [AS.write, if_pos hk, if_neg (by omega)]
      rw [hr'] at hR
      have h9 := h8.no m9
      refine counted_ok h9 _ _ (write1_does h9 hf (m9.at' b8) (m9.at' (m8.at' c0)) (hb.no ((m0.trans m8).trans m9)) hbF (by omega)) _ fun w10 hp => ⟨_, rfl, hR w10 (hp.pre ((m0.trans m8).trans m9))⟩
  · refine ifNe (fun _ => ?_) (fun h => absurd h hk)
    have hr' : a.write name bs = (a, a.known name) := by rw [AS.write, if_neg hk]
    rw [hr'] at hR
    exact hR w7 (StP.of_no h0 ((m0.trans m2).trans m7))

theorem cut_ok (h : Stt w s F a) (name : ByteArray) (hn : name.size < 4611686018427387904) (n : Int) (R : Value → World → Prop)
    (hR : ∀ w', StP s F w (a.cut name n).1 w' → R (.int .i64 (a.cut name n).2) w') : Ca Try.prog 30 #[.pointer (some ⟨s, 0, none⟩), .string name, .int .i64 n] w R := by
  have h0 := h
  obtain ⟨nb, sb, N, S, φ, h⟩ := h
  refine ca30 _ name n w R ?_
  intro w0 e0
  have m0 : Mod no w w0 := by subst e0; exact Mod.alloc _ _
  have c0 : w0.heap[w.heap.size]? = some (.cells #[.int .i64 n] 3 (0, 0)) := by subst e0; exact new_at _ _
  clear e0
  refine known2_ok (h.no m0) name hn _ (fun f hd hg hf w2 m2 => ⟨_, _, rfl, boxF _ w2 _ fun w7 b7 m7 => ?_⟩) (fun hk w2 m2 => ⟨_, _, rfl, boxF _ w2 _ fun w7 b7 m7 => ?_⟩)
  · refine (ifK_of (fun h => by cases h) (fun _ => ?_) : ifK false _ _)
    obtain ⟨hk, hi⟩ := AS.known_of hd hg hf
    intro w8 e8
    have m8 : Mod no w0 w8 := by subst e8; exact (m2.trans m7).trans (Mod.drew _)
    have b8 : w8.heap[w2.heap.size]? = some (.cells #[.pointer (some ⟨φ f, 0, none⟩)] 68 (0, 0)) := by subst e8; exact b7
    clear e8
    have h8 := (h.no m0).no m8
    have m08 := m0.trans m8
    have bad : (n < 0 ∨ n > a.len f) → R (.int .i64 2) w8 := fun hb => by
      have hr' : a.cut name n = (a, 2) := by rw [AS.cut, if_pos hk, hi, if_pos hb]
      rw [hr'] at hR
      exact hR w8 (StP.of_no h0 m08)
    obtain ⟨pa, ca, pb, cb, hfc, _⟩ := h8.file f (.inl ⟨name, dget_some hf⟩)
    refine ⟨n, by rw [cl (m8.at' c0)]; rfl, ifK_dec (fun hr => bad (.inl hr)) (fun hr => ?_)⟩
    refine ⟨n, by rw [cl (m8.at' c0)]; rfl, some ⟨φ f, 0, none⟩, by rw [cl b8]; rfl, pa, _, ca, by rw [cl1 hfc]; rfl, ifK_dec (fun hr => bad (.inr hr)) (fun hr2 => ?_)⟩
    have hno : ¬ (n < 0 ∨ n > a.len f) := fun h => h.elim hr hr2
    have hr' : a.cut name n = a.counted fun a => a.upd (a.idx name) fun x => (x.1.take n.toNat, x.2) := by rw [AS.cut, if_pos hk, hi, if_neg hno]
    rw [hr'] at hR
    refine counted_ok h8 _ _ (cut1_does h8 hf b8 (m8.at' c0) hno) _ fun w10 hp => ⟨_, rfl, hR w10 (hp.pre m08)⟩
  · refine ifNe (fun _ => ?_) (fun h => absurd h hk)
    have hr' : a.cut name n = (a, a.known name) := by rw [AS.cut, if_neg hk]
    rw [hr'] at hR
    exact hR w7 (StP.of_no h0 ((m0.trans m2).trans m7))

theorem sync_ok (h : Stt w s F a) (name : ByteArray) (hn : name.size < 4611686018427387904) (R : Value → World → Prop)
    (hR : ∀ w', StP s F w (a.sync name).1 w' → R (.int .i64 (a.sync name).2) w') : Ca Try.prog 16 #[.pointer (some ⟨s, 0, none⟩), .string name] w R := by
  have h0 := h
  obtain ⟨nb, sb, N, S, φ, h⟩ := h
  refine ca16 _ name w R ?_
  refine known2_ok h name hn _ (fun f hd hg hf w2 m2 => ⟨_, _, rfl, boxF _ w2 _ fun w7 b7 m7 => ?_⟩) (fun hk w2 m2 => ⟨_, _, rfl, boxF _ w2 _ fun w7 b7 m7 => ?_⟩)
  · refine (ifK_of (fun h => by cases h) (fun _ => ?_) : ifK false _ _)
    obtain ⟨hk, hi⟩ := AS.known_of hd hg hf
    have h7 := h.no (m2.trans m7)
    have hr' : a.sync name = a.counted fun a => a.upd (a.idx name) fun x => (x.1, x.1) := by rw [AS.sync, if_pos hk]
    rw [hr'] at hR
    refine counted_ok h7 _ _ (sync1_does h7 hf b7) _ fun w10 hp => ⟨_, rfl, hR w10 (hp.pre (m2.trans m7))⟩
  · refine ifNe (fun _ => ?_) (fun h => absurd h hk)
    have hr' : a.sync name = (a, a.known name) := by rw [AS.sync, if_neg hk]
    rw [hr'] at hR
    exact hR w7 (StP.of_no h0 (m2.trans m7))

theorem drop_ok (h : Stt w s F a) (name : ByteArray) (hn : name.size < 4611686018427387904) (R : Value → World → Prop)
    (hR : ∀ w', StP s F w (a.drop name).1 w' → R (.int .i64 (a.drop name).2) w') : Ca Try.prog 31 #[.pointer (some ⟨s, 0, none⟩), .string name] w R := by
  have h0 := h
  obtain ⟨nb, sb, N, S, φ, h⟩ := h
  refine ca31 _ name w R ?_
  intro w0 e0
  have m0 : Mod no w w0 := by subst e0; exact Mod.alloc _ _
  have c0 : w0.heap[w.heap.size]? = some (.cells #[.pointer (some ⟨s, 0, none⟩)] 25 (0, 0)) := by subst e0; exact new_at _ _
  clear e0
  intro w1 e1
  have m1 : Mod no w0 w1 := by subst e1; exact Mod.alloc _ _
  have c1 : w1.heap[w0.heap.size]? = some (.cells #[.string name] 9 (0, 0)) := by subst e1; exact new_at _ _
  clear e1
  have c01 := m1.at' c0
  have m01 := m0.trans m1
  refine ⟨_, by rw [cl c01]; rfl, name, by rw [cl c1]; rfl, ?_⟩
  refine known2_ok (h.no m01) name hn _ (fun f hd hg hf w2 m2 => ⟨_, _, rfl, ?_⟩) (fun hk w2 m2 => ⟨_, _, rfl, ?_⟩)
  · refine (ifK_of (fun h => by cases h) (fun _ => ?_) : ifK false _ _)
    obtain ⟨hk, hi⟩ := AS.known_of hd hg hf
    have h2 := (h.no m01).no m2
    have hr' : a.drop name = a.counted fun a => { a with dir := ddel name a.dir } := by rw [AS.drop, if_pos hk]
    rw [hr'] at hR
    refine ⟨_, by rw [cl (m2.at' c01)]; rfl, ?_⟩
    refine counted_ok h2 _ _ (drop1_does h2 (m2.at' c01) (m2.at' c1)) _ fun w10 hp => ⟨_, rfl, hR w10 (hp.pre (m01.trans m2))⟩
  · refine ifNe (fun _ => ?_) (fun h => absurd h hk)
    have hr' : a.drop name = (a, a.known name) := by rw [AS.drop, if_neg hk]
    rw [hr'] at hR
    exact hR w2 (StP.of_no h0 (m01.trans m2))

theorem commit_ok (h : Stt w s F a) (R : Value → World → Prop) (hR : ∀ w', StP s F w a.commit.1 w' → R (.int .i64 a.commit.2) w') : Ca Try.prog 17 #[.pointer (some ⟨s, 0, none⟩)] w R := by
  have h0 := h
  obtain ⟨nb, sb, N, S, φ, h⟩ := h
  refine ca17 _ w R ?_
  intro w0 e0
  have m0 : Mod no w w0 := by subst e0; exact Mod.alloc _ _
  have c0 : w0.heap[w.heap.size]? = some (.cells #[.pointer (some ⟨s, 0, none⟩)] 25 (0, 0)) := by subst e0; exact new_at _ _
  clear e0
  refine ⟨_, by rw [cl c0]; rfl, power2_ok (h0.no m0) _ ⟨_, rfl, ?_⟩⟩
  cases hd : a.dark with
  | true =>
    have hp : a.commit = (a, 9) := by rw [AS.commit, if_pos hd]
    rw [hp] at hR
    exact (ifK_of (fun _ => hR w0 (StP.of_no h0 m0)) (fun h => by cases h) : ifK true _ _)
  | false =>
    refine (ifK_of (fun h => by cases h) (fun _ => ?_) : ifK false _ _)
    have hp : a.commit = a.counted fun a => { a with sure := a.dir } := by rw [AS.commit, if_neg (by rw [hd]; simp)]
    rw [hp] at hR
    refine ⟨_, by rw [cl c0]; rfl, ?_⟩
    have h1 := h.no m0
    refine counted_ok h1 _ _ (commit1_does h1 c0) _ fun w10 hp => ⟨_, rfl, hR w10 (hp.pre m0)⟩

theorem move_ok (h : Stt w s F a) (name to : ByteArray) (hn : name.size < 4611686018427387904) (ht : to.size < 4611686018427387904) (R : Value → World → Prop)
    (hR : ∀ w', StP s F w (a.move name to).1 w' → R (.int .i64 (a.move name to).2) w') : Ca Try.prog 25 #[.pointer (some ⟨s, 0, none⟩), .string name, .string to] w R := by
  have h0 := h
  obtain ⟨nb, sb, N, S, φ, h⟩ := h
  refine ca25 _ name to w R ?_
  intro w0 e0
  have m0 : Mod no w w0 := by subst e0; exact Mod.alloc _ _
  have c0 : w0.heap[w.heap.size]? = some (.cells #[.pointer (some ⟨s, 0, none⟩)] 25 (0, 0)) := by subst e0; exact new_at _ _
  clear e0
  intro w1 e1
  have m1 : Mod no w0 w1 := by subst e1; exact Mod.alloc _ _
  have c1 : w1.heap[w0.heap.size]? = some (.cells #[.string name] 9 (0, 0)) := by subst e1; exact new_at _ _
  clear e1
  intro w2 e2
  have m2 : Mod no w1 w2 := by subst e2; exact Mod.alloc _ _
  have c2 : w2.heap[w1.heap.size]? = some (.cells #[.string to] 9 (0, 0)) := by subst e2; exact new_at _ _
  clear e2
  have c02 := m2.at' (m1.at' c0)
  have c12 := m2.at' c1
  have m02 := (m0.trans m1).trans m2
  refine ⟨_, by rw [cl c02]; rfl, name, by rw [cl c12]; rfl, ?_⟩
  refine known2_ok (h.no m02) name hn _ (fun f hd hg hf w3 m3 => ⟨_, _, rfl, boxF _ w3 _ fun w7 b7 m7 => ?_⟩) (fun hk w3 m3 => ⟨_, _, rfl, boxF _ w3 _ fun w7 b7 m7 => ?_⟩)
  · refine (ifK_of (fun _ => ?_) (fun h => by cases h) : ifK true _ _)
    refine (ifK_of (fun _ => ?_) (fun h => by cases h) : ifK true _ _)
    have m37 := m3.trans m7
    refine ⟨to, by rw [cl (m37.at' c2)]; rfl, good_ok to w7 ht _ fun w8 m8 => ⟨_, rfl, ifK_not (fun hgt => ?_) (fun hgt => ?_)⟩⟩
    · have hr' : a.move name to = (a, 2) := by rw [AS.move, if_neg (by rw [hd]; simp), if_pos (.inr hgt)]
      rw [hr'] at hR
      exact hR w8 (StP.of_no h0 ((m02.trans m37).trans m8))
    · refine (ifK_of (fun h => by cases h) (fun _ => ?_) : ifK false _ _)
      have hr' : a.move name to = a.counted fun a => { a with dir := dset to (a.idx name) (ddel name a.dir) } := by
        rw [AS.move, if_neg (by rw [hd]; simp), if_neg (by rw [hg, hgt]; simp), if_neg (by rw [hf]; simp)]
      rw [hr'] at hR
      have m38 := m37.trans m8
      refine ⟨_, by rw [cl (m38.at' c02)]; rfl, ?_⟩
      have h8 := (h.no m02).no m38
      refine counted_ok h8 _ _ (move1_does h8 hf hgt (m38.at' c02) (m38.at' c12) (m8.at' b7) (m38.at' c2)) _ fun w10 hp => ⟨_, rfl, hR w10 (hp.pre (m02.trans m38))⟩
  · have m37 := m3.trans m7
    rcases AS.known_cases a name with h9 | h2 | h3 | hz
    · rw [h9]
      refine (ifK_of (fun _ => ?_) (fun h => by cases h) : ifK true _ _)
      refine (ifK_of (fun h => by cases h) (fun _ => ?_) : ifK false _ _)
      refine (ifK_of (fun _ => ?_) (fun h => by cases h) : ifK true _ _)
      have hd : a.dark = true := by
        unfold AS.known at h9
        split at h9
        · assumption
        · split at h9
          · cases h9
          · split at h9 <;> cases h9
      have hr' : a.move name to = (a, 9) := by rw [AS.move, if_pos hd]
      rw [hr'] at hR
      exact hR w7 (StP.of_no h0 (m02.trans m37))
    · have hd : ¬ a.dark = true ∧ goodB name = false := by
        unfold AS.known at h2
        split at h2
        · cases h2
        · split at h2
          · exact ⟨by assumption, by assumption⟩
          · split at h2 <;> cases h2
      have hr' : a.move name to = (a, 2) := by rw [AS.move, if_neg hd.1, if_pos (.inl hd.2)]
      rw [hr'] at hR
      rw [h2]
      refine (ifK_of (fun _ => ?_) (fun h => by cases h) : ifK true _ _)
      refine (ifK_of (fun _ => ?_) (fun h => by cases h) : ifK true _ _)
      refine ⟨to, by rw [cl (m37.at' c2)]; rfl, good_ok to w7 ht _ fun w8 m8 => ⟨_, rfl, ifK_not (fun _ => ?_) (fun _ => ?_)⟩⟩
      · exact hR w8 (StP.of_no h0 ((m02.trans m37).trans m8))
      · refine (ifK_of (fun _ => ?_) (fun h => by cases h) : ifK true _ _)
        exact hR w8 (StP.of_no h0 ((m02.trans m37).trans m8))
    · have hd : ¬ a.dark = true ∧ goodB name = true ∧ dget a.dir name = none := by
        unfold AS.known at h3
        split at h3
        · cases h3
        · split at h3
          · cases h3
          · split at h3
            · rename_i h1 h2 h4
              exact ⟨h1, by simpa using h2, h4⟩
            · cases h3
      rw [h3]
      refine (ifK_of (fun _ => ?_) (fun h => by cases h) : ifK true _ _)
      refine (ifK_of (fun _ => ?_) (fun h => by cases h) : ifK true _ _)
      refine ⟨to, by rw [cl (m37.at' c2)]; rfl, good_ok to w7 ht _ fun w8 m8 => ⟨_, rfl, ifK_not (fun hgt => ?_) (fun hgt => ?_)⟩⟩
      · have hr' : a.move name to = (a, 2) := by rw [AS.move, if_neg hd.1, if_pos (.inr hgt)]
        rw [hr'] at hR
        exact hR w8 (StP.of_no h0 ((m02.trans m37).trans m8))
      · have hr' : a.move name to = (a, 3) := by rw [AS.move, if_neg hd.1, if_neg (by rw [hd.2.1, hgt]; simp), if_pos hd.2.2]
        rw [hr'] at hR
        refine (ifK_of (fun _ => ?_) (fun h => by cases h) : ifK true _ _)
        exact hR w8 (StP.of_no h0 ((m02.trans m37).trans m8))
    · exact absurd hz hk
end
end Go.Proofs.Ytemklabamlifdaa

/- The formulas of functions, printed by a program of mine (gen.py) out of the translation. -/
namespace Go.Proofs.Ytemklabamlifdaa
open Go Go.Proofs.Ytemklabamlifdaa.St
set_option maxRecDepth 100000

/-- staith/staithref11.New -/
noncomputable def C32 : Code := (Try.f32.body).getD .skip
def pl32 : Nat → Plan := fun _ => .done
def ls32 : Nat → List (Nat × LT) := fun _ => []
def W32 (room : Int) (w : World) (R : Value → World → Prop) : Prop :=
  (ifK (decide (room < 0))
    (R (Value.pointer none) (w))
    (ifK (decide (room > 1073741824))
      (R (Value.pointer none) (w))
      (atW (World.alloc w (Obj.cells (Array.mk [Value.int IntKind.i64 room, Value.slice none 0 0, Value.slice none 0 0, Value.slice none 0 0, Value.bool false, Value.int IntKind.i64 0, Value.int IntKind.i64 0, Value.int IntKind.i64 0]) 60 (0, 0))) (fun w0 =>
        (R (Value.pointer (some (Addr.mk (Array.size (World.heap w)) 0 none))) (w0))))))
theorem ca32 (room : Int) (w : World) (R : Value → World → Prop) (h : W32 room w R) : Ca Try.prog 32 ⟨[(.int .i64 room)]⟩ w R := by
  have h1 : Try.prog.follows .mixedOrders = true := by kernel_rfl
  have h2 : Try.f32.body = some C32 := by kernel_rfl
  have h3 : (Try.f32.name == "runtime.NumGoroutine") = false := by kernel_rfl
  have h6 : Try.f32.results.toList = [.tmp 2] := by kernel_rfl
  have h4 : Nat.ble 1 12 = true := by kernel_rfl
  have h5 : okCode 12 pl32 ls32 C32 0 = true := by kernel_rfl
  have e : W32 room w R = wpC none Try.prog 12 pl32 ls32 C32 0 (endP Try.prog [.tmp 2] R) (fr0 [(.int .i64 room)]) [] w := by kernel_rfl
  exact ca_of' (P := Try.prog) (g := 32) (fn := Try.f32) (c := C32) (m := 12) (rs := [.tmp 2]) (args := [(.int .i64 room)]) (pl := pl32) (ls := ls32) (w := w) (R := R) h1 Try.func32 h2 Try.ntmps32 h6 h3 h4 h5 (Eq.mp e h)

/-- (*staith/staithref11.Store).Names -/
noncomputable def C34 : Code := (Try.f34.body).getD .skip
def pl34 : Nat → Plan := fun _ => .done
def ls34 : Nat → List (Nat × LT)
  | 4 => [(3, (.one .slice)), (11, (.one (.int .i64)))]
  | _ => []
def W34 (s : Option Addr) (w : World) (R : Value → World → Prop) : Prop :=
  (onP (s) (fun a0 =>
    (∃ p1 : Option Addr, (∃ n2 : Nat, (∃ n3 : Nat, ((World.cell? w (Addr.add a0 2) = some (Value.slice p1 n2 n3)) ∧ (∃ z4 : Option Addr → Nat → Nat → Int → World → Prop, (∃ z5 : Option Addr → Nat → Nat → Int → World → Nat, ((z4 (none) (0) (0) (0) (w)) ∧ (∀ (_ : Nat → Value), (∀ (p7 : Option Addr), (∀ (n8 : Nat), (∀ (n9 : Nat), (∀ (x10 : Int), (∀ (w11 : World), ((z4 (p7) (n8) (n9) (x10) (w11)) → (ifK (decide (x10 < (↑n2 : Int)))
      (∃ a12 : Addr, ((p1 = some a12) ∧ (((0 : Int) ≤ x10) ∧ (((x10 : Int) < (↑n2 : Int)) ∧ (∃ s13 : ByteArray, ((World.cell? w11 (Addr.add (Addr.add a12 (Int.toNat x10 * 2)) 0) = some (Value.string s13)) ∧ (∃ x14 : Int, ((World.cell? w11 (Addr.add (Addr.add a12 (Int.toNat x10 * 2)) 1) = some (Value.int IntKind.i64 x14)) ∧ (atW (World.alloc w11 (Obj.cells (Array.mk [Value.string (ByteArray.mk #[]), Value.int IntKind.i64 0]) 94 (0, 0))) (fun w15 =>
        ((∃ v16 : Value, (World.cell? w15 (Addr.add (Addr.mk (Array.size (World.heap w11)) 0 none) 0) = some v16)) ∧ ((World.frozen? w15 (Addr.add (Addr.mk (Array.size (World.heap w11)) 0 none) 0) = false) ∧ (atW (World.setCell w15 (Addr.add (Addr.mk (Array.size (World.heap w11)) 0 none) 0) (Value.string s13)) (fun w17 =>
          ((∃ v18 : Value, (World.cell? w17 (Addr.add (Addr.mk (Array.size (World.heap w11)) 0 none) 1) = some v18)) ∧ ((World.frozen? w17 (Addr.add (Addr.mk (Array.size (World.heap w11)) 0 none) 1) = false) ∧ (atW (World.setCell w17 (Addr.add (Addr.mk (Array.size (World.heap w11)) 0 none) 1) (Value.int IntKind.i64 x14)) (fun w19 =>
            (onP (s) (fun a20 =>
              (∃ b21 : Bool, ((World.cell? w19 (Addr.add a20 4) = some (Value.bool b21)) ∧ (ifK (!b21)
                (∃ s22 : ByteArray, ((World.cell? w19 (Addr.add (Addr.mk (Array.size (World.heap w11)) 0 none) 0) = some (Value.string s22)) ∧ (atW (World.alloc w19 (Obj.cells (Array.mk [Value.string s22]) 9 (0, 0))) (fun w23 =>
                  (∃ v24 : Value, (∃ w25 : World, ((Sem.run Try.prog (Builtin.append_ (Array.mk [36, 36]) 36 (Array.mk [Value.slice p7 n8 n9, Value.slice (some (Addr.mk (Array.size (World.heap w19)) 0 none)) 1 1])) w23 = Result.ok v24 w25) ∧ (∃ p26 : Option Addr, (∃ n27 : Nat, (∃ n28 : Nat, ((v24 = Value.slice p26 n27 n28) ∧ ((z4 (p26) (n27) (n28) (IntKind.wrap IntKind.i64 (x10 + 1)) (w25)) ∧ (z5 p26 n27 n28 (IntKind.wrap IntKind.i64 (x10 + 1)) w25 < z5 p7 n8 n9 x10 w11)))))))))))))
                ((z4 (p7) (n8) (n9) (IntKind.wrap IntKind.i64 (x10 + 1)) (w19)) ∧ (z5 p7 n8 n9 (IntKind.wrap IntKind.i64 (x10 + 1)) w19 < z5 p7 n8 n9 x10 w11)))))))))))))))))))))))))
      (R (Value.slice p7 n8 n9) (w11)))))))))))))))))))
theorem ca34 (s : Option Addr) (w : World) (R : Value → World → Prop) (h : W34 s w R) : Ca Try.prog 34 ⟨[(.pointer s)]⟩ w R := by
  have h1 : Try.prog.follows .mixedOrders = true := by kernel_rfl
  have h2 : Try.f34.body = some C34 := by kernel_rfl
  have h3 : (Try.f34.name == "runtime.NumGoroutine") = false := by kernel_rfl
  have h6 : Try.f34.results.toList = [.tmp 2] := by kernel_rfl
  have h4 : Nat.ble 1 27 = true := by kernel_rfl
  have h5 : okCode 27 pl34 ls34 C34 0 = true := by kernel_rfl
  have e : W34 s w R = wpC none Try.prog 27 pl34 ls34 C34 0 (endP Try.prog [.tmp 2] R) (fr0 [(.pointer s)]) [] w := by kernel_rfl
  exact ca_of' (P := Try.prog) (g := 34) (fn := Try.f34) (c := C34) (m := 27) (rs := [.tmp 2]) (args := [(.pointer s)]) (pl := pl34) (ls := ls34) (w := w) (R := R) h1 Try.func34 h2 Try.ntmps34 h6 h3 h4 h5 (Eq.mp e h)

/-- (*staith/staithref11.Store).Used -/
noncomputable def C35 : Code := (Try.f35.body).getD .skip
def pl35 : Nat → Plan := fun _ => .done
def ls35 : Nat → List (Nat × LT) := fun _ => []
def W35 (s : Option Addr) (w : World) (R : Value → World → Prop) : Prop :=
  (onP (s) (fun a0 =>
    (∃ b1 : Bool, ((World.cell? w (Addr.add a0 4) = some (Value.bool b1)) ∧ (ifK (b1)
      (R (Value.int IntKind.i64 0) (w))
      (Ca Try.prog (67) (Array.mk [Value.pointer s]) (w) (fun v2 => (fun w3 =>
        (∃ x4 : Int, ((v2 = Value.int IntKind.i64 x4) ∧ (R (Value.int IntKind.i64 x4) (w3))))))))))))
theorem ca35 (s : Option Addr) (w : World) (R : Value → World → Prop) (h : W35 s w R) : Ca Try.prog 35 ⟨[(.pointer s)]⟩ w R := by
  have h1 : Try.prog.follows .mixedOrders = true := by kernel_rfl
  have h2 : Try.f35.body = some C35 := by kernel_rfl
  have h3 : (Try.f35.name == "runtime.NumGoroutine") = false := by kernel_rfl
  have h6 : Try.f35.results.toList = [.tmp 2] := by kernel_rfl
  have h4 : Nat.ble 1 9 = true := by kernel_rfl
  have h5 : okCode 9 pl35 ls35 C35 0 = true := by kernel_rfl
  have e : W35 s w R = wpC none Try.prog 9 pl35 ls35 C35 0 (endP Try.prog [.tmp 2] R) (fr0 [(.pointer s)]) [] w := by kernel_rfl
  exact ca_of' (P := Try.prog) (g := 35) (fn := Try.f35) (c := C35) (m := 9) (rs := [.tmp 2]) (args := [(.pointer s)]) (pl := pl35) (ls := ls35) (w := w) (R := R) h1 Try.func35 h2 Try.ntmps35 h6 h3 h4 h5 (Eq.mp e h)

/-- (*staith/staithref11.Store).Make -/
noncomputable def C54 : Code := (Try.f54.body).getD .skip
def pl54 : Nat → Plan
  | 6 => (.quiet 0 (.quiet 1 (.quiet 2 (.quiet 3 (.quiet 4 (.eff 5 [3] (.quiet 6 (.quiet 7 .done))))))))
  | _ => .done
def ls54 : Nat → List (Nat × LT) := fun _ => []
def W54 (s : Option Addr) (name : ByteArray) (w : World) (R : Value → World → Prop) : Prop :=
  (Ca Try.prog (74) (Array.mk [Value.pointer s, Value.string name, Value.bool false]) (w) (fun v0 => (fun w1 =>
    (∃ x2 : Int, ((v0 = Value.int IntKind.i64 x2) ∧ (ifK (x2 != 0)
      (R (Value.int IntKind.i64 x2) (w1))
      (Ca Try.prog (75) (Array.mk [Value.pointer s, Value.string name]) (w1) (fun v3 => (fun w4 =>
        (∃ x5 : Int, ((v3 = Value.int IntKind.i64 x5) ∧ (ifK (decide (x5 ≥ 0))
          (R (Value.int IntKind.i64 4) (w4))
          (atW (World.drew w4) (fun w6 =>
            (onP (s) (fun a7 =>
              (∃ x8 : Int, ((World.cell? w6 (Addr.add a7 0) = some (Value.int IntKind.i64 x8)) ∧ (Ca Try.prog (67) (Array.mk [Value.pointer s]) (w6) (fun v9 => (fun w10 =>
                (∃ x11 : Int, ((v9 = Value.int IntKind.i64 x11) ∧ ((World.cell? w10 (Addr.add (Addr.add a7 0) 0) = some (Value.int IntKind.i64 x8)) ∧ (ifK (decide (IntKind.wrap IntKind.i64 (x8 - x11) < 16))
                  (R (Value.int IntKind.i64 6) (w10))
                  (Ca Try.prog (76) (Array.mk [Value.pointer s]) (w10) (fun v12 => (fun w13 =>
                    (∃ b14 : Bool, ((v12 = Value.bool b14) ∧ (ifK (b14)
                      (R (Value.int IntKind.i64 9) (w13))
                      (onP (s) (fun a15 =>
                        (∃ p16 : Option Addr, (∃ n17 : Nat, (∃ n18 : Nat, ((World.cell? w13 (Addr.add a15 1) = some (Value.slice p16 n17 n18)) ∧ (atW (World.alloc w13 (Obj.cells (Array.mk [Value.slice none 0 0, Value.slice none 0 0]) 103 (0, 0))) (fun w19 =>
                          (∃ v20 : Value, (∃ w21 : World, ((Sem.run Try.prog (Builtin.append_ (Array.mk [57, 57]) 57 (Array.mk [Value.slice p16 n17 n18, Value.slice (some (Addr.mk (Array.size (World.heap w13)) 0 none)) 1 1])) w19 = Result.ok v20 w21) ∧ (∃ p22 : Option Addr, (∃ n23 : Nat, (∃ n24 : Nat, ((v20 = Value.slice p22 n23 n24) ∧ (onP (s) (fun a25 =>
                            ((∃ v26 : Value, (World.cell? w21 (Addr.add (Addr.add a25 1) 0) = some v26)) ∧ ((World.frozen? w21 (Addr.add (Addr.add a25 1) 0) = false) ∧ (atW (World.setCell w21 (Addr.add (Addr.add a25 1) 0) (Value.slice p22 n23 n24)) (fun w27 =>
                              (onP (s) (fun a28 =>
                                (∃ p29 : Option Addr, (∃ n30 : Nat, (∃ n31 : Nat, ((World.cell? w27 (Addr.add a28 1) = some (Value.slice p29 n30 n31)) ∧ (Ca Try.prog (77) (Array.mk [Value.pointer s, Value.string name, Value.int IntKind.i64 (IntKind.wrap IntKind.i64 ((↑n30 : Int) - 1))]) (w27) (fun v32 => (fun w33 =>
                                  ((v32 = Value.tuple (Array.mk (List.reverse []))) ∧ (R (Value.int IntKind.i64 0) (w33))))))))))))))))))))))))))))))))))))))))))))))))))))))))))))))))
theorem ca54 (s : Option Addr) (name : ByteArray) (w : World) (R : Value → World → Prop) (h : W54 s name w R) : Ca Try.prog 54 ⟨[(.pointer s), (.string name)]⟩ w R := by
  have h1 : Try.prog.follows .mixedOrders = true := by kernel_rfl
  have h2 : Try.f54.body = some C54 := by kernel_rfl
  have h3 : (Try.f54.name == "runtime.NumGoroutine") = false := by kernel_rfl
  have h6 : Try.f54.results.toList = [.tmp 4] := by kernel_rfl
  have h4 : Nat.ble 2 45 = true := by kernel_rfl
  have h5 : okCode 45 pl54 ls54 C54 0 = true := by kernel_rfl
  have e : W54 s name w R = wpC none Try.prog 45 pl54 ls54 C54 0 (endP Try.prog [.tmp 4] R) (fr0 [(.pointer s), (.string name)]) [] w := by kernel_rfl
  exact ca_of' (P := Try.prog) (g := 54) (fn := Try.f54) (c := C54) (m := 45) (rs := [.tmp 4]) (args := [(.pointer s), (.string name)]) (pl := pl54) (ls := ls54) (w := w) (R := R) h1 Try.func54 h2 Try.ntmps54 h6 h3 h4 h5 (Eq.mp e h)

/-- (*staith/staithref11.Store).Write -/
noncomputable def C56 : Code := (Try.f56.body).getD .skip
def pl56 : Nat → Plan
  | 4 => (.quiet 0 (.quiet 1 (.quiet 2 (.quiet 3 (.quiet 4 (.quiet 7 (.quiet 8 (.eff 5 [3] (.quiet 6 (.quiet 9 .done))))))))))
  | _ => .done
def ls56 : Nat → List (Nat × LT) := fun _ => []
def W56 (s : Option Addr) (name : ByteArray) (ba : Option Addr) (bl : Nat) (bc : Nat) (w : World) (R : Value → World → Prop) : Prop :=
  (Ca Try.prog (74) (Array.mk [Value.pointer s, Value.string name, Value.bool true]) (w) (fun v0 => (fun w1 =>
    (∃ x2 : Int, ((v0 = Value.int IntKind.i64 x2) ∧ (ifK (x2 != 0)
      (R (Value.int IntKind.i64 x2) (w1))
      (atW (World.drew w1) (fun w3 =>
        (onP (s) (fun a4 =>
          (∃ x5 : Int, ((World.cell? w3 (Addr.add a4 0) = some (Value.int IntKind.i64 x5)) ∧ (Ca Try.prog (67) (Array.mk [Value.pointer s]) (w3) (fun v6 => (fun w7 =>
            (∃ x8 : Int, ((v6 = Value.int IntKind.i64 x8) ∧ ((World.cell? w7 (Addr.add (Addr.add a4 0) 0) = some (Value.int IntKind.i64 x5)) ∧ (ifK (decide (IntKind.wrap IntKind.i64 (x5 - x8) < (↑bl : Int)))
              (R (Value.int IntKind.i64 6) (w7))
              (Ca Try.prog (76) (Array.mk [Value.pointer s]) (w7) (fun v9 => (fun w10 =>
                (∃ b11 : Bool, ((v9 = Value.bool b11) ∧ (ifK (b11)
                  (R (Value.int IntKind.i64 9) (w10))
                  (Ca Try.prog (78) (Array.mk [Value.pointer s, Value.string name]) (w10) (fun v12 => (fun w13 =>
                    (∃ p14 : Option Addr, ((v12 = Value.pointer p14) ∧ (atW (World.alloc w13 (Obj.cells (Array.mk []) 5 (0, 0))) (fun w15 =>
                      (onP (p14) (fun a16 =>
                        (∃ p17 : Option Addr, (∃ n18 : Nat, (∃ n19 : Nat, ((World.cell? w15 (Addr.add a16 0) = some (Value.slice p17 n18 n19)) ∧ (∃ v20 : Value, (∃ w21 : World, ((Sem.run Try.prog (Builtin.append_ (Array.mk [24, 24]) 24 (Array.mk [Value.slice (some (Addr.mk (Array.size (World.heap w13)) 0 none)) 0 0, Value.slice p17 n18 n19])) w15 = Result.ok v20 w21) ∧ (∃ p22 : Option Addr, (∃ n23 : Nat, (∃ n24 : Nat, ((v20 = Value.slice p22 n23 n24) ∧ (∃ v25 : Value, (∃ w26 : World, ((Sem.run Try.prog (Builtin.append_ (Array.mk [24, 24]) 24 (Array.mk [Value.slice p22 n23 n24, Value.slice ba bl bc])) w21 = Result.ok v25 w26) ∧ (∃ p27 : Option Addr, (∃ n28 : Nat, (∃ n29 : Nat, ((v25 = Value.slice p27 n28 n29) ∧ (onP (p14) (fun a30 =>
                          ((∃ v31 : Value, (World.cell? w26 (Addr.add (Addr.add a30 0) 0) = some v31)) ∧ ((World.frozen? w26 (Addr.add (Addr.add a30 0) 0) = false) ∧ (atW (World.setCell w26 (Addr.add (Addr.add a30 0) 0) (Value.slice p27 n28 n29)) (fun w32 =>
                            (R (Value.int IntKind.i64 0) (w32))))))))))))))))))))))))))))))))))))))))))))))))))))))))))))
theorem ca56 (s : Option Addr) (name : ByteArray) (ba : Option Addr) (bl : Nat) (bc : Nat) (w : World) (R : Value → World → Prop) (h : W56 s name ba bl bc w R) : Ca Try.prog 56 ⟨[(.pointer s), (.string name), (.slice ba bl bc)]⟩ w R := by
  have h1 : Try.prog.follows .mixedOrders = true := by kernel_rfl
  have h2 : Try.f56.body = some C56 := by kernel_rfl
  have h3 : (Try.f56.name == "runtime.NumGoroutine") = false := by kernel_rfl
  have h6 : Try.f56.results.toList = [.tmp 6] := by kernel_rfl
  have h4 : Nat.ble 3 41 = true := by kernel_rfl
  have h5 : okCode 41 pl56 ls56 C56 0 = true := by kernel_rfl
  have e : W56 s name ba bl bc w R = wpC none Try.prog 41 pl56 ls56 C56 0 (endP Try.prog [.tmp 6] R) (fr0 [(.pointer s), (.string name), (.slice ba bl bc)]) [] w := by kernel_rfl
  exact ca_of' (P := Try.prog) (g := 56) (fn := Try.f56) (c := C56) (m := 41) (rs := [.tmp 6]) (args := [(.pointer s), (.string name), (.slice ba bl bc)]) (pl := pl56) (ls := ls56) (w := w) (R := R) h1 Try.func56 h2 Try.ntmps56 h6 h3 h4 h5 (Eq.mp e h)

/-- (*staith/staithref11.Store).Cut -/
noncomputable def C58 : Code := (Try.f58.body).getD .skip
def pl58 : Nat → Plan := fun _ => .done
def ls58 : Nat → List (Nat × LT) := fun _ => []
def W58 (s : Option Addr) (name : ByteArray) (n : Int) (w : World) (R : Value → World → Prop) : Prop :=
  (Ca Try.prog (74) (Array.mk [Value.pointer s, Value.string name, Value.bool true]) (w) (fun v0 => (fun w1 =>
    (∃ x2 : Int, ((v0 = Value.int IntKind.i64 x2) ∧ (ifK (x2 != 0)
      (R (Value.int IntKind.i64 x2) (w1))
      (ifK (decide (n < 0))
        (R (Value.int IntKind.i64 2) (w1))
        (Ca Try.prog (78) (Array.mk [Value.pointer s, Value.string name]) (w1) (fun v3 => (fun w4 =>
          (∃ p5 : Option Addr, ((v3 = Value.pointer p5) ∧ (onP (p5) (fun a6 =>
            (∃ p7 : Option Addr, (∃ n8 : Nat, (∃ n9 : Nat, ((World.cell? w4 (Addr.add a6 0) = some (Value.slice p7 n8 n9)) ∧ (ifK (decide (n > (↑n8 : Int)))
              (R (Value.int IntKind.i64 2) (w4))
              (Ca Try.prog (76) (Array.mk [Value.pointer s]) (w4) (fun v10 => (fun w11 =>
                (∃ b12 : Bool, ((v10 = Value.bool b12) ∧ (ifK (b12)
                  (R (Value.int IntKind.i64 9) (w11))
                  (Ca Try.prog (78) (Array.mk [Value.pointer s, Value.string name]) (w11) (fun v13 => (fun w14 =>
                    (∃ p15 : Option Addr, ((v13 = Value.pointer p15) ∧ (atW (World.alloc w14 (Obj.cells (Array.mk []) 5 (0, 0))) (fun w16 =>
                      (onP (p15) (fun a17 =>
                        (∃ p18 : Option Addr, (∃ n19 : Nat, (∃ n20 : Nat, ((World.cell? w16 (Addr.add a17 0) = some (Value.slice p18 n19 n20)) ∧ (((0 : Int) ≤ 0) ∧ (((0 : Int) ≤ n) ∧ (((n : Int) ≤ (↑n20 : Int)) ∧ (∃ v21 : Value, (∃ w22 : World, ((Sem.run Try.prog (Builtin.append_ (Array.mk [24, 24]) 24 (Array.mk [Value.slice (some (Addr.mk (Array.size (World.heap w14)) 0 none)) 0 0, Value.slice (if n20 = 0 then p18 else Option.map (fun x => Addr.add x 0) p18) (Int.toNat n - 0) (n20 - 0)])) w16 = Result.ok v21 w22) ∧ (∃ p23 : Option Addr, (∃ n24 : Nat, (∃ n25 : Nat, ((v21 = Value.slice p23 n24 n25) ∧ (onP (p15) (fun a26 =>
                          ((∃ v27 : Value, (World.cell? w22 (Addr.add (Addr.add a26 0) 0) = some v27)) ∧ ((World.frozen? w22 (Addr.add (Addr.add a26 0) 0) = false) ∧ (atW (World.setCell w22 (Addr.add (Addr.add a26 0) 0) (Value.slice p23 n24 n25)) (fun w28 =>
                            (R (Value.int IntKind.i64 0) (w28))))))))))))))))))))))))))))))))))))))))))))))))))))))))
theorem ca58 (s : Option Addr) (name : ByteArray) (n : Int) (w : World) (R : Value → World → Prop) (h : W58 s name n w R) : Ca Try.prog 58 ⟨[(.pointer s), (.string name), (.int .i64 n)]⟩ w R := by
  have h1 : Try.prog.follows .mixedOrders = true := by kernel_rfl
  have h2 : Try.f58.body = some C58 := by kernel_rfl
  have h3 : (Try.f58.name == "runtime.NumGoroutine") = false := by kernel_rfl
  have h6 : Try.f58.results.toList = [.tmp 6] := by kernel_rfl
  have h4 : Nat.ble 3 44 = true := by kernel_rfl
  have h5 : okCode 44 pl58 ls58 C58 0 = true := by kernel_rfl
  have e : W58 s name n w R = wpC none Try.prog 44 pl58 ls58 C58 0 (endP Try.prog [.tmp 6] R) (fr0 [(.pointer s), (.string name), (.int .i64 n)]) [] w := by kernel_rfl
  exact ca_of' (P := Try.prog) (g := 58) (fn := Try.f58) (c := C58) (m := 44) (rs := [.tmp 6]) (args := [(.pointer s), (.string name), (.int .i64 n)]) (pl := pl58) (ls := ls58) (w := w) (R := R) h1 Try.func58 h2 Try.ntmps58 h6 h3 h4 h5 (Eq.mp e h)

/-- (*staith/staithref11.Store).Sync -/
noncomputable def C59 : Code := (Try.f59.body).getD .skip
def pl59 : Nat → Plan := fun _ => .done
def ls59 : Nat → List (Nat × LT) := fun _ => []
def W59 (s : Option Addr) (name : ByteArray) (w : World) (R : Value → World → Prop) : Prop :=
  (Ca Try.prog (74) (Array.mk [Value.pointer s, Value.string name, Value.bool true]) (w) (fun v0 => (fun w1 =>
    (∃ x2 : Int, ((v0 = Value.int IntKind.i64 x2) ∧ (ifK (x2 != 0)
      (R (Value.int IntKind.i64 x2) (w1))
      (Ca Try.prog (76) (Array.mk [Value.pointer s]) (w1) (fun v3 => (fun w4 =>
        (∃ b5 : Bool, ((v3 = Value.bool b5) ∧ (ifK (b5)
          (R (Value.int IntKind.i64 9) (w4))
          (Ca Try.prog (78) (Array.mk [Value.pointer s, Value.string name]) (w4) (fun v6 => (fun w7 =>
            (∃ p8 : Option Addr, ((v6 = Value.pointer p8) ∧ (onP (p8) (fun a9 =>
              (∃ p10 : Option Addr, (∃ n11 : Nat, (∃ n12 : Nat, ((World.cell? w7 (Addr.add a9 0) = some (Value.slice p10 n11 n12)) ∧ (onP (p8) (fun a13 =>
                ((∃ v14 : Value, (World.cell? w7 (Addr.add (Addr.add a13 1) 0) = some v14)) ∧ ((World.frozen? w7 (Addr.add (Addr.add a13 1) 0) = false) ∧ (atW (World.setCell w7 (Addr.add (Addr.add a13 1) 0) (Value.slice p10 n11 n12)) (fun w15 =>
                  (R (Value.int IntKind.i64 0) (w15)))))))))))))))))))))))))))))))
theorem ca59 (s : Option Addr) (name : ByteArray) (w : World) (R : Value → World → Prop) (h : W59 s name w R) : Ca Try.prog 59 ⟨[(.pointer s), (.string name)]⟩ w R := by
  have h1 : Try.prog.follows .mixedOrders = true := by kernel_rfl
  have h2 : Try.f59.body = some C59 := by kernel_rfl
  have h3 : (Try.f59.name == "runtime.NumGoroutine") = false := by kernel_rfl
  have h6 : Try.f59.results.toList = [.tmp 4] := by kernel_rfl
  have h4 : Nat.ble 2 25 = true := by kernel_rfl
  have h5 : okCode 25 pl59 ls59 C59 0 = true := by kernel_rfl
  have e : W59 s name w R = wpC none Try.prog 25 pl59 ls59 C59 0 (endP Try.prog [.tmp 4] R) (fr0 [(.pointer s), (.string name)]) [] w := by kernel_rfl
  exact ca_of' (P := Try.prog) (g := 59) (fn := Try.f59) (c := C59) (m := 25) (rs := [.tmp 4]) (args := [(.pointer s), (.string name)]) (pl := pl59) (ls := ls59) (w := w) (R := R) h1 Try.func59 h2 Try.ntmps59 h6 h3 h4 h5 (Eq.mp e h)

/-- (*staith/staithref11.Store).Move -/
noncomputable def C60 : Code := (Try.f60.body).getD .skip
def pl60 : Nat → Plan
  | 9 => (.quiet 0 (.quiet 1 (.quiet 2 (.quiet 3 (.quiet 4 (.quiet 5 (.eff 6 [3] (.quiet 7 (.quiet 8 (.quiet 9 (.quiet 10 .done)))))))))))
  | _ => .done
def ls60 : Nat → List (Nat × LT) := fun _ => []
def W60 (s : Option Addr) (from_ : ByteArray) (to : ByteArray) (w : World) (R : Value → World → Prop) : Prop :=
  (onP (s) (fun a0 =>
    (∃ b1 : Bool, ((World.cell? w (Addr.add a0 4) = some (Value.bool b1)) ∧ (ifK (b1)
      (R (Value.int IntKind.i64 9) (w))
      (Ca Try.prog (11) (Array.mk [Value.string from_]) (w) (fun v2 => (fun w3 =>
        (∃ b4 : Bool, ((v2 = Value.bool b4) ∧ (ifK (!b4)
          (R (Value.int IntKind.i64 2) (w3))
          (Ca Try.prog (11) (Array.mk [Value.string to]) (w3) (fun v5 => (fun w6 =>
            (∃ b7 : Bool, ((v5 = Value.bool b7) ∧ (ifK (!b7)
              (R (Value.int IntKind.i64 2) (w6))
              (Ca Try.prog (75) (Array.mk [Value.pointer s, Value.string from_]) (w6) (fun v8 => (fun w9 =>
                (∃ x10 : Int, ((v8 = Value.int IntKind.i64 x10) ∧ (ifK (decide (x10 < 0))
                  (R (Value.int IntKind.i64 3) (w9))
                  (Ca Try.prog (76) (Array.mk [Value.pointer s]) (w9) (fun v11 => (fun w12 =>
                    (∃ b13 : Bool, ((v11 = Value.bool b13) ∧ (ifK (b13)
                      (R (Value.int IntKind.i64 9) (w12))
                      (atW (World.drew w12) (fun w14 =>
                        (onP (s) (fun a15 =>
                          (∃ p16 : Option Addr, (∃ n17 : Nat, (∃ n18 : Nat, ((World.cell? w14 (Addr.add a15 2) = some (Value.slice p16 n17 n18)) ∧ (Ca Try.prog (75) (Array.mk [Value.pointer s, Value.string from_]) (w14) (fun v19 => (fun w20 =>
                            (∃ x21 : Int, ((v19 = Value.int IntKind.i64 x21) ∧ ((World.cell? w20 (Addr.add (Addr.add a15 2) 0) = some (Value.slice p16 n17 n18)) ∧ (∃ a22 : Addr, ((p16 = some a22) ∧ (((0 : Int) ≤ x21) ∧ (((x21 : Int) < (↑n17 : Int)) ∧ (∃ x23 : Int, ((World.cell? w20 (Addr.add (Addr.add a22 (Int.toNat x21 * 2)) 1) = some (Value.int IntKind.i64 x23)) ∧ (Ca Try.prog (77) (Array.mk [Value.pointer s, Value.string from_, Value.int IntKind.i64 (-1)]) (w20) (fun v24 => (fun w25 =>
                              ((v24 = Value.tuple (Array.mk (List.reverse []))) ∧ (Ca Try.prog (77) (Array.mk [Value.pointer s, Value.string to, Value.int IntKind.i64 x23]) (w25) (fun v26 => (fun w27 =>
                                ((v26 = Value.tuple (Array.mk (List.reverse []))) ∧ (R (Value.int IntKind.i64 0) (w27)))))))))))))))))))))))))))))))))))))))))))))))))))))))))))
theorem ca60 (s : Option Addr) (from_ : ByteArray) (to : ByteArray) (w : World) (R : Value → World → Prop) (h : W60 s from_ to w R) : Ca Try.prog 60 ⟨[(.pointer s), (.string from_), (.string to)]⟩ w R := by
  have h1 : Try.prog.follows .mixedOrders = true := by kernel_rfl
  have h2 : Try.f60.body = some C60 := by kernel_rfl
  have h3 : (Try.f60.name == "runtime.NumGoroutine") = false := by kernel_rfl
  have h6 : Try.f60.results.toList = [.tmp 6] := by kernel_rfl
  have h4 : Nat.ble 3 46 = true := by kernel_rfl
  have h5 : okCode 46 pl60 ls60 C60 0 = true := by kernel_rfl
  have e : W60 s from_ to w R = wpC none Try.prog 46 pl60 ls60 C60 0 (endP Try.prog [.tmp 6] R) (fr0 [(.pointer s), (.string from_), (.string to)]) [] w := by kernel_rfl
  exact ca_of' (P := Try.prog) (g := 60) (fn := Try.f60) (c := C60) (m := 46) (rs := [.tmp 6]) (args := [(.pointer s), (.string from_), (.string to)]) (pl := pl60) (ls := ls60) (w := w) (R := R) h1 Try.func60 h2 Try.ntmps60 h6 h3 h4 h5 (Eq.mp e h)

/-- (*staith/staithref11.Store).Drop -/
noncomputable def C61 : Code := (Try.f61.body).getD .skip
def pl61 : Nat → Plan := fun _ => .done
def ls61 : Nat → List (Nat × LT) := fun _ => []
def W61 (s : Option Addr) (name : ByteArray) (w : World) (R : Value → World → Prop) : Prop :=
  (Ca Try.prog (74) (Array.mk [Value.pointer s, Value.string name, Value.bool true]) (w) (fun v0 => (fun w1 =>
    (∃ x2 : Int, ((v0 = Value.int IntKind.i64 x2) ∧ (ifK (x2 != 0)
      (R (Value.int IntKind.i64 x2) (w1))
      (Ca Try.prog (76) (Array.mk [Value.pointer s]) (w1) (fun v3 => (fun w4 =>
        (∃ b5 : Bool, ((v3 = Value.bool b5) ∧ (ifK (b5)
          (R (Value.int IntKind.i64 9) (w4))
          (Ca Try.prog (77) (Array.mk [Value.pointer s, Value.string name, Value.int IntKind.i64 (-1)]) (w4) (fun v6 => (fun w7 =>
            ((v6 = Value.tuple (Array.mk (List.reverse []))) ∧ (R (Value.int IntKind.i64 0) (w7))))))))))))))))))
theorem ca61 (s : Option Addr) (name : ByteArray) (w : World) (R : Value → World → Prop) (h : W61 s name w R) : Ca Try.prog 61 ⟨[(.pointer s), (.string name)]⟩ w R := by
  have h1 : Try.prog.follows .mixedOrders = true := by kernel_rfl
  have h2 : Try.f61.body = some C61 := by kernel_rfl
  have h3 : (Try.f61.name == "runtime.NumGoroutine") = false := by kernel_rfl
  have h6 : Try.f61.results.toList = [.tmp 4] := by kernel_rfl
  have h4 : Nat.ble 2 17 = true := by kernel_rfl
  have h5 : okCode 17 pl61 ls61 C61 0 = true := by kernel_rfl
  have e : W61 s name w R = wpC none Try.prog 17 pl61 ls61 C61 0 (endP Try.prog [.tmp 4] R) (fr0 [(.pointer s), (.string name)]) [] w := by kernel_rfl
  exact ca_of' (P := Try.prog) (g := 61) (fn := Try.f61) (c := C61) (m := 17) (rs := [.tmp 4]) (args := [(.pointer s), (.string name)]) (pl := pl61) (ls := ls61) (w := w) (R := R) h1 Try.func61 h2 Try.ntmps61 h6 h3 h4 h5 (Eq.mp e h)

/-- (*staith/staithref11.Store).Commit -/
noncomputable def C62 : Code := (Try.f62.body).getD .skip
def pl62 : Nat → Plan := fun _ => .done
def ls62 : Nat → List (Nat × LT) := fun _ => []
def W62 (s : Option Addr) (w : World) (R : Value → World → Prop) : Prop :=
  (onP (s) (fun a0 =>
    (∃ b1 : Bool, ((World.cell? w (Addr.add a0 4) = some (Value.bool b1)) ∧ (ifK (b1)
      (R (Value.int IntKind.i64 9) (w))
      (Ca Try.prog (76) (Array.mk [Value.pointer s]) (w) (fun v2 => (fun w3 =>
        (∃ b4 : Bool, ((v2 = Value.bool b4) ∧ (ifK (b4)
          (R (Value.int IntKind.i64 9) (w3))
          (atW (World.alloc w3 (Obj.cells (Array.mk []) 94 (0, 0))) (fun w5 =>
            (onP (s) (fun a6 =>
              (∃ p7 : Option Addr, (∃ n8 : Nat, (∃ n9 : Nat, ((World.cell? w5 (Addr.add a6 2) = some (Value.slice p7 n8 n9)) ∧ (∃ v10 : Value, (∃ w11 : World, ((Sem.run Try.prog (Builtin.append_ (Array.mk [58, 58]) 58 (Array.mk [Value.slice (some (Addr.mk (Array.size (World.heap w3)) 0 none)) 0 0, Value.slice p7 n8 n9])) w5 = Result.ok v10 w11) ∧ (∃ p12 : Option Addr, (∃ n13 : Nat, (∃ n14 : Nat, ((v10 = Value.slice p12 n13 n14) ∧ (onP (s) (fun a15 =>
                ((∃ v16 : Value, (World.cell? w11 (Addr.add (Addr.add a15 3) 0) = some v16)) ∧ ((World.frozen? w11 (Addr.add (Addr.add a15 3) 0) = false) ∧ (atW (World.setCell w11 (Addr.add (Addr.add a15 3) 0) (Value.slice p12 n13 n14)) (fun w17 =>
                  (R (Value.int IntKind.i64 0) (w17))))))))))))))))))))))))))))))))))
theorem ca62 (s : Option Addr) (w : World) (R : Value → World → Prop) (h : W62 s w R) : Ca Try.prog 62 ⟨[(.pointer s)]⟩ w R := by
  have h1 : Try.prog.follows .mixedOrders = true := by kernel_rfl
  have h2 : Try.f62.body = some C62 := by kernel_rfl
  have h3 : (Try.f62.name == "runtime.NumGoroutine") = false := by kernel_rfl
  have h6 : Try.f62.results.toList = [.tmp 2] := by kernel_rfl
  have h4 : Nat.ble 1 20 = true := by kernel_rfl
  have h5 : okCode 20 pl62 ls62 C62 0 = true := by kernel_rfl
  have e : W62 s w R = wpC none Try.prog 20 pl62 ls62 C62 0 (endP Try.prog [.tmp 2] R) (fr0 [(.pointer s)]) [] w := by kernel_rfl
  exact ca_of' (P := Try.prog) (g := 62) (fn := Try.f62) (c := C62) (m := 20) (rs := [.tmp 2]) (args := [(.pointer s)]) (pl := pl62) (ls := ls62) (w := w) (R := R) h1 Try.func62 h2 Try.ntmps62 h6 h3 h4 h5 (Eq.mp e h)

/-- (*staith/staithref11.Store).Read -/
noncomputable def C63 : Code := (Try.f63.body).getD .skip
def pl63 : Nat → Plan := fun _ => .done
def ls63 : Nat → List (Nat × LT) := fun _ => []
def W63 (s : Option Addr) (name : ByteArray) (w : World) (R : Value → World → Prop) : Prop :=
  (Ca Try.prog (74) (Array.mk [Value.pointer s, Value.string name, Value.bool true]) (w) (fun v0 => (fun w1 =>
    (∃ x2 : Int, ((v0 = Value.int IntKind.i64 x2) ∧ (ifK (x2 != 0)
      (R (Value.tuple (Array.mk [Value.slice none 0 0, Value.int IntKind.i64 x2])) (w1))
      (atW (World.alloc w1 (Obj.cells (Array.mk []) 5 (0, 0))) (fun w3 =>
        (Ca Try.prog (78) (Array.mk [Value.pointer s, Value.string name]) (w3) (fun v4 => (fun w5 =>
          (∃ p6 : Option Addr, ((v4 = Value.pointer p6) ∧ (onP (p6) (fun a7 =>
            (∃ p8 : Option Addr, (∃ n9 : Nat, (∃ n10 : Nat, ((World.cell? w5 (Addr.add a7 0) = some (Value.slice p8 n9 n10)) ∧ (∃ v11 : Value, (∃ w12 : World, ((Sem.run Try.prog (Builtin.append_ (Array.mk [24, 24]) 24 (Array.mk [Value.slice (some (Addr.mk (Array.size (World.heap w1)) 0 none)) 0 0, Value.slice p8 n9 n10])) w5 = Result.ok v11 w12) ∧ (∃ p13 : Option Addr, (∃ n14 : Nat, (∃ n15 : Nat, ((v11 = Value.slice p13 n14 n15) ∧ (R (Value.tuple (Array.mk [Value.slice p13 n14 n15, Value.int IntKind.i64 0])) (w12))))))))))))))))))))))))))))
theorem ca63 (s : Option Addr) (name : ByteArray) (w : World) (R : Value → World → Prop) (h : W63 s name w R) : Ca Try.prog 63 ⟨[(.pointer s), (.string name)]⟩ w R := by
  have h1 : Try.prog.follows .mixedOrders = true := by kernel_rfl
  have h2 : Try.f63.body = some C63 := by kernel_rfl
  have h3 : (Try.f63.name == "runtime.NumGoroutine") = false := by kernel_rfl
  have h6 : Try.f63.results.toList = [.tmp 4, .tmp 5] := by kernel_rfl
  have h4 : Nat.ble 2 21 = true := by kernel_rfl
  have h5 : okCode 21 pl63 ls63 C63 0 = true := by kernel_rfl
  have e : W63 s name w R = wpC none Try.prog 21 pl63 ls63 C63 0 (endP Try.prog [.tmp 4, .tmp 5] R) (fr0 [(.pointer s), (.string name)]) [] w := by kernel_rfl
  exact ca_of' (P := Try.prog) (g := 63) (fn := Try.f63) (c := C63) (m := 21) (rs := [.tmp 4, .tmp 5]) (args := [(.pointer s), (.string name)]) (pl := pl63) (ls := ls63) (w := w) (R := R) h1 Try.func63 h2 Try.ntmps63 h6 h3 h4 h5 (Eq.mp e h)

/-- (*staith/staithref11.Store).Plan -/
noncomputable def C64 : Code := (Try.f64.body).getD .skip
def pl64 : Nat → Plan := fun _ => .done
def ls64 : Nat → List (Nat × LT) := fun _ => []
def W64 (s : Option Addr) (n : Int) (keep : Int) (w : World) (R : Value → World → Prop) : Prop :=
  (onP (s) (fun a0 =>
    (∃ b1 : Bool, ((World.cell? w (Addr.add a0 4) = some (Value.bool b1)) ∧ (ifK (b1)
      (R (Value.int IntKind.i64 9) (w))
      (ifK (decide (n < 0))
        (R (Value.int IntKind.i64 2) (w))
        (onP (s) (fun a2 =>
          ((∃ v3 : Value, (World.cell? w (Addr.add (Addr.add a2 6) 0) = some v3)) ∧ ((World.frozen? w (Addr.add (Addr.add a2 6) 0) = false) ∧ (atW (World.setCell w (Addr.add (Addr.add a2 6) 0) (Value.int IntKind.i64 n)) (fun w4 =>
            (onP (s) (fun a5 =>
              ((∃ v6 : Value, (World.cell? w4 (Addr.add (Addr.add a5 7) 0) = some v6)) ∧ ((World.frozen? w4 (Addr.add (Addr.add a5 7) 0) = false) ∧ (atW (World.setCell w4 (Addr.add (Addr.add a5 7) 0) (Value.int IntKind.i64 keep)) (fun w7 =>
                (R (Value.int IntKind.i64 0) (w7))))))))))))))))))))
theorem ca64 (s : Option Addr) (n : Int) (keep : Int) (w : World) (R : Value → World → Prop) (h : W64 s n keep w R) : Ca Try.prog 64 ⟨[(.pointer s), (.int .i64 n), (.int .i64 keep)]⟩ w R := by
  have h1 : Try.prog.follows .mixedOrders = true := by kernel_rfl
  have h2 : Try.f64.body = some C64 := by kernel_rfl
  have h3 : (Try.f64.name == "runtime.NumGoroutine") = false := by kernel_rfl
  have h6 : Try.f64.results.toList = [.tmp 6] := by kernel_rfl
  have h4 : Nat.ble 3 23 = true := by kernel_rfl
  have h5 : okCode 23 pl64 ls64 C64 0 = true := by kernel_rfl
  have e : W64 s n keep w R = wpC none Try.prog 23 pl64 ls64 C64 0 (endP Try.prog [.tmp 6] R) (fr0 [(.pointer s), (.int .i64 n), (.int .i64 keep)]) [] w := by kernel_rfl
  exact ca_of' (P := Try.prog) (g := 64) (fn := Try.f64) (c := C64) (m := 23) (rs := [.tmp 6]) (args := [(.pointer s), (.int .i64 n), (.int .i64 keep)]) (pl := pl64) (ls := ls64) (w := w) (R := R) h1 Try.func64 h2 Try.ntmps64 h6 h3 h4 h5 (Eq.mp e h)

/-- (*staith/staithref11.Store).Fail -/
noncomputable def C65 : Code := (Try.f65.body).getD .skip
def pl65 : Nat → Plan
  | 8 => (.quiet 0 (.quiet 1 (.quiet 2 (.quiet 3 (.quiet 4 (.quiet 5 (.quiet 6 (.quiet 7 (.quiet 8 (.quiet 9 (.quiet 10 (.quiet 11 (.quiet 12 (.quiet 13 (.quiet 15 (.quiet 16 (.quiet 17 (.quiet 18 (.fork (.eff 14 [18] (.eff 19 [11] (.quiet 20 (.quiet 21 .done)))) (.eff 19 [11] (.eff 14 [18] (.quiet 20 (.quiet 21 .done)))))))))))))))))))))))
  | _ => .done
def ls65 : Nat → List (Nat × LT)
  | 5 => [(29, (.one (.int .i64)))]
  | 12 => [(0, .agg [])]
  | 15 => [(0, .agg []), (7, (.one (.int .i64)))]
  | 17 => [(0, .agg []), (6, (.one (.int .i64)))]
  | _ => []
def W65 (s : Option Addr) (keep : Int) (w : World) (R : Value → World → Prop) : Prop :=
  (onP (s) (fun a0 =>
    (∃ b1 : Bool, ((World.cell? w (Addr.add a0 4) = some (Value.bool b1)) ∧ (ifK (b1)
      (R (Value.tuple (Array.mk (List.reverse []))) (w))
      (onP (s) (fun a2 =>
        ((∃ v3 : Value, (World.cell? w (Addr.add (Addr.add a2 4) 0) = some v3)) ∧ ((World.frozen? w (Addr.add (Addr.add a2 4) 0) = false) ∧ (atW (World.setCell w (Addr.add (Addr.add a2 4) 0) (Value.bool true)) (fun w4 =>
          (atW (World.alloc w4 (Obj.cells (Array.mk []) 94 (0, 0))) (fun w5 =>
            (onP (s) (fun a6 =>
              (∃ p7 : Option Addr, (∃ n8 : Nat, (∃ n9 : Nat, ((World.cell? w5 (Addr.add a6 3) = some (Value.slice p7 n8 n9)) ∧ (∃ v10 : Value, (∃ w11 : World, ((Sem.run Try.prog (Builtin.append_ (Array.mk [58, 58]) 58 (Array.mk [Value.slice (some (Addr.mk (Array.size (World.heap w4)) 0 none)) 0 0, Value.slice p7 n8 n9])) w5 = Result.ok v10 w11) ∧ (∃ p12 : Option Addr, (∃ n13 : Nat, (∃ n14 : Nat, ((v10 = Value.slice p12 n13 n14) ∧ (onP (s) (fun a15 =>
                ((∃ v16 : Value, (World.cell? w11 (Addr.add (Addr.add a15 2) 0) = some v16)) ∧ ((World.frozen? w11 (Addr.add (Addr.add a15 2) 0) = false) ∧ (atW (World.setCell w11 (Addr.add (Addr.add a15 2) 0) (Value.slice p12 n13 n14)) (fun w17 =>
                  (onP (s) (fun a18 =>
                    (∃ p19 : Option Addr, (∃ n20 : Nat, (∃ n21 : Nat, ((World.cell? w17 (Addr.add a18 1) = some (Value.slice p19 n20 n21)) ∧ (∃ z22 : Int → World → Prop, (∃ z23 : Int → World → Nat, ((z22 (0) (w17)) ∧ (∀ (_ : Nat → Value), (∀ (x25 : Int), (∀ (w26 : World), ((z22 (x25) (w26)) → (ifK (decide (x25 < (↑n20 : Int)))
                      (onP (s) (fun a27 =>
                        (∃ p28 : Option Addr, (∃ n29 : Nat, (∃ n30 : Nat, ((World.cell? w26 (Addr.add a27 1) = some (Value.slice p28 n29 n30)) ∧ (∃ a31 : Addr, ((p28 = some a31) ∧ (((0 : Int) ≤ x25) ∧ (((x25 : Int) < (↑n29 : Int)) ∧ (∃ p32 : Option Addr, (∃ n33 : Nat, (∃ n34 : Nat, ((World.cell? w26 (Addr.add (Addr.add a31 (Int.toNat x25 * 2)) 1) = some (Value.slice p32 n33 n34)) ∧ (∃ z35 : World → Prop, ((atW (World.drew w26) (fun w36 =>
                          (∃ p37 : Option Addr, (∃ n38 : Nat, (∃ n39 : Nat, ((World.cell? w36 (Addr.add (Addr.add a31 (Int.toNat x25 * 2)) 0) = some (Value.slice p37 n38 n39)) ∧ (ifK (decide ((↑n38 : Int) ≥ (↑n33 : Int)))
                            (∃ p40 : Option Addr, (∃ n41 : Nat, (∃ n42 : Nat, ((World.cell? w36 (Addr.add (Addr.add a31 (Int.toNat x25 * 2)) 0) = some (Value.slice p40 n41 n42)) ∧ (((0 : Int) ≤ 0) ∧ (((0 : Int) ≤ (↑n33 : Int)) ∧ ((((↑n33 : Int) : Int) ≤ (↑n42 : Int)) ∧ (∃ p43 : Option Addr, (∃ n44 : Nat, (∃ n45 : Nat, ((World.cell? w36 (Addr.add (Addr.add a31 (Int.toNat x25 * 2)) 1) = some (Value.slice p43 n44 n45)) ∧ ((∃ v46 : Value, (∃ w47 : World, ((Sem.run Try.prog (convert 24 9 (Value.slice (if n42 = 0 then p40 else Option.map (fun x => Addr.add x 0) p40) (Int.toNat (↑n33 : Int) - 0) (n42 - 0))) w36 = Result.ok v46 w47) ∧ (∃ s48 : ByteArray, ((v46 = Value.string s48) ∧ ((World.cell? w47 (Addr.add (Addr.add (Addr.add a31 (Int.toNat x25 * 2)) 1) 0) = some (Value.slice p43 n44 n45)) ∧ (∃ v49 : Value, (∃ w50 : World, ((Sem.run Try.prog (convert 24 9 (Value.slice p43 n44 n45)) w47 = Result.ok v49 w50) ∧ (∃ s51 : ByteArray, ((v49 = Value.string s51) ∧ ((World.cell? w50 (Addr.add (Addr.add (Addr.add a31 (Int.toNat x25 * 2)) 0) 0) = some (Value.slice p40 n41 n42)) ∧ (ifK (ByteArray.toList s48 == ByteArray.toList s51)
                              (∃ z52 : Int → World → Prop, ((∃ p53 : Option Addr, (∃ n54 : Nat, (∃ n55 : Nat, ((World.cell? w50 (Addr.add (Addr.add a31 (Int.toNat x25 * 2)) 0) = some (Value.slice p53 n54 n55)) ∧ (ifK (decide (keep > IntKind.wrap IntKind.i64 ((↑n54 : Int) - (↑n33 : Int))))
                                (∃ p56 : Option Addr, (∃ n57 : Nat, (∃ n58 : Nat, ((World.cell? w50 (Addr.add (Addr.add a31 (Int.toNat x25 * 2)) 0) = some (Value.slice p56 n57 n58)) ∧ (z52 (IntKind.wrap IntKind.i64 ((↑n57 : Int) - (↑n33 : Int))) (w50))))))
                                (z52 (keep) (w50))))))) ∧ (∀ (_ : Nat → Value), (∀ (x60 : Int), (∀ (w61 : World), ((z52 (x60) (w61)) → (∃ z62 : Int → World → Prop, ((ifK (decide (x60 > 0))
                                (z62 (IntKind.wrap IntKind.i64 ((↑n33 : Int) + x60)) (w61))
                                (z62 ((↑n33 : Int)) (w61))) ∧ (∀ (_ : Nat → Value), (∀ (x64 : Int), (∀ (w65 : World), ((z62 (x64) (w65)) → (∃ p66 : Option Addr, (∃ n67 : Nat, (∃ n68 : Nat, ((World.cell? w65 (Addr.add (Addr.add a31 (Int.toNat x25 * 2)) 0) = some (Value.slice p66 n67 n68)) ∧ (((0 : Int) ≤ 0) ∧ (((0 : Int) ≤ x64) ∧ (((x64 : Int) ≤ (↑n68 : Int)) ∧ ((∃ v69 : Value, (World.cell? w65 (Addr.add (Addr.add (Addr.add a31 (Int.toNat x25 * 2)) 1) 0) = some v69)) ∧ ((World.frozen? w65 (Addr.add (Addr.add (Addr.add a31 (Int.toNat x25 * 2)) 1) 0) = false) ∧ (atW (World.setCell w65 (Addr.add (Addr.add (Addr.add a31 (Int.toNat x25 * 2)) 1) 0) (Value.slice (if n68 = 0 then p66 else Option.map (fun x => Addr.add x 0) p66) (Int.toNat x64 - 0) (n68 - 0))) (fun w70 =>
                                (z35 (w70)))))))))))))))))))))))))
                              (z35 (w50))))))))))))))) ∧ (∃ v71 : Value, (∃ w72 : World, ((Sem.run Try.prog (convert 24 9 (Value.slice p43 n44 n45)) w36 = Result.ok v71 w72) ∧ (∃ s73 : ByteArray, ((v71 = Value.string s73) ∧ ((World.cell? w72 (Addr.add (Addr.add (Addr.add a31 (Int.toNat x25 * 2)) 0) 0) = some (Value.slice p40 n41 n42)) ∧ (∃ v74 : Value, (∃ w75 : World, ((Sem.run Try.prog (convert 24 9 (Value.slice (if n42 = 0 then p40 else Option.map (fun x => Addr.add x 0) p40) (Int.toNat (↑n33 : Int) - 0) (n42 - 0))) w72 = Result.ok v74 w75) ∧ (∃ s76 : ByteArray, ((v74 = Value.string s76) ∧ ((World.cell? w75 (Addr.add (Addr.add (Addr.add a31 (Int.toNat x25 * 2)) 1) 0) = some (Value.slice p43 n44 n45)) ∧ (ifK (ByteArray.toList s76 == ByteArray.toList s73)
                              (∃ z77 : Int → World → Prop, ((∃ p78 : Option Addr, (∃ n79 : Nat, (∃ n80 : Nat, ((World.cell? w75 (Addr.add (Addr.add a31 (Int.toNat x25 * 2)) 0) = some (Value.slice p78 n79 n80)) ∧ (ifK (decide (keep > IntKind.wrap IntKind.i64 ((↑n79 : Int) - (↑n33 : Int))))
                                (∃ p81 : Option Addr, (∃ n82 : Nat, (∃ n83 : Nat, ((World.cell? w75 (Addr.add (Addr.add a31 (Int.toNat x25 * 2)) 0) = some (Value.slice p81 n82 n83)) ∧ (z77 (IntKind.wrap IntKind.i64 ((↑n82 : Int) - (↑n33 : Int))) (w75))))))
                                (z77 (keep) (w75))))))) ∧ (∀ (_ : Nat → Value), (∀ (x85 : Int), (∀ (w86 : World), ((z77 (x85) (w86)) → (∃ z87 : Int → World → Prop, ((ifK (decide (x85 > 0))
                                (z87 (IntKind.wrap IntKind.i64 ((↑n33 : Int) + x85)) (w86))
                                (z87 ((↑n33 : Int)) (w86))) ∧ (∀ (_ : Nat → Value), (∀ (x89 : Int), (∀ (w90 : World), ((z87 (x89) (w90)) → (∃ p91 : Option Addr, (∃ n92 : Nat, (∃ n93 : Nat, ((World.cell? w90 (Addr.add (Addr.add a31 (Int.toNat x25 * 2)) 0) = some (Value.slice p91 n92 n93)) ∧ (((0 : Int) ≤ 0) ∧ (((0 : Int) ≤ x89) ∧ (((x89 : Int) ≤ (↑n93 : Int)) ∧ ((∃ v94 : Value, (World.cell? w90 (Addr.add (Addr.add (Addr.add a31 (Int.toNat x25 * 2)) 1) 0) = some v94)) ∧ ((World.frozen? w90 (Addr.add (Addr.add (Addr.add a31 (Int.toNat x25 * 2)) 1) 0) = false) ∧ (atW (World.setCell w90 (Addr.add (Addr.add (Addr.add a31 (Int.toNat x25 * 2)) 1) 0) (Value.slice (if n93 = 0 then p91 else Option.map (fun x => Addr.add x 0) p91) (Int.toNat x89 - 0) (n93 - 0))) (fun w95 =>
                                (z35 (w95)))))))))))))))))))))))))
                              (z35 (w75)))))))))))))))))))))))))))
                            ((z35 (w36)) ∧ (z35 (w36)))))))))) ∧ (∀ (_ : Nat → Value), (∀ (w97 : World), ((z35 (w97)) → (∃ p98 : Option Addr, (∃ n99 : Nat, (∃ n100 : Nat, ((World.cell? w97 (Addr.add (Addr.add a31 (Int.toNat x25 * 2)) 1) = some (Value.slice p98 n99 n100)) ∧ ((∃ v101 : Value, (World.cell? w97 (Addr.add (Addr.add (Addr.add a31 (Int.toNat x25 * 2)) 0) 0) = some v101)) ∧ ((World.frozen? w97 (Addr.add (Addr.add (Addr.add a31 (Int.toNat x25 * 2)) 0) 0) = false) ∧ (atW (World.setCell w97 (Addr.add (Addr.add (Addr.add a31 (Int.toNat x25 * 2)) 0) 0) (Value.slice p98 n99 n100)) (fun w102 =>
                          ((z22 (IntKind.wrap IntKind.i64 (x25 + 1)) (w102)) ∧ (z23 (IntKind.wrap IntKind.i64 (x25 + 1)) w102 < z23 x25 w26)))))))))))))))))))))))))))))
                      (R (Value.tuple (Array.mk (List.reverse []))) (w26))))))))))))))))))))))))))))))))))))))))))))))))
theorem ca65 (s : Option Addr) (keep : Int) (w : World) (R : Value → World → Prop) (h : W65 s keep w R) : Ca Try.prog 65 ⟨[(.pointer s), (.int .i64 keep)]⟩ w R := by
  have h1 : Try.prog.follows .mixedOrders = true := by kernel_rfl
  have h2 : Try.f65.body = some C65 := by kernel_rfl
  have h3 : (Try.f65.name == "runtime.NumGoroutine") = false := by kernel_rfl
  have h6 : Try.f65.results.toList = [] := by kernel_rfl
  have h4 : Nat.ble 2 104 = true := by kernel_rfl
  have h5 : okCode 104 pl65 ls65 C65 0 = true := by kernel_rfl
  have e : W65 s keep w R = wpC none Try.prog 104 pl65 ls65 C65 0 (endP Try.prog [] R) (fr0 [(.pointer s), (.int .i64 keep)]) [] w := by kernel_rfl
  exact ca_of' (P := Try.prog) (g := 65) (fn := Try.f65) (c := C65) (m := 104) (rs := []) (args := [(.pointer s), (.int .i64 keep)]) (pl := pl65) (ls := ls65) (w := w) (R := R) h1 Try.func65 h2 Try.ntmps65 h6 h3 h4 h5 (Eq.mp e h)

/-- (*staith/staithref11.Store).Power -/
noncomputable def C66 : Code := (Try.f66.body).getD .skip
def pl66 : Nat → Plan := fun _ => .done
def ls66 : Nat → List (Nat × LT) := fun _ => []
def W66 (s : Option Addr) (w : World) (R : Value → World → Prop) : Prop :=
  (onP (s) (fun a0 =>
    ((∃ v1 : Value, (World.cell? w (Addr.add (Addr.add a0 4) 0) = some v1)) ∧ ((World.frozen? w (Addr.add (Addr.add a0 4) 0) = false) ∧ (atW (World.setCell w (Addr.add (Addr.add a0 4) 0) (Value.bool false)) (fun w2 =>
      (onP (s) (fun a3 =>
        ((∃ v4 : Value, (World.cell? w2 (Addr.add (Addr.add a3 6) 0) = some v4)) ∧ ((World.frozen? w2 (Addr.add (Addr.add a3 6) 0) = false) ∧ (atW (World.setCell w2 (Addr.add (Addr.add a3 6) 0) (Value.int IntKind.i64 0)) (fun w5 =>
          (R (Value.tuple (Array.mk (List.reverse []))) (w5))))))))))))))
theorem ca66 (s : Option Addr) (w : World) (R : Value → World → Prop) (h : W66 s w R) : Ca Try.prog 66 ⟨[(.pointer s)]⟩ w R := by
  have h1 : Try.prog.follows .mixedOrders = true := by kernel_rfl
  have h2 : Try.f66.body = some C66 := by kernel_rfl
  have h3 : (Try.f66.name == "runtime.NumGoroutine") = false := by kernel_rfl
  have h6 : Try.f66.results.toList = [] := by kernel_rfl
  have h4 : Nat.ble 1 8 = true := by kernel_rfl
  have h5 : okCode 8 pl66 ls66 C66 0 = true := by kernel_rfl
  have e : W66 s w R = wpC none Try.prog 8 pl66 ls66 C66 0 (endP Try.prog [] R) (fr0 [(.pointer s)]) [] w := by kernel_rfl
  exact ca_of' (P := Try.prog) (g := 66) (fn := Try.f66) (c := C66) (m := 8) (rs := []) (args := [(.pointer s)]) (pl := pl66) (ls := ls66) (w := w) (R := R) h1 Try.func66 h2 Try.ntmps66 h6 h3 h4 h5 (Eq.mp e h)

/-- (*staith/staithref11.Store).need -/
noncomputable def C67 : Code := (Try.f67.body).getD .skip
def pl67 : Nat → Plan
  | 5 => (.quiet 0 (.quiet 1 (.quiet 2 (.quiet 3 (.quiet 4 (.quiet 5 (.quiet 6 (.quiet 7 (.quiet 8 (.quiet 9 (.quiet 10 (.quiet 11 (.quiet 12 (.eff 13 [] .done))))))))))))))
  | _ => .done
def ls67 : Nat → List (Nat × LT)
  | 4 => [(3, (.one (.int .i64))), (11, (.one (.int .i64)))]
  | _ => []
def W67 (s : Option Addr) (w : World) (R : Value → World → Prop) : Prop :=
  (onP (s) (fun a0 =>
    (∃ p1 : Option Addr, (∃ n2 : Nat, (∃ n3 : Nat, ((World.cell? w (Addr.add a0 2) = some (Value.slice p1 n2 n3)) ∧ (∃ z4 : Int → Int → World → Prop, (∃ z5 : Int → Int → World → Nat, ((z4 (0) (0) (w)) ∧ (∀ (_ : Nat → Value), (∀ (x7 : Int), (∀ (x8 : Int), (∀ (w9 : World), ((z4 (x7) (x8) (w9)) → (ifK (decide (x8 < (↑n2 : Int)))
      (∃ a10 : Addr, ((p1 = some a10) ∧ (((0 : Int) ≤ x8) ∧ (((x8 : Int) < (↑n2 : Int)) ∧ (∃ s11 : ByteArray, ((World.cell? w9 (Addr.add (Addr.add a10 (Int.toNat x8 * 2)) 0) = some (Value.string s11)) ∧ (∃ x12 : Int, ((World.cell? w9 (Addr.add (Addr.add a10 (Int.toNat x8 * 2)) 1) = some (Value.int IntKind.i64 x12)) ∧ (atW (World.alloc w9 (Obj.cells (Array.mk [Value.string (ByteArray.mk #[]), Value.int IntKind.i64 0]) 94 (0, 0))) (fun w13 =>
        ((∃ v14 : Value, (World.cell? w13 (Addr.add (Addr.mk (Array.size (World.heap w9)) 0 none) 0) = some v14)) ∧ ((World.frozen? w13 (Addr.add (Addr.mk (Array.size (World.heap w9)) 0 none) 0) = false) ∧ (atW (World.setCell w13 (Addr.add (Addr.mk (Array.size (World.heap w9)) 0 none) 0) (Value.string s11)) (fun w15 =>
          ((∃ v16 : Value, (World.cell? w15 (Addr.add (Addr.mk (Array.size (World.heap w9)) 0 none) 1) = some v16)) ∧ ((World.frozen? w15 (Addr.add (Addr.mk (Array.size (World.heap w9)) 0 none) 1) = false) ∧ (atW (World.setCell w15 (Addr.add (Addr.mk (Array.size (World.heap w9)) 0 none) 1) (Value.int IntKind.i64 x12)) (fun w17 =>
            (atW (World.drew w17) (fun w18 =>
              (onP (s) (fun a19 =>
                (∃ p20 : Option Addr, (∃ n21 : Nat, (∃ n22 : Nat, ((World.cell? w18 (Addr.add a19 1) = some (Value.slice p20 n21 n22)) ∧ (∃ x23 : Int, ((World.cell? w18 (Addr.add (Addr.mk (Array.size (World.heap w9)) 0 none) 1) = some (Value.int IntKind.i64 x23)) ∧ (∃ a24 : Addr, ((p20 = some a24) ∧ (((0 : Int) ≤ x23) ∧ (((x23 : Int) < (↑n21 : Int)) ∧ (∃ p25 : Option Addr, (∃ n26 : Nat, (∃ n27 : Nat, ((World.cell? w18 (Addr.add (Addr.add a24 (Int.toNat x23 * 2)) 0) = some (Value.slice p25 n26 n27)) ∧ ((z4 (IntKind.wrap IntKind.i64 (x7 + IntKind.wrap IntKind.i64 (16 + (↑n26 : Int)))) (IntKind.wrap IntKind.i64 (x8 + 1)) (w18)) ∧ (z5 (IntKind.wrap IntKind.i64 (x7 + IntKind.wrap IntKind.i64 (16 + (↑n26 : Int)))) (IntKind.wrap IntKind.i64 (x8 + 1)) w18 < z5 x7 x8 w9))))))))))))))))))))))))))))))))))))))
      (R (Value.int IntKind.i64 x7) (w9)))))))))))))))))
theorem ca67 (s : Option Addr) (w : World) (R : Value → World → Prop) (h : W67 s w R) : Ca Try.prog 67 ⟨[(.pointer s)]⟩ w R := by
  have h1 : Try.prog.follows .mixedOrders = true := by kernel_rfl
  have h2 : Try.f67.body = some C67 := by kernel_rfl
  have h3 : (Try.f67.name == "runtime.NumGoroutine") = false := by kernel_rfl
  have h6 : Try.f67.results.toList = [.tmp 2] := by kernel_rfl
  have h4 : Nat.ble 1 30 = true := by kernel_rfl
  have h5 : okCode 30 pl67 ls67 C67 0 = true := by kernel_rfl
  have e : W67 s w R = wpC none Try.prog 30 pl67 ls67 C67 0 (endP Try.prog [.tmp 2] R) (fr0 [(.pointer s)]) [] w := by kernel_rfl
  exact ca_of' (P := Try.prog) (g := 67) (fn := Try.f67) (c := C67) (m := 30) (rs := [.tmp 2]) (args := [(.pointer s)]) (pl := pl67) (ls := ls67) (w := w) (R := R) h1 Try.func67 h2 Try.ntmps67 h6 h3 h4 h5 (Eq.mp e h)

/-- (*staith/staithref11.Store).first -/
noncomputable def C74 : Code := (Try.f74.body).getD .skip
def pl74 : Nat → Plan := fun _ => .done
def ls74 : Nat → List (Nat × LT) := fun _ => []
def W74 (s : Option Addr) (name : ByteArray) (there : Bool) (w : World) (R : Value → World → Prop) : Prop :=
  (onP (s) (fun a0 =>
    (∃ b1 : Bool, ((World.cell? w (Addr.add a0 4) = some (Value.bool b1)) ∧ (ifK (b1)
      (R (Value.int IntKind.i64 9) (w))
      (Ca Try.prog (11) (Array.mk [Value.string name]) (w) (fun v2 => (fun w3 =>
        (∃ b4 : Bool, ((v2 = Value.bool b4) ∧ (ifK (!b4)
          (R (Value.int IntKind.i64 2) (w3))
          (ifK (there)
            (Ca Try.prog (75) (Array.mk [Value.pointer s, Value.string name]) (w3) (fun v5 => (fun w6 =>
              (∃ x7 : Int, ((v5 = Value.int IntKind.i64 x7) ∧ (ifK (decide (x7 < 0))
                (R (Value.int IntKind.i64 3) (w6))
                (R (Value.int IntKind.i64 0) (w6))))))))
            (R (Value.int IntKind.i64 0) (w3))))))))))))))
theorem ca74 (s : Option Addr) (name : ByteArray) (there : Bool) (w : World) (R : Value → World → Prop) (h : W74 s name there w R) : Ca Try.prog 74 ⟨[(.pointer s), (.string name), (.bool there)]⟩ w R := by
  have h1 : Try.prog.follows .mixedOrders = true := by kernel_rfl
  have h2 : Try.f74.body = some C74 := by kernel_rfl
  have h3 : (Try.f74.name == "runtime.NumGoroutine") = false := by kernel_rfl
  have h6 : Try.f74.results.toList = [.tmp 6] := by kernel_rfl
  have h4 : Nat.ble 3 24 = true := by kernel_rfl
  have h5 : okCode 24 pl74 ls74 C74 0 = true := by kernel_rfl
  have e : W74 s name there w R = wpC none Try.prog 24 pl74 ls74 C74 0 (endP Try.prog [.tmp 6] R) (fr0 [(.pointer s), (.string name), (.bool there)]) [] w := by kernel_rfl
  exact ca_of' (P := Try.prog) (g := 74) (fn := Try.f74) (c := C74) (m := 24) (rs := [.tmp 6]) (args := [(.pointer s), (.string name), (.bool there)]) (pl := pl74) (ls := ls74) (w := w) (R := R) h1 Try.func74 h2 Try.ntmps74 h6 h3 h4 h5 (Eq.mp e h)

/-- (*staith/staithref11.Store).find -/
noncomputable def C75 : Code := (Try.f75.body).getD .skip
def pl75 : Nat → Plan := fun _ => .done
def ls75 : Nat → List (Nat × LT)
  | 3 => [(12, (.one (.int .i64)))]
  | _ => []
def W75 (s : Option Addr) (name : ByteArray) (w : World) (R : Value → World → Prop) : Prop :=
  (onP (s) (fun a0 =>
    (∃ p1 : Option Addr, (∃ n2 : Nat, (∃ n3 : Nat, ((World.cell? w (Addr.add a0 2) = some (Value.slice p1 n2 n3)) ∧ (∃ z4 : Int → World → Prop, (∃ z5 : Int → World → Nat, ((z4 (0) (w)) ∧ (∀ (_ : Nat → Value), (∀ (x7 : Int), (∀ (w8 : World), ((z4 (x7) (w8)) → (ifK (decide (x7 < (↑n2 : Int)))
      (∃ a9 : Addr, ((p1 = some a9) ∧ (((0 : Int) ≤ x7) ∧ (((x7 : Int) < (↑n2 : Int)) ∧ (∃ s10 : ByteArray, ((World.cell? w8 (Addr.add (Addr.add a9 (Int.toNat x7 * 2)) 0) = some (Value.string s10)) ∧ (∃ x11 : Int, ((World.cell? w8 (Addr.add (Addr.add a9 (Int.toNat x7 * 2)) 1) = some (Value.int IntKind.i64 x11)) ∧ (atW (World.alloc w8 (Obj.cells (Array.mk [Value.string (ByteArray.mk #[]), Value.int IntKind.i64 0]) 94 (0, 0))) (fun w12 =>
        ((∃ v13 : Value, (World.cell? w12 (Addr.add (Addr.mk (Array.size (World.heap w8)) 0 none) 0) = some v13)) ∧ ((World.frozen? w12 (Addr.add (Addr.mk (Array.size (World.heap w8)) 0 none) 0) = false) ∧ (atW (World.setCell w12 (Addr.add (Addr.mk (Array.size (World.heap w8)) 0 none) 0) (Value.string s10)) (fun w14 =>
          ((∃ v15 : Value, (World.cell? w14 (Addr.add (Addr.mk (Array.size (World.heap w8)) 0 none) 1) = some v15)) ∧ ((World.frozen? w14 (Addr.add (Addr.mk (Array.size (World.heap w8)) 0 none) 1) = false) ∧ (atW (World.setCell w14 (Addr.add (Addr.mk (Array.size (World.heap w8)) 0 none) 1) (Value.int IntKind.i64 x11)) (fun w16 =>
            (∃ s17 : ByteArray, ((World.cell? w16 (Addr.add (Addr.mk (Array.size (World.heap w8)) 0 none) 0) = some (Value.string s17)) ∧ (ifK (ByteArray.toList s17 == ByteArray.toList name)
              (R (Value.int IntKind.i64 x7) (w16))
              ((z4 (IntKind.wrap IntKind.i64 (x7 + 1)) (w16)) ∧ (z5 (IntKind.wrap IntKind.i64 (x7 + 1)) w16 < z5 x7 w8)))))))))))))))))))))))
      (R (Value.int IntKind.i64 (-1)) (w8))))))))))))))))
theorem ca75 (s : Option Addr) (name : ByteArray) (w : World) (R : Value → World → Prop) (h : W75 s name w R) : Ca Try.prog 75 ⟨[(.pointer s), (.string name)]⟩ w R := by
  have h1 : Try.prog.follows .mixedOrders = true := by kernel_rfl
  have h2 : Try.f75.body = some C75 := by kernel_rfl
  have h3 : (Try.f75.name == "runtime.NumGoroutine") = false := by kernel_rfl
  have h6 : Try.f75.results.toList = [.tmp 4] := by kernel_rfl
  have h4 : Nat.ble 2 23 = true := by kernel_rfl
  have h5 : okCode 23 pl75 ls75 C75 0 = true := by kernel_rfl
  have e : W75 s name w R = wpC none Try.prog 23 pl75 ls75 C75 0 (endP Try.prog [.tmp 4] R) (fr0 [(.pointer s), (.string name)]) [] w := by kernel_rfl
  exact ca_of' (P := Try.prog) (g := 75) (fn := Try.f75) (c := C75) (m := 23) (rs := [.tmp 4]) (args := [(.pointer s), (.string name)]) (pl := pl75) (ls := ls75) (w := w) (R := R) h1 Try.func75 h2 Try.ntmps75 h6 h3 h4 h5 (Eq.mp e h)

/-- (*staith/staithref11.Store).count -/
noncomputable def C76 : Code := (Try.f76.body).getD .skip
def pl76 : Nat → Plan := fun _ => .done
def ls76 : Nat → List (Nat × LT) := fun _ => []
def W76 (s : Option Addr) (w : World) (R : Value → World → Prop) : Prop :=
  (onP (s) (fun a0 =>
    (∃ x1 : Int, ((World.cell? w (Addr.add a0 5) = some (Value.int IntKind.i64 x1)) ∧ (onP (s) (fun a2 =>
      ((∃ v3 : Value, (World.cell? w (Addr.add (Addr.add a2 5) 0) = some v3)) ∧ ((World.frozen? w (Addr.add (Addr.add a2 5) 0) = false) ∧ (atW (World.setCell w (Addr.add (Addr.add a2 5) 0) (Value.int IntKind.i64 (IntKind.wrap IntKind.i64 (x1 + 1)))) (fun w4 =>
        (onP (s) (fun a5 =>
          (∃ x6 : Int, ((World.cell? w4 (Addr.add a5 6) = some (Value.int IntKind.i64 x6)) ∧ (ifK (decide (x6 < 1))
            (R (Value.bool false) (w4))
            (onP (s) (fun a7 =>
              (∃ x8 : Int, ((World.cell? w4 (Addr.add a7 6) = some (Value.int IntKind.i64 x8)) ∧ (onP (s) (fun a9 =>
                ((∃ v10 : Value, (World.cell? w4 (Addr.add (Addr.add a9 6) 0) = some v10)) ∧ ((World.frozen? w4 (Addr.add (Addr.add a9 6) 0) = false) ∧ (atW (World.setCell w4 (Addr.add (Addr.add a9 6) 0) (Value.int IntKind.i64 (IntKind.wrap IntKind.i64 (x8 - 1)))) (fun w11 =>
                  (onP (s) (fun a12 =>
                    (∃ x13 : Int, ((World.cell? w11 (Addr.add a12 6) = some (Value.int IntKind.i64 x13)) ∧ (ifK (decide (x13 > 0))
                      (R (Value.bool false) (w11))
                      (onP (s) (fun a14 =>
                        (∃ x15 : Int, ((World.cell? w11 (Addr.add a14 7) = some (Value.int IntKind.i64 x15)) ∧ (Ca Try.prog (65) (Array.mk [Value.pointer s, Value.int IntKind.i64 x15]) (w11) (fun v16 => (fun w17 =>
                          ((v16 = Value.tuple (Array.mk (List.reverse []))) ∧ (R (Value.bool true) (w17))))))))))))))))))))))))))))))))))))))))
theorem ca76 (s : Option Addr) (w : World) (R : Value → World → Prop) (h : W76 s w R) : Ca Try.prog 76 ⟨[(.pointer s)]⟩ w R := by
  have h1 : Try.prog.follows .mixedOrders = true := by kernel_rfl
  have h2 : Try.f76.body = some C76 := by kernel_rfl
  have h3 : (Try.f76.name == "runtime.NumGoroutine") = false := by kernel_rfl
  have h6 : Try.f76.results.toList = [.tmp 2] := by kernel_rfl
  have h4 : Nat.ble 1 33 = true := by kernel_rfl
  have h5 : okCode 33 pl76 ls76 C76 0 = true := by kernel_rfl
  have e : W76 s w R = wpC none Try.prog 33 pl76 ls76 C76 0 (endP Try.prog [.tmp 2] R) (fr0 [(.pointer s)]) [] w := by kernel_rfl
  exact ca_of' (P := Try.prog) (g := 76) (fn := Try.f76) (c := C76) (m := 33) (rs := [.tmp 2]) (args := [(.pointer s)]) (pl := pl76) (ls := ls76) (w := w) (R := R) h1 Try.func76 h2 Try.ntmps76 h6 h3 h4 h5 (Eq.mp e h)

/-- (*staith/staithref11.Store).set -/
noncomputable def C77 : Code := (Try.f77.body).getD .skip
def pl77 : Nat → Plan := fun _ => .done
def ls77 : Nat → List (Nat × LT)
  | 4 => [(6, (.one .slice)), (7, (.one .bool)), (17, (.one (.int .i64)))]
  | _ => []
def W77 (s : Option Addr) (name : ByteArray) (f : Int) (w : World) (R : Value → World → Prop) : Prop :=
  (onP (s) (fun a0 =>
    (∃ p1 : Option Addr, (∃ n2 : Nat, (∃ n3 : Nat, ((World.cell? w (Addr.add a0 2) = some (Value.slice p1 n2 n3)) ∧ (∃ z4 : Option Addr → Nat → Nat → Bool → Int → World → Prop, (∃ z5 : Option Addr → Nat → Nat → Bool → Int → World → Nat, ((z4 (none) (0) (0) (decide (f < 0)) (0) (w)) ∧ (∀ (_ : Nat → Value), (∀ (p7 : Option Addr), (∀ (n8 : Nat), (∀ (n9 : Nat), (∀ (b10 : Bool), (∀ (x11 : Int), (∀ (w12 : World), ((z4 (p7) (n8) (n9) (b10) (x11) (w12)) → (ifK (decide (x11 < (↑n2 : Int)))
      (∃ a13 : Addr, ((p1 = some a13) ∧ (((0 : Int) ≤ x11) ∧ (((x11 : Int) < (↑n2 : Int)) ∧ (∃ s14 : ByteArray, ((World.cell? w12 (Addr.add (Addr.add a13 (Int.toNat x11 * 2)) 0) = some (Value.string s14)) ∧ (∃ x15 : Int, ((World.cell? w12 (Addr.add (Addr.add a13 (Int.toNat x11 * 2)) 1) = some (Value.int IntKind.i64 x15)) ∧ (atW (World.alloc w12 (Obj.cells (Array.mk [Value.string (ByteArray.mk #[]), Value.int IntKind.i64 0]) 94 (0, 0))) (fun w16 =>
        ((∃ v17 : Value, (World.cell? w16 (Addr.add (Addr.mk (Array.size (World.heap w12)) 0 none) 0) = some v17)) ∧ ((World.frozen? w16 (Addr.add (Addr.mk (Array.size (World.heap w12)) 0 none) 0) = false) ∧ (atW (World.setCell w16 (Addr.add (Addr.mk (Array.size (World.heap w12)) 0 none) 0) (Value.string s14)) (fun w18 =>
          ((∃ v19 : Value, (World.cell? w18 (Addr.add (Addr.mk (Array.size (World.heap w12)) 0 none) 1) = some v19)) ∧ ((World.frozen? w18 (Addr.add (Addr.mk (Array.size (World.heap w12)) 0 none) 1) = false) ∧ (atW (World.setCell w18 (Addr.add (Addr.mk (Array.size (World.heap w12)) 0 none) 1) (Value.int IntKind.i64 x15)) (fun w20 =>
            (∃ s21 : ByteArray, ((World.cell? w20 (Addr.add (Addr.mk (Array.size (World.heap w12)) 0 none) 0) = some (Value.string s21)) ∧ (ifK (ByteArray.toList s21 == ByteArray.toList name)
              ((z4 (p7) (n8) (n9) (b10) (IntKind.wrap IntKind.i64 (x11 + 1)) (w20)) ∧ (z5 p7 n8 n9 b10 (IntKind.wrap IntKind.i64 (x11 + 1)) w20 < z5 p7 n8 n9 b10 x11 w12))
              (∃ s22 : ByteArray, ((World.cell? w20 (Addr.add (Addr.mk (Array.size (World.heap w12)) 0 none) 0) = some (Value.string s22)) ∧ (ifK (!(Op.bytesLess (ByteArray.toList s22) (ByteArray.toList name) || ByteArray.toList s22 == ByteArray.toList name))
                (ifK (!b10)
                  (atW (World.alloc w20 (Obj.cells (Array.mk [Value.string name, Value.int IntKind.i64 f]) 94 (0, 0))) (fun w23 =>
                    (∃ v24 : Value, (∃ w25 : World, ((Sem.run Try.prog (Builtin.append_ (Array.mk [58, 58]) 58 (Array.mk [Value.slice p7 n8 n9, Value.slice (some (Addr.mk (Array.size (World.heap w20)) 0 none)) 1 1])) w23 = Result.ok v24 w25) ∧ (∃ p26 : Option Addr, (∃ n27 : Nat, (∃ n28 : Nat, ((v24 = Value.slice p26 n27 n28) ∧ (∃ s29 : ByteArray, ((World.cell? w25 (Addr.add (Addr.mk (Array.size (World.heap w12)) 0 none) 0) = some (Value.string s29)) ∧ (∃ x30 : Int, ((World.cell? w25 (Addr.add (Addr.mk (Array.size (World.heap w12)) 0 none) 1) = some (Value.int IntKind.i64 x30)) ∧ (atW (World.alloc w25 (Obj.cells (Array.mk [Value.string s29, Value.int IntKind.i64 x30]) 94 (0, 0))) (fun w31 =>
                      (∃ v32 : Value, (∃ w33 : World, ((Sem.run Try.prog (Builtin.append_ (Array.mk [58, 58]) 58 (Array.mk [Value.slice p26 n27 n28, Value.slice (some (Addr.mk (Array.size (World.heap w25)) 0 none)) 1 1])) w31 = Result.ok v32 w33) ∧ (∃ p34 : Option Addr, (∃ n35 : Nat, (∃ n36 : Nat, ((v32 = Value.slice p34 n35 n36) ∧ ((z4 (p34) (n35) (n36) (true) (IntKind.wrap IntKind.i64 (x11 + 1)) (w33)) ∧ (z5 p34 n35 n36 true (IntKind.wrap IntKind.i64 (x11 + 1)) w33 < z5 p7 n8 n9 b10 x11 w12))))))))))))))))))))))))
                  (∃ s37 : ByteArray, ((World.cell? w20 (Addr.add (Addr.mk (Array.size (World.heap w12)) 0 none) 0) = some (Value.string s37)) ∧ (∃ x38 : Int, ((World.cell? w20 (Addr.add (Addr.mk (Array.size (World.heap w12)) 0 none) 1) = some (Value.int IntKind.i64 x38)) ∧ (atW (World.alloc w20 (Obj.cells (Array.mk [Value.string s37, Value.int IntKind.i64 x38]) 94 (0, 0))) (fun w39 =>
                    (∃ v40 : Value, (∃ w41 : World, ((Sem.run Try.prog (Builtin.append_ (Array.mk [58, 58]) 58 (Array.mk [Value.slice p7 n8 n9, Value.slice (some (Addr.mk (Array.size (World.heap w20)) 0 none)) 1 1])) w39 = Result.ok v40 w41) ∧ (∃ p42 : Option Addr, (∃ n43 : Nat, (∃ n44 : Nat, ((v40 = Value.slice p42 n43 n44) ∧ ((z4 (p42) (n43) (n44) (b10) (IntKind.wrap IntKind.i64 (x11 + 1)) (w41)) ∧ (z5 p42 n43 n44 b10 (IntKind.wrap IntKind.i64 (x11 + 1)) w41 < z5 p7 n8 n9 b10 x11 w12))))))))))))))))
                (∃ s45 : ByteArray, ((World.cell? w20 (Addr.add (Addr.mk (Array.size (World.heap w12)) 0 none) 0) = some (Value.string s45)) ∧ (∃ x46 : Int, ((World.cell? w20 (Addr.add (Addr.mk (Array.size (World.heap w12)) 0 none) 1) = some (Value.int IntKind.i64 x46)) ∧ (atW (World.alloc w20 (Obj.cells (Array.mk [Value.string s45, Value.int IntKind.i64 x46]) 94 (0, 0))) (fun w47 =>
                  (∃ v48 : Value, (∃ w49 : World, ((Sem.run Try.prog (Builtin.append_ (Array.mk [58, 58]) 58 (Array.mk [Value.slice p7 n8 n9, Value.slice (some (Addr.mk (Array.size (World.heap w20)) 0 none)) 1 1])) w47 = Result.ok v48 w49) ∧ (∃ p50 : Option Addr, (∃ n51 : Nat, (∃ n52 : Nat, ((v48 = Value.slice p50 n51 n52) ∧ ((z4 (p50) (n51) (n52) (b10) (IntKind.wrap IntKind.i64 (x11 + 1)) (w49)) ∧ (z5 p50 n51 n52 b10 (IntKind.wrap IntKind.i64 (x11 + 1)) w49 < z5 p7 n8 n9 b10 x11 w12)))))))))))))))))))))))))))))))))))))))
      (ifK (!b10)
        (atW (World.alloc w12 (Obj.cells (Array.mk [Value.string name, Value.int IntKind.i64 f]) 94 (0, 0))) (fun w53 =>
          (∃ v54 : Value, (∃ w55 : World, ((Sem.run Try.prog (Builtin.append_ (Array.mk [58, 58]) 58 (Array.mk [Value.slice p7 n8 n9, Value.slice (some (Addr.mk (Array.size (World.heap w12)) 0 none)) 1 1])) w53 = Result.ok v54 w55) ∧ (∃ p56 : Option Addr, (∃ n57 : Nat, (∃ n58 : Nat, ((v54 = Value.slice p56 n57 n58) ∧ (onP (s) (fun a59 =>
            ((∃ v60 : Value, (World.cell? w55 (Addr.add (Addr.add a59 2) 0) = some v60)) ∧ ((World.frozen? w55 (Addr.add (Addr.add a59 2) 0) = false) ∧ (atW (World.setCell w55 (Addr.add (Addr.add a59 2) 0) (Value.slice p56 n57 n58)) (fun w61 =>
              (R (Value.tuple (Array.mk (List.reverse []))) (w61)))))))))))))))))
        (onP (s) (fun a62 =>
          ((∃ v63 : Value, (World.cell? w12 (Addr.add (Addr.add a62 2) 0) = some v63)) ∧ ((World.frozen? w12 (Addr.add (Addr.add a62 2) 0) = false) ∧ (atW (World.setCell w12 (Addr.add (Addr.add a62 2) 0) (Value.slice p7 n8 n9)) (fun w64 =>
            (R (Value.tuple (Array.mk (List.reverse []))) (w64)))))))))))))))))))))))))))
theorem ca77 (s : Option Addr) (name : ByteArray) (f : Int) (w : World) (R : Value → World → Prop) (h : W77 s name f w R) : Ca Try.prog 77 ⟨[(.pointer s), (.string name), (.int .i64 f)]⟩ w R := by
  have h1 : Try.prog.follows .mixedOrders = true := by kernel_rfl
  have h2 : Try.f77.body = some C77 := by kernel_rfl
  have h3 : (Try.f77.name == "runtime.NumGoroutine") = false := by kernel_rfl
  have h6 : Try.f77.results.toList = [] := by kernel_rfl
  have h4 : Nat.ble 3 56 = true := by kernel_rfl
  have h5 : okCode 56 pl77 ls77 C77 0 = true := by kernel_rfl
  have e : W77 s name f w R = wpC none Try.prog 56 pl77 ls77 C77 0 (endP Try.prog [] R) (fr0 [(.pointer s), (.string name), (.int .i64 f)]) [] w := by kernel_rfl
  exact ca_of' (P := Try.prog) (g := 77) (fn := Try.f77) (c := C77) (m := 56) (rs := []) (args := [(.pointer s), (.string name), (.int .i64 f)]) (pl := pl77) (ls := ls77) (w := w) (R := R) h1 Try.func77 h2 Try.ntmps77 h6 h3 h4 h5 (Eq.mp e h)

/-- (*staith/staithref11.Store).file -/
noncomputable def C78 : Code := (Try.f78.body).getD .skip
def pl78 : Nat → Plan
  | 1 => (.quiet 0 (.quiet 1 (.quiet 2 (.quiet 3 (.quiet 4 (.quiet 5 (.quiet 6 (.quiet 7 (.quiet 8 (.quiet 9 (.eff 10 [3, 7] (.quiet 11 (.quiet 12 (.quiet 13 (.quiet 14 (.quiet 15 .done))))))))))))))))
  | _ => .done
def ls78 : Nat → List (Nat × LT) := fun _ => []
def W78 (s : Option Addr) (name : ByteArray) (w : World) (R : Value → World → Prop) : Prop :=
  (atW (World.drew w) (fun w0 =>
    (onP (s) (fun a1 =>
      (∃ p2 : Option Addr, (∃ n3 : Nat, (∃ n4 : Nat, ((World.cell? w0 (Addr.add a1 1) = some (Value.slice p2 n3 n4)) ∧ (onP (s) (fun a5 =>
        (∃ p6 : Option Addr, (∃ n7 : Nat, (∃ n8 : Nat, ((World.cell? w0 (Addr.add a5 2) = some (Value.slice p6 n7 n8)) ∧ (Ca Try.prog (75) (Array.mk [Value.pointer s, Value.string name]) (w0) (fun v9 => (fun w10 =>
          (∃ x11 : Int, ((v9 = Value.int IntKind.i64 x11) ∧ ((World.cell? w10 (Addr.add (Addr.add a1 1) 0) = some (Value.slice p2 n3 n4)) ∧ ((World.cell? w10 (Addr.add (Addr.add a5 2) 0) = some (Value.slice p6 n7 n8)) ∧ (∃ a12 : Addr, ((p6 = some a12) ∧ (((0 : Int) ≤ x11) ∧ (((x11 : Int) < (↑n7 : Int)) ∧ (∃ x13 : Int, ((World.cell? w10 (Addr.add (Addr.add a12 (Int.toNat x11 * 2)) 1) = some (Value.int IntKind.i64 x13)) ∧ (∃ a14 : Addr, ((p2 = some a14) ∧ (((0 : Int) ≤ x13) ∧ (((x13 : Int) < (↑n3 : Int)) ∧ (R (Value.pointer (some (Addr.add a14 (Int.toNat x13 * 2)))) (w10)))))))))))))))))))))))))))))))))
theorem ca78 (s : Option Addr) (name : ByteArray) (w : World) (R : Value → World → Prop) (h : W78 s name w R) : Ca Try.prog 78 ⟨[(.pointer s), (.string name)]⟩ w R := by
  have h1 : Try.prog.follows .mixedOrders = true := by kernel_rfl
  have h2 : Try.f78.body = some C78 := by kernel_rfl
  have h3 : (Try.f78.name == "runtime.NumGoroutine") = false := by kernel_rfl
  have h6 : Try.f78.results.toList = [.tmp 4] := by kernel_rfl
  have h4 : Nat.ble 2 20 = true := by kernel_rfl
  have h5 : okCode 20 pl78 ls78 C78 0 = true := by kernel_rfl
  have e : W78 s name w R = wpC none Try.prog 20 pl78 ls78 C78 0 (endP Try.prog [.tmp 4] R) (fr0 [(.pointer s), (.string name)]) [] w := by kernel_rfl
  exact ca_of' (P := Try.prog) (g := 78) (fn := Try.f78) (c := C78) (m := 20) (rs := [.tmp 4]) (args := [(.pointer s), (.string name)]) (pl := pl78) (ls := ls78) (w := w) (R := R) h1 Try.func78 h2 Try.ntmps78 h6 h3 h4 h5 (Eq.mp e h)
end Go.Proofs.Ytemklabamlifdaa

/- The reference's store as it lies; what it finds, needs and names. -/
namespace Go.Proofs.Ytemklabamlifdaa
open Go Go.Proofs.Ytemklabamlifdaa.St

/-! ### How it lies -/
structure RF where
  na : Option Addr
  nl : Nat
  nc : Nat
  sa : Option Addr
  sl : Nat
  sc : Nat
def fileL : Lay RF where
  cs x := [.slice x.na x.nl x.nc, .slice x.sa x.sl x.sc]
  s := 2
  pos := by decide
  len _ := rfl
  one x v hv := by simp at hv; rcases hv with rfl | rfl <;> rfl
def entL : Lay (ByteArray × Nat) where
  cs x := [.string x.1, .int .i64 x.2]
  s := 2
  pos := by decide
  len _ := rfl
  one x v hv := by simp at hv; rcases hv with rfl | rfl <;> rfl
theorem filesLaid : laidOk Try.prog 57 103 2 = true := by kernel_rfl
theorem entsLaid : laidOk Try.prog 58 94 2 = true := by kernel_rfl
theorem strsLaid : laidOk Try.prog 36 9 1 = true := by kernel_rfl

def FR (w : World) (G : Nat → Prop) (x : RF) (f : Bs × Bs) : Prop := Els u8v 5 w x.na x.nl x.nc f.1 ∧ Els u8v 5 w x.sa x.sl x.sc f.2 ∧ (∀ k, rowB x.na k → G k) ∧ ∀ k, rowB x.sa k → G k
structure RA where
  pa : Option Addr
  la : Nat
  ca : Nat
  fs : List RF
  pd : Option Addr
  ld : Nat
  cd : Nat
  ps : Option Addr
  ls : Nat
  cs : Nat
structure RS (w : World) (r : Nat) (G : Nat → Prop) (a : AS) (x : RA) : Prop where
  cell : w.heap[r]? = some (.cells #[.int .i64 a.room, .slice x.pa x.la x.ca, .slice x.pd x.ld x.cd, .slice x.ps x.ls x.cs, .bool a.dark, .int .i64 a.count, .int .i64 a.left, .int .i64 a.keep] 60 (0, 0))
  all : Row fileL 103 w x.pa x.la x.ca x.fs
  dir : Row entL 94 w x.pd x.ld x.cd a.dir
  sure : Row entL 94 w x.ps x.ls x.cs a.sure
  files : AllAt (FR w G) x.fs a.all
  gr : G r
  ga : ∀ k, rowB x.pa k → G k
  gd : ∀ k, rowB x.pd k → G k
  gs : ∀ k, rowB x.ps k → G k
/-- The reference's store at r, in the blocks G, is a. -/
def Rt (w : World) (r : Nat) (G : Nat → Prop) (a : AS) : Prop := ∃ x, RS w r G a x
def RP (r : Nat) (G : Nat → Prop) (w : World) (a' : AS) (w' : World) : Prop := ∃ G', Rt w' r G' a' ∧ (∀ k, G' k → G k ∨ w.heap.size ≤ k) ∧ Mod G w w'

section
variable {α : Type} {L : Lay α} {e : TypeId} {w w' w'' : World} {p : Option Addr} {l c : Nat} {xs : List α}
theorem St.Row.ty (h : Row L e w p l c xs) {k : Nat} (hk : rowB p k) : ∃ cs, w.heap[k]? = some (.cells cs e (0, 0)) := by
  rcases h.block with ⟨rfl, _⟩ | ⟨g, cur, rfl, hg, _⟩
  · simp [rowB] at hk
  · simp [rowB] at hk; subst hk; exact ⟨_, hg⟩
/-- No block of T has cells of type e. -/
def NoTy (w : World) (T : Nat → Prop) (e : TypeId) : Prop := ∀ k cs z, T k → w.heap[k]? ≠ some (.cells cs e z)
theorem St.Row.noty {T : Nat → Prop} (h : Row L e w p l c xs) (hm : Mod T w w') (hs : NoTy w T e) : Row L e w' p l c xs :=
  h.mod hm fun k hk ht => let ⟨_, hc⟩ := h.ty hk; hs k _ _ ht hc
theorem noTy_on {k : Nat} {cs : Array Value} {t e : TypeId} (h : w.heap[k]? = some (.cells cs t (0, 0))) (hn : t ≠ e) : NoTy w (on k) e := fun j cs' z hj hc => by
  cases hj
  rw [h] at hc
  injection hc with hc
  injection hc with _ hc
  exact hn hc

variable {r : Nat} {G T : Nat → Prop} {a b : AS} {x : RA}
theorem FR.mod {f : RF} {q : Bs × Bs} (h : FR w G f q) (hm : Mod T w w') (hs : ∀ k, G k → ¬ T k) : FR w' G f q := ⟨els_mod h.1 hm fun k hk => hs k (h.2.2.1 k hk), els_mod h.2.1 hm fun k hk => hs k (h.2.2.2 k hk), h.2.2⟩
theorem FR.norow {f : RF} {q : Bs × Bs} (h : FR w G f q) (hm : Mod T w w') (hs : NoRow w T) : FR w' G f q := ⟨els_norow h.1 hm hs, els_norow h.2.1 hm hs, h.2.2⟩
theorem FR.mono {f : RF} {q : Bs × Bs} {G' : Nat → Prop} (h : FR w G f q) (hs : ∀ k, G k → G' k) : FR w G' f q := ⟨h.1, h.2.1, fun k hk => hs k (h.2.2.1 k hk), fun k hk => hs k (h.2.2.2 k hk)⟩
theorem RS.mod (h : RS w r G a x) (hm : Mod T w w') (hs : ∀ k, G k → ¬ T k) : RS w' r G a x :=
  ⟨hm.at h.cell (hs _ h.gr), h.all.mod hm fun k hk => hs _ (h.ga k hk), h.dir.mod hm fun k hk => hs _ (h.gd k hk), h.sure.mod hm fun k hk => hs _ (h.gs k hk), h.files.imp fun _ _ q => q.mod hm hs, h.gr, h.ga, h.gd, h.gs⟩
theorem RS.no (h : RS w r G a x) (hm : Mod St.no w w') : RS w' r G a x := h.mod hm fun _ _ => id
theorem Rt.mod (h : Rt w r G a) (hm : Mod T w w') (hs : ∀ k, G k → ¬ T k) : Rt w' r G a := let ⟨x, h⟩ := h; ⟨x, h.mod hm hs⟩
theorem Rt.no (h : Rt w r G a) (hm : Mod St.no w w') : Rt w' r G a := h.mod hm fun _ _ => id
theorem RP.refl (h : Rt w r G a) : RP r G w a w := ⟨G, h, fun _ h => .inl h, Mod.refl _ _⟩
theorem RP.of_no (h : Rt w r G a) (hm : Mod St.no w w') : RP r G w a w' := ⟨G, Rt.no h hm, fun _ h => .inl h, hm.of_no⟩
theorem RP.pre (hm : Mod St.no w w') (h : RP r G w' a w'') : RP r G w a w'' :=
  let ⟨F', h1, h2, h3⟩ := h
  ⟨F', h1, fun k hk => (h2 k hk).imp id fun h => Nat.le_trans hm.size h, hm.no_trans h3⟩
theorem RP.post (h : RP r G w a w') (hm : Mod St.no w' w'') : RP r G w a w'' :=
  let ⟨F', h1, h2, h3⟩ := h
  ⟨F', Rt.no h1 hm, h2, h3.trans_no hm⟩
theorem RP.trans (h : RP r G w a w') (h' : ∀ G', Rt w' r G' a → RP r G' w' b w'') : RP r G w b w'' := by
  obtain ⟨F1, h1, h2, h3⟩ := h
  obtain ⟨F2, g1, g2, g3⟩ := h' F1 h1
  refine ⟨F2, g1, fun k hk => ?_, h3.trans' g3 fun k hk hf => ?_⟩
  · rcases g2 k hk with h | h
    · exact h2 k h
    · exact .inr (Nat.le_trans h3.size h)
  · rcases h2 k hf with h | h
    · exact h
    · omega
/-- The store's own words change. -/
theorem RS.scal (h : RS w r G a x) (hm : Mod (on r) w w') (b : AS) (h1 : b.room = a.room) (h2 : b.all = a.all) (h3 : b.dir = a.dir) (h4 : b.sure = a.sure)
    (hc : w'.heap[r]? = some (.cells #[.int .i64 a.room, .slice x.pa x.la x.ca, .slice x.pd x.ld x.cd, .slice x.ps x.ls x.cs, .bool b.dark, .int .i64 b.count, .int .i64 b.left, .int .i64 b.keep] 60 (0, 0))) : RS w' r G b x := by
  cases a; cases b
  simp only at h1 h2 h3 h4 hc
  subst h1; subst h2; subst h3; subst h4
  exact ⟨hc, h.all.noty hm (noTy_on h.cell (by decide)), h.dir.noty hm (noTy_on h.cell (by decide)), h.sure.noty hm (noTy_on h.cell (by decide)), h.files.imp fun _ _ q => q.norow hm (noTy_on h.cell (by decide)), h.gr, h.ga, h.gd, h.gs⟩
end

/-- An entry is copied into a place of its own. -/
theorem copyEnt {w : World} {p : Option Addr} {l c : Nat} {D : List (ByteArray × Nat)} (hr : Row entL 94 w p l c D) {x : Int} (i : Nat) (hx : x = i) (hi : i < D.length) {K : World → Prop}
    (hk : ∀ w', w'.heap[w.heap.size]? = some (.cells #[.string D[i].1, .int .i64 D[i].2] 94 (0, 0)) → Mod no w w' → K w') :
    ∃ ad : Addr, p = some ad ∧ (0 : Int) ≤ x ∧ x < (↑l : Int) ∧ ∃ x0 : ByteArray, w.cell? (Addr.add (Addr.add ad (Int.toNat x * 2)) 0) = some (.string x0) ∧ ∃ x1 : Int, w.cell? (Addr.add (Addr.add ad (Int.toNat x * 2)) 1) = some (.int .i64 x1) ∧
      atW (w.alloc (.cells ⟨[.string ⟨#[]⟩, .int .i64 0]⟩ 94 (0, 0))) fun w1 => fillC w.heap.size [.string x0, .int .i64 x1] 0 w1 K := by
  subst hx
  obtain ⟨g, rfl, hg⟩ := hr.get hi
  have hl := hr.len.1
  have hg : ∀ j v, (entL.cs D[i])[j]? = some v → w.cell? (Addr.add (Addr.add ⟨g, 0, none⟩ (Int.toNat (i : Int) * 2)) j) = some v := hg
  refine ⟨_, rfl, by omega, by omega, _, hg 0 _ rfl, _, hg 1 _ rfl, ?_⟩
  intro w2 e2
  have m2 : Mod no w w2 := by subst e2; exact Mod.alloc _ _
  have b2 : w2.heap[w.heap.size]? = some (.cells #[.string (ByteArray.mk #[]), .int .i64 0] 94 (0, 0)) := by subst e2; exact new_at _ _
  clear e2
  refine fillC_ok (vs := entL.cs D[i]) b2 rfl fun w3 b3 m3 _ => hk w3 b3 (m2.new m3 fun k hk => by cases hk; exact Nat.le_refl _)

theorem strEq (x y : ByteArray) : (ByteArray.toList x == ByteArray.toList y) = decide (x = y) := by
  rw [byteArray_toList, byteArray_toList, Bool.eq_iff_iff, beq_iff_eq, decide_eq_true_iff]
  constructor
  · intro h
    cases x; cases y
    simp only at h
    rw [Array.toList_inj.1 h]
  · intro h; rw [h]

section
variable {w : World} {r : Nat} {G : Nat → Prop} {a : AS} {x : RA}
theorem dget_at {D : List (ByteArray × Nat)} {n : ByteArray} {i : Nat} (hi : i < D.length) (hn : D[i].1 = n) (hb : ∀ j (h : j < D.length), j < i → D[j].1 ≠ n) : dget D n = some D[i].2 := by
  induction D generalizing i with
  | nil => simp at hi
  | cons p q ih =>
    rw [dget, List.find?_cons]
    cases i with
    | zero =>
      have : (n == p.1) = true := by simpa using hn.symm
      rw [this]; rfl
    | succ i =>
      have h0 := hb 0 (by simp) (by omega)
      have : (n == p.1) = false := beq_false_of_ne fun e => h0 e.symm
      rw [this]
      have := ih (i := i) (by simpa using hi) (by simpa using hn) fun j h hj => hb (j + 1) (by simpa using h) (by omega)
      rw [dget] at this
      simpa using this

theorem find_ok (h : RS w r G a x) (hok : a.Ok) (n : ByteArray) (R : Value → World → Prop) (h0 : dget a.dir n = none → ∀ w', Mod no w w' → R (.int .i64 (-1)) w')
    (h1 : ∀ i (hi : i < a.dir.length), dget a.dir n = some a.dir[i].2 → ∀ w', Mod no w w' → R (.int .i64 i) w') : Ca Try.prog 75 #[.pointer (some ⟨r, 0, none⟩), .string n] w R := by
  refine ca75 _ n w R ?_
  have hl := h.dir.len.1
  have hdn := hok.dirN
  refine ⟨x.pd, x.ld, x.cd, by rw [cl1 h.cell]; rfl, fun y w' => ∃ i : Nat, y = i ∧ i ≤ x.ld ∧ Mod no w w' ∧ ∀ j (hj : j < a.dir.length), j < i → a.dir[j].1 ≠ n, fun y _ => ((x.ld : Int) - y).toNat, ⟨0, rfl, Nat.zero_le _, Mod.refl _ _, fun j _ h => by omega⟩, ?_⟩
  rintro _ _ w1 ⟨i, rfl, hi, m1, hb⟩
  refine ifK_dec (fun hlt => ?_) (fun hge => ?_)
  · have hil : i < a.dir.length := by omega
    refine copyEnt (h.dir.no m1) i rfl hil fun w2 b2 m2 => ?_
    have m12 := m1.trans m2
    refine ⟨_, by rw [cl1 b2]; rfl, ?_⟩
    rw [strEq]
    have e1 : IntKind.i64.wrap ((i : Int) + 1) = ((i + 1 : Nat) : Int) := by rw [wrap64 (by omega) (by omega)]; rfl
    refine ifK_dec (fun he => ?_) (fun hne => ?_)
    · exact h1 i hil (dget_at hil he hb) w2 m12
    · rw [e1]
      refine ⟨⟨i + 1, rfl, by omega, m12, fun j hj hlt => ?_⟩, by simp only; omega⟩
      by_cases e : j = i
      · subst e; exact hne
      · exact hb j hj (by omega)
  · refine h0 (dget_none.2 fun p hp => ?_) w1 m1
    obtain ⟨j, hj, rfl⟩ := List.getElem_of_mem hp
    exact hb j hj (by omega)

theorem need_ok (h : RS w r G a x) (hok : a.Ok) (R : Value → World → Prop) (hR : ∀ w', Mod no w w' → R (.int .i64 a.need) w') : Ca Try.prog 67 #[.pointer (some ⟨r, 0, none⟩)] w R := by
  refine ca67 _ w R ?_
  have hl := h.dir.len.1
  have hdn := hok.dirN
  have hle := AS.need_le hok
  have psum : ∀ i, i ≤ a.dir.length → ((a.dir.take i).map fun p => 16 + a.len p.2).sum ≤ a.need := by
    intro i _
    have h1 : ((a.dir.take i).map fun p => 16 + a.len p.2).sum + ((a.dir.drop i).map fun p => 16 + a.len p.2).sum = a.need := by
      rw [← List.sum_append, ← List.map_append, List.take_append_drop]; rfl
    omega
  refine ⟨x.pd, x.ld, x.cd, by rw [cl1 h.cell]; rfl, fun n y w' => ∃ i : Nat, y = i ∧ i ≤ x.ld ∧ Mod no w w' ∧ n = (((a.dir.take i).map fun p => 16 + a.len p.2).sum : Nat), fun _ y _ => ((x.ld : Int) - y).toNat, ⟨0, rfl, Nat.zero_le _, Mod.refl _ _, by simp⟩, ?_⟩
  rintro _ _ _ w1 ⟨i, rfl, hi, m1, rfl⟩
  refine ifK_dec (fun hlt => ?_) (fun hge => ?_)
  · have hil : i < a.dir.length := by omega
    refine copyEnt (h.dir.no m1) i rfl hil fun w2 b2 m2 => ?_
    intro w3 e3
    have m3 : Mod no w2 w3 := by subst e3; exact Mod.drew _
    clear e3
    have m13 := (m1.trans m2).trans m3
    have h3 := h.no m13
    have hfl := h.all.len.1
    have hlen := h.files.len
    have hlt2 := hok.dirI a.dir[i] (List.getElem_mem hil)
    have hi2 : a.dir[i].2 < x.fs.length := by omega
    have hfr := h3.files.get a.dir[i].2 hi2 hlt2
    obtain ⟨g, hg, hcell⟩ := h3.all.getS hi2 (s := 2) rfl
    have h1 := hcell 0 _ rfl
    have hnl : (x.fs[a.dir[i].2]).nl = a.len a.dir[i].2 := by
      have := hfr.1.len.1
      rw [AS.len, AS.file, List.getElem?_eq_getElem hlt2]
      exact this.symm
    refine ⟨x.pa, x.la, x.ca, by rw [cl1 h3.cell]; rfl, _, by rw [cl1 (m3.at' b2)]; rfl, _, hg, by omega, by omega, _, _, _, by rw [Int.toNat_natCast]; exact h1, ?_⟩
    have e1 : IntKind.i64.wrap ((i : Int) + 1) = ((i + 1 : Nat) : Int) := by rw [wrap64 (by omega) (by omega)]; rfl
    rw [e1, hnl]
    clear e1
    have hs : ((a.dir.take (i + 1)).map fun p => 16 + a.len p.2).sum = ((a.dir.take i).map fun p => 16 + a.len p.2).sum + (16 + a.len a.dir[i].2) := by
      rw [List.take_succ_eq_append_getElem hil, List.map_append, List.sum_append]; simp
    have hb := psum (i + 1) (by omega)
    refine ⟨⟨i + 1, rfl, by omega, m13, ?_⟩, by simp only; omega⟩
    rw [hs] at hb ⊢
    rw [wrap64 (x := 16 + ((a.len a.dir[i].2 : Nat) : Int)) (by omega) (by omega), wrap64 (by omega) (by omega)]
    omega
  · have hil : i = a.dir.length := by omega
    have h := hR w1 m1
    subst hil
    rw [List.take_length]
    exact h

theorem namesR_ok (h : RS w r G a x) (hok : a.Ok) (R : Value → World → Prop) (hR : ∀ w' p l c, Strs w' p l c a.names → Mod no w w' → (∀ k, rowB p k → w.heap.size ≤ k) → R (.slice p l c) w') : Ca Try.prog 34 #[.pointer (some ⟨r, 0, none⟩)] w R := by
  refine ca34 _ w R ?_
  have hl := h.dir.len.1
  have hdn := hok.dirN
  refine ⟨x.pd, x.ld, x.cd, by rw [cl1 h.cell]; rfl, fun p l c y w' => ∃ i : Nat, y = i ∧ i ≤ x.ld ∧ Mod no w w' ∧ Strs w' p l c (if a.dark then [] else (a.dir.take i).map (·.1)) ∧ ∀ k, rowB p k → w.heap.size ≤ k, fun _ _ _ y _ => ((x.ld : Int) - y).toNat,
    ⟨0, rfl, Nat.zero_le _, Mod.refl _ _, by simpa using Els.nil 9 w, fun k hk => by simp [rowB] at hk⟩, ?_⟩
  rintro _ p l c _ w1 ⟨i, rfl, hi, m1, hs, hn⟩
  refine ifK_dec (fun hlt => ?_) (fun hge => ?_)
  · have hil : i < a.dir.length := by omega
    refine copyEnt (h.dir.no m1) i rfl hil fun w2 b2 m2 => ?_
    have m12 := m1.trans m2
    have e1 : IntKind.i64.wrap ((i : Int) + 1) = ((i + 1 : Nat) : Int) := by rw [wrap64 (by omega) (by omega)]; rfl
    rw [e1]
    clear e1
    refine ⟨a.dark, by rw [cl1 (h.no m12).cell]; rfl, ?_⟩
    have hs2 : Strs w2 p l c _ := row_mod hs m2 fun _ _ => id
    cases hd : a.dark with
    | true =>
      rw [hd] at hs2
      refine (ifK_of (fun h => by cases h) (fun _ => ?_) : ifK false _ _)
      exact ⟨⟨i + 1, rfl, by omega, m12, hs2, hn⟩, by simp only; omega⟩
    | false =>
      rw [hd] at hs2
      refine (ifK_of (fun _ => ?_) (fun h => by cases h) : ifK true _ _)
      refine ⟨_, by rw [cl1 b2]; rfl, fun w3 e3 => ?_⟩
      have m3 : Mod no w2 w3 := by subst e3; exact Mod.alloc _ _
      have b3 : w3.heap[w2.heap.size]? = some (.cells #[.string a.dir[i].1] 9 (0, 0)) := by subst e3; exact new_at _ _
      clear e3
      have hs3 : Strs w3 p l c ((a.dir.take i).map (·.1)) := row_mod hs2 m3 fun _ _ => id
      have hll := hs3.len.1
      rw [List.length_map, List.length_take] at hll
      obtain ⟨a', c', w4, hrun, h2, h3, h4⟩ := hs3.push1 (P := Try.prog) (ty := 36) (fun _ => rfl) strsLaid b3 (by omega)
      refine ⟨_, w4, hrun, _, _, _, rfl, ⟨i + 1, rfl, by omega, (m12.trans m3).new h3 hn, ?_, fun k hk => ?_⟩, by simp only; omega⟩
      · have : (a.dir.take (i + 1)).map (·.1) = (a.dir.take i).map (·.1) ++ [a.dir[i].1] := by rw [List.take_succ_eq_append_getElem hil, List.map_append]; rfl
        simp only [Bool.false_eq_true, if_false, this]
        exact h2
      · rcases h4 k hk with h | h
        · exact hn k h
        · have := (m12.trans m3).size; omega
  · have hil : i = a.dir.length := by omega
    subst hil
    rw [List.take_length] at hs
    exact hR w1 p l c hs m1 hn

theorem usedR_ok (h : RS w r G a x) (hok : a.Ok) (R : Value → World → Prop) (hR : ∀ w', Mod no w w' → R (.int .i64 a.used) w') : Ca Try.prog 35 #[.pointer (some ⟨r, 0, none⟩)] w R := by
  refine ca35 _ w R ?_
  refine ⟨a.dark, by rw [cl1 h.cell]; rfl, ?_⟩
  cases hd : a.dark with
  | true =>
    have hu : a.used = 0 := by rw [AS.used, if_pos hd]
    rw [hu] at hR
    exact (ifK_of (fun _ => hR w (Mod.refl _ _)) (fun h => by cases h) : ifK true _ _)
  | false =>
    have hu : a.used = a.need := by rw [AS.used, if_neg (by rw [hd]; simp)]
    rw [hu] at hR
    refine (ifK_of (fun h => by cases h) (fun _ => ?_) : ifK false _ _)
    exact need_ok h hok _ fun w' m' => ⟨_, rfl, hR w' m'⟩

/-- The errors that come first. -/
def AS.first (a : AS) (n : ByteArray) (there : Bool) : Int := if a.dark then 9 else if goodB n = false then 2 else if there = true ∧ dget a.dir n = none then 3 else 0
theorem first_ok (h : RS w r G a x) (hok : a.Ok) (n : ByteArray) (hn : n.size < 4611686018427387904) (there : Bool) (R : Value → World → Prop) (hR : ∀ w', Mod no w w' → R (.int .i64 (a.first n there)) w') :
    Ca Try.prog 74 #[.pointer (some ⟨r, 0, none⟩), .string n, .bool there] w R := by
  refine ca74 _ n there w R ?_
  refine ⟨a.dark, by rw [cl1 h.cell]; rfl, ?_⟩
  cases hd : a.dark with
  | true =>
    rw [AS.first, if_pos hd] at hR
    exact (ifK_of (fun _ => hR w (Mod.refl _ _)) (fun h => by cases h) : ifK true _ _)
  | false =>
    refine (ifK_of (fun h => by cases h) (fun _ => ?_) : ifK false _ _)
    rw [AS.first, if_neg (by rw [hd]; simp)] at hR
    refine goodR_ok n w hn _ ⟨_, rfl, ifK_not (fun hg => ?_) (fun hg => ?_)⟩
    · rw [if_pos hg] at hR
      exact hR w (Mod.refl _ _)
    · rw [if_neg (by rw [hg]; simp)] at hR
      cases there with
      | false =>
        rw [if_neg (by simp)] at hR
        exact (ifK_of (fun h => by cases h) (fun _ => hR w (Mod.refl _ _)) : ifK false _ _)
      | true =>
        refine (ifK_of (fun _ => ?_) (fun h => by cases h) : ifK true _ _)
        refine find_ok h hok n _ (fun hdn w' m' => ⟨_, rfl, ?_⟩) (fun i hi hdn w' m' => ⟨_, rfl, ?_⟩)
        · rw [if_pos ⟨rfl, hdn⟩] at hR
          exact (ifK_of (fun _ => hR w' m') (fun h => by cases h) : ifK true _ _)
        · rw [if_neg (by rw [hdn]; simp)] at hR
          exact ifK_dec (fun h => by omega) (fun _ => hR w' m')
/-- A file's place in the row of all. -/
theorem file_ok (h : RS w r G a x) (hok : a.Ok) (n : ByteArray) {i : Nat} (hi : dget a.dir n = some i) (R : Value → World → Prop) (hR : ∀ w' ad, Mod no w w' → x.pa = some ad → R (.pointer (some (Addr.add ad (i * 2)))) w') :
    Ca Try.prog 78 #[.pointer (some ⟨r, 0, none⟩), .string n] w R := by
  refine ca78 _ n w R ?_
  intro w0 e0
  have m0 : Mod no w w0 := by subst e0; exact Mod.drew _
  clear e0
  have h0 := h.no m0
  refine ⟨x.pa, x.la, x.ca, by rw [cl1 h0.cell]; rfl, x.pd, x.ld, x.cd, by rw [cl1 h0.cell]; rfl, ?_⟩
  refine find_ok h0 hok n _ (fun hdn => by rw [hdn] at hi; cases hi) (fun j hj hdn w' m' => ⟨_, rfl, ?_⟩)
  have h1 := h0.no m'
  rw [hi] at hdn
  injection hdn with hdn
  have hl := h.dir.len.1
  have hlt2 := hok.dirI a.dir[j] (List.getElem_mem hj)
  have hfl := h.all.len.1
  have hlen := h.files.len
  obtain ⟨g, hg, hcell⟩ := h1.dir.getS hj (s := 2) rfl
  refine ⟨by rw [cl2 h1.cell]; rfl, by rw [cl2 h1.cell]; rfl, _, hg, by omega, by omega, _, by rw [Int.toNat_natCast]; exact hcell 1 _ rfl, ?_⟩
  obtain ⟨ad, had, _⟩ := h1.all.getS (i := i) (by omega) (s := 2) rfl
  rw [← hdn]
  refine ⟨_, had, by omega, by omega, ?_⟩
  rw [Int.toNat_natCast]
  exact hR w' _ (m0.trans m') had
end
end Go.Proofs.Ytemklabamlifdaa

/- The reference's store: set, Fail, count. -/
namespace Go.Proofs.Ytemklabamlifdaa
open Go Go.Proofs.Ytemklabamlifdaa.St

set_option maxRecDepth 100000 in
theorem ent_push {w : World} {p : Option Addr} {l c k : Nat} {D : List (ByteArray × Nat)} {n : ByteArray} {f : Nat} (h : Row entL 94 w p l c D) (hk : w.heap[k]? = some (.cells #[.string n, .int .i64 f] 94 (0, 0))) (hn : l + 1 ≤ 1099511627776) :
    ∃ a' c' w', (Builtin.append_ #[58, 58] 58 #[.slice p l c, .slice (some ⟨k, 0, none⟩) 1 1]).run Try.prog w = .ok (.slice a' (l + 1) c') w' ∧ Row entL 94 w' a' (l + 1) c' (D ++ [(n, f)]) ∧ Mod (rowB p) w w' ∧ (∀ k, rowB a' k → rowB p k ∨ w.heap.size ≤ k) :=
  h.push (P := Try.prog) (ty := 58) entsLaid (ys := [(n, f)]) rfl (fun ad had j v hj => by
    cases had
    rw [cl1 hk]
    simpa [entL] using hj) (fun h => by cases h) hn

theorem dins_left {n : ByteArray} {k : Nat} {B : List (ByteArray × Nat)} : ∀ {A : List (ByteArray × Nat)}, (∀ p ∈ A, ¬ n < p.1) → dins n k (A ++ B) = A ++ dins n k B
  | [], _ => rfl
  | p :: r, h => by
    rw [List.cons_append, dins, if_neg (h p (by simp)), dins_left fun q hq => h q (List.mem_cons_of_mem _ hq)]; rfl
theorem dins_right {n : ByteArray} {k : Nat} {B : List (ByteArray × Nat)} : ∀ {A : List (ByteArray × Nat)}, (∃ p ∈ A, n < p.1) → dins n k (A ++ B) = dins n k A ++ B
  | [], h => by obtain ⟨p, hp, _⟩ := h; cases hp
  | p :: r, h => by
    rw [List.cons_append, dins, dins]
    split
    · rfl
    · rename_i hn
      obtain ⟨q, hq, hlt⟩ := h
      rcases List.mem_cons.1 hq with rfl | hq
      · exact absurd hlt hn
      · rw [dins_right ⟨q, hq, hlt⟩]; rfl
theorem ddel_succ {n : ByteArray} {D : List (ByteArray × Nat)} {i : Nat} (hi : i < D.length) : ddel n (D.take (i + 1)) = ddel n (D.take i) ++ (if D[i].1 = n then [] else [D[i]]) := by
  rw [List.take_succ_eq_append_getElem hi, ddel, ddel, List.filter_append]
  congr 1
  by_cases h : D[i].1 = n
  · rw [if_pos h, List.filter_cons_of_neg (by simp [h])]; rfl
  · rw [if_neg h, List.filter_cons_of_pos (by simp [h])]; rfl
/-- What the reference's set makes of a directory. -/
def setD (n : ByteArray) (f : Int) (D : List (ByteArray × Nat)) : List (ByteArray × Nat) := if f < 0 then ddel n D else dset n f.toNat D
theorem gtB (x n : ByteArray) : (!(Op.bytesLess (ByteArray.toList x) (ByteArray.toList n) || ByteArray.toList x == ByteArray.toList n)) = decide (n < x) := by
  rw [strEq]
  by_cases h : n < x
  · have h1 : Op.bytesLess (ByteArray.toList x) (ByteArray.toList n) = false := bl_asym _ _ h
    have h2 : ¬ x = n := fun e => by subst e; exact str_irr _ h
    simp [h1, h2, h]
  · by_cases he : x = n
    · subst he
      simp [h]
    · have h1 : Op.bytesLess (ByteArray.toList x) (ByteArray.toList n) = true := by
        apply Classical.byContradiction
        intro hb
        exact he (str_tri hb h)
      simp [h1, h]

section
variable {w w' : World} {r : Nat} {G : Nat → Prop} {a : AS} {x : RA}
/-- The store has another directory. -/
theorem RS.dirS (h : RS w r G a x) {w1 w2 : World} (hm1 : Mod St.no w w1) {p : Option Addr} {l c : Nat} {D : List (ByteArray × Nat)} (hD : Row entL 94 w1 p l c D) (hn : ∀ k, rowB p k → w.heap.size ≤ k) (hm : Mod (on r) w1 w2)
    (hc : w2.heap[r]? = some (.cells #[.int .i64 a.room, .slice x.pa x.la x.ca, .slice p l c, .slice x.ps x.ls x.cs, .bool a.dark, .int .i64 a.count, .int .i64 a.left, .int .i64 a.keep] 60 (0, 0))) :
    RP r G w { a with dir := D } w2 := by
  have h1 := h.no hm1
  refine ⟨fun k => G k ∨ rowB p k, ⟨{ x with pd := p, ld := l, cd := c }, ⟨hc, h1.all.noty hm (noTy_on h1.cell (by decide)), hD.noty hm (noTy_on h1.cell (by decide)), h1.sure.noty hm (noTy_on h1.cell (by decide)),
    h1.files.imp fun _ _ q => (q.norow hm (noTy_on h1.cell (by decide))).mono fun k hk => .inl hk, .inl h1.gr, fun k hk => .inl (h1.ga k hk), fun k hk => .inr hk, fun k hk => .inl (h1.gs k hk)⟩⟩, fun k hk => hk.imp id (hn k), hm1.no_trans (hm.mono fun k _ hk => by cases hk; exact h.gr)⟩

theorem set_ok (h : RS w r G a x) (hok : a.Ok) (n : ByteArray) (f : Int) (R : Value → World → Prop) (hR : ∀ w', RP r G w { a with dir := setD n f a.dir } w' → R (.tuple #[]) w') :
    Ca Try.prog 77 #[.pointer (some ⟨r, 0, none⟩), .string n, .int .i64 f] w R := by
  refine ca77 _ n f w R ?_
  have hl := h.dir.len.1
  have hdn := hok.dirN
  let St0 : Bool → Nat → List (ByteArray × Nat) → Prop := fun b i L =>
    (f < 0 ∧ b = true ∧ L = ddel n (a.dir.take i)) ∨ (¬ f < 0 ∧ b = false ∧ L = ddel n (a.dir.take i) ∧ ∀ p ∈ ddel n (a.dir.take i), ¬ n < p.1) ∨
    (¬ f < 0 ∧ b = true ∧ L = dset n f.toNat (a.dir.take i) ∧ ∃ p ∈ ddel n (a.dir.take i), n < p.1)
  refine ⟨x.pd, x.ld, x.cd, by rw [cl1 h.cell]; rfl, fun p l c b y w' => ∃ (i : Nat) (L : List (ByteArray × Nat)), y = i ∧ i ≤ x.ld ∧ Mod no w w' ∧ Row entL 94 w' p l c L ∧ (∀ k, rowB p k → w.heap.size ≤ k) ∧ L.length ≤ i + 1 ∧ St0 b i L,
    fun _ _ _ _ y _ => ((x.ld : Int) - y).toNat, ⟨0, [], rfl, Nat.zero_le _, Mod.refl _ _, Row.empty _ _ _, fun k hk => by simp [rowB] at hk, by simp, ?_⟩, ?_⟩
  · by_cases hf : f < 0
    · rw [decide_eq_true hf]; exact .inl ⟨hf, rfl, by simp [ddel]⟩
    · rw [decide_eq_false hf]; exact .inr (.inl ⟨hf, rfl, by simp [ddel], fun p hp => by simp [ddel] at hp⟩)
  rintro _ p l c b _ w1 ⟨i, L, rfl, hi, m1, hL, hn, hlen, hs⟩
  have hll := hL.len.1
  refine ifK_dec (fun hlt => ?_) (fun hge => ?_)
  · have hil : i < a.dir.length := by omega
    have hds := ddel_succ (n := n) hil
    refine copyEnt (h.dir.no m1) i rfl hil fun w2 b2 m2 => ?_
    have m12 := m1.trans m2
    have hL2 := hL.no m2
    have e1 : IntKind.i64.wrap ((i : Int) + 1) = ((i + 1 : Nat) : Int) := by rw [wrap64 (by omega) (by omega)]; rfl
    rw [e1]
    clear e1
    refine ⟨_, by rw [cl1 b2]; rfl, ?_⟩
    rw [strEq]
    refine ifK_dec (fun he => ?_) (fun hne => ?_)
    · rw [if_pos he, List.append_nil] at hds
      refine ⟨⟨i + 1, L, rfl, by omega, m12, hL2, hn, by omega, ?_⟩, by simp only; omega⟩
      rcases hs with ⟨q1, q2, q3⟩ | ⟨q1, q2, q3, q4⟩ | ⟨q1, q2, q3, q4⟩
      · exact .inl ⟨q1, q2, by rw [hds]; exact q3⟩
      · exact .inr (.inl ⟨q1, q2, by rw [hds]; exact q3, by rw [hds]; exact q4⟩)
      · exact .inr (.inr ⟨q1, q2, by rw [dset, hds]; exact q3, by rw [hds]; exact q4⟩)
    · rw [if_neg hne] at hds
      -- the entry itself goes in
      have put : ∀ {w3 : World} {p : Option Addr} {l c : Nat} {L : List (ByteArray × Nat)} {b : Bool}, Mod no w w3 → w3.heap[w1.heap.size]? = some (.cells #[.string a.dir[i].1, .int .i64 a.dir[i].2] 94 (0, 0)) → Row entL 94 w3 p l c L → (∀ k, rowB p k → w.heap.size ≤ k) → L.length ≤ i + 1 → St0 b (i + 1) (L ++ [a.dir[i]]) →
          ∃ s45 : ByteArray, w3.cell? (Addr.add ⟨w1.heap.size, 0, none⟩ 0) = some (.string s45) ∧ ∃ x46 : Int, w3.cell? (Addr.add ⟨w1.heap.size, 0, none⟩ 1) = some (.int .i64 x46) ∧ atW (w3.alloc (.cells #[.string s45, .int .i64 x46] 94 (0, 0))) fun w47 =>
            ∃ v48 w49, (Builtin.append_ #[58, 58] 58 #[.slice p l c, .slice (some ⟨w3.heap.size, 0, none⟩) 1 1]).run Try.prog w47 = .ok v48 w49 ∧ ∃ p50 n51 n52, v48 = .slice p50 n51 n52 ∧
              ((∃ (i' : Nat) (L : List (ByteArray × Nat)), ((i + 1 : Nat) : Int) = i' ∧ i' ≤ x.ld ∧ Mod no w w49 ∧ Row entL 94 w49 p50 n51 n52 L ∧ (∀ k, rowB p50 k → w.heap.size ≤ k) ∧ L.length ≤ i' + 1 ∧ St0 b i' L) ∧ ((x.ld : Int) - ((i + 1 : Nat) : Int)).toNat < ((x.ld : Int) - (i : Int)).toNat) := by
        intro w3 p l c L b m3 b3 hL hn hlen hst
        refine ⟨_, by rw [cl1 b3]; rfl, _, by rw [cl1 b3]; rfl, fun w4 e4 => ?_⟩
        have m4 : Mod no w3 w4 := by subst e4; exact Mod.alloc _ _
        have b4 : w4.heap[w3.heap.size]? = some (.cells #[.string a.dir[i].1, .int .i64 a.dir[i].2] 94 (0, 0)) := by subst e4; exact new_at _ _
        clear e4
        have hll := hL.len.1
        obtain ⟨a', c', w5, hrun, g1, g2, g3⟩ := ent_push (hL.no m4) b4 (by omega)
        refine ⟨_, w5, hrun, _, _, _, rfl, ⟨i + 1, L ++ [a.dir[i]], rfl, by omega, (m3.trans m4).new g2 hn, g1, fun k hk => ?_, by rw [List.length_append, List.length_singleton]; omega, hst⟩, by omega⟩
        rcases g3 k hk with h | h
        · exact hn k h
        · have := (m3.trans m4).size; omega
      refine ⟨_, by rw [cl1 b2]; rfl, ?_⟩
      rw [gtB]
      refine ifK_dec (fun hgt => ?_) (fun hng => ?_)
      · rcases hs with ⟨q1, q2, q3⟩ | ⟨q1, q2, q3, q4⟩ | ⟨q1, q2, q3, q4⟩
        · subst q2
          refine (ifK_of (fun h => by cases h) (fun _ => ?_) : ifK false _ _)
          exact put m12 b2 hL2 hn hlen (.inl ⟨q1, rfl, by rw [hds, q3]⟩)
        · subst q2
          refine (ifK_of (fun _ => ?_) (fun h => by cases h) : ifK true _ _)
          intro w4 e4
          have m4 : Mod no w2 w4 := by subst e4; exact Mod.alloc _ _
          have b4 : w4.heap[w2.heap.size]? = some (.cells #[.string n, .int .i64 f] 94 (0, 0)) := by subst e4; exact new_at _ _
          clear e4
          have hf : f = (f.toNat : Int) := by omega
          rw [hf] at b4
          obtain ⟨a', c', w5, hrun, g1, g2, g3⟩ := ent_push (hL2.no m4) b4 (by omega)
          have m25 : Mod no w w5 := (m12.trans m4).new g2 hn
          have n5 : ∀ k, rowB a' k → w.heap.size ≤ k := fun k hk => by
            rcases g3 k hk with h | h
            · exact hn k h
            · have := (m12.trans m4).size; omega
          refine ⟨_, w5, hrun, _, _, _, rfl, ?_⟩
          have b5 : w5.heap[w1.heap.size]? = some (.cells #[.string a.dir[i].1, .int .i64 a.dir[i].2] 94 (0, 0)) := g2.at (m4.at' b2) fun hk => by
            have := hL.lt _ hk; omega
          refine put m25 b5 g1 n5 ?_ (.inr (.inr ⟨q1, rfl, ?_, ?_⟩))
          · rw [q3, List.length_append, List.length_singleton]
            have : (ddel n (a.dir.take i)).length ≤ (a.dir.take i).length := ddel_length _ _
            rw [List.length_take] at this
            omega
          · rw [dset, hds, dins_left q4, dins, if_pos hgt, q3, List.append_assoc]; rfl
          · exact ⟨a.dir[i], by rw [hds]; simp, hgt⟩
        · subst q2
          refine (ifK_of (fun h => by cases h) (fun _ => ?_) : ifK false _ _)
          refine put m12 b2 hL2 hn hlen (.inr (.inr ⟨q1, rfl, ?_, ?_⟩))
          · rw [dset, hds, dins_right q4, q3]; rfl
          · obtain ⟨p, hp, hlt⟩ := q4
            exact ⟨p, by rw [hds]; exact List.mem_append_left _ hp, hlt⟩
      · refine put m12 b2 hL2 hn hlen ?_
        rcases hs with ⟨q1, q2, q3⟩ | ⟨q1, q2, q3, q4⟩ | ⟨q1, q2, q3, q4⟩
        · exact .inl ⟨q1, q2, by rw [hds, q3]⟩
        · refine .inr (.inl ⟨q1, q2, by rw [hds, q3], fun p hp => ?_⟩)
          rw [hds] at hp
          rcases List.mem_append.1 hp with hp | hp
          · exact q4 p hp
          · simp only [List.mem_singleton] at hp; subst hp; exact hng
        · refine .inr (.inr ⟨q1, q2, ?_, ?_⟩)
          · rw [dset, hds, dins_right q4, q3]; rfl
          · obtain ⟨p, hp, hlt⟩ := q4
            exact ⟨p, by rw [hds]; exact List.mem_append_left _ hp, hlt⟩
  · have hil : i = a.dir.length := by omega
    subst hil
    have store : ∀ {w2 : World} {p : Option Addr} {l c : Nat} {L : List (ByteArray × Nat)}, Mod no w w2 → Row entL 94 w2 p l c L → (∀ k, rowB p k → w.heap.size ≤ k) → L = setD n f a.dir →
        (∃ v60, w2.cell? (Addr.add (Addr.add ⟨r, 0, none⟩ 2) 0) = some v60) ∧ w2.frozen? (Addr.add (Addr.add ⟨r, 0, none⟩ 2) 0) = false ∧ atW (w2.setCell (Addr.add (Addr.add ⟨r, 0, none⟩ 2) 0) (.slice p l c)) fun w61 => R (.tuple #[]) w61 := by
      intro w2 p l c L m2 hL hn he
      have h2 := h.no m2
      obtain ⟨q1, q2, q3, q4⟩ := setFile h2.cell 2 (by simp) (.slice p l c)
      refine ⟨q1, q2, fun w3 e3 => hR w3 ?_⟩
      rw [← e3] at q3 q4
      subst he
      exact h.dirS m2 hL hn q3 q4
    simp only [St0, List.take_length] at hs
    rcases hs with ⟨q1, q2, q3⟩ | ⟨q1, q2, q3, q4⟩ | ⟨q1, q2, q3, q4⟩
    · subst q2
      refine (ifK_of (fun h => by cases h) (fun _ => ?_) : ifK false _ _)
      exact store m1 hL hn (by rw [q3, setD, if_pos q1])
    · subst q2
      refine (ifK_of (fun _ => ?_) (fun h => by cases h) : ifK true _ _)
      intro w4 e4
      have m4 : Mod no w1 w4 := by subst e4; exact Mod.alloc _ _
      have b4 : w4.heap[w1.heap.size]? = some (.cells #[.string n, .int .i64 f] 94 (0, 0)) := by subst e4; exact new_at _ _
      clear e4
      have hf : f = (f.toNat : Int) := by omega
      rw [hf] at b4
      obtain ⟨a', c', w5, hrun, g1, g2, g3⟩ := ent_push (hL.no m4) b4 (by omega)
      refine ⟨_, w5, hrun, _, _, _, rfl, store ((m1.trans m4).new g2 hn) g1 (fun k hk => ?_) ?_⟩
      · rcases g3 k hk with h | h
        · exact hn k h
        · have := (m1.trans m4).size; omega
      · rw [setD, if_neg q1, dset, q3]
        have := dins_left (n := n) (k := f.toNat) (B := []) q4
        rw [List.append_nil] at this
        rw [this]; rfl
    · subst q2
      refine (ifK_of (fun h => by cases h) (fun _ => ?_) : ifK false _ _)
      exact store m1 hL hn (by rw [q3, setD, if_neg q1])
end
end Go.Proofs.Ytemklabamlifdaa

/- The reference's store: Fail, count. -/
namespace Go.Proofs.Ytemklabamlifdaa
open Go Go.Proofs.Ytemklabamlifdaa.St

section
variable {w w' : World} {r : Nat} {G : Nat → Prop} {a : AS} {x : RA}
/-- A cell of a file's struct is written. -/
theorem RS.file (h : RS w r G a x) {i : Nat} (hi : i < x.fs.length) {j : Nat} (hj : j < 2) (v : Value) (y : RF) (hy : fileL.cs y = (fileL.cs x.fs[i]).set j v) {ad : Addr} (had : x.pa = some ad) (q : Bs × Bs) :
    (∃ u, w.cell? (Addr.add (Addr.add (Addr.add ad (i * 2)) j) 0) = some u) ∧ w.frozen? (Addr.add (Addr.add (Addr.add ad (i * 2)) j) 0) = false ∧ Mod G w (w.setCell (Addr.add (Addr.add (Addr.add ad (i * 2)) j) 0) v) ∧
      ((∀ G', FR w G' y q → (∀ k, G k → G' k) → RS (w.setCell (Addr.add (Addr.add (Addr.add ad (i * 2)) j) 0) v) r G' { a with all := a.all.set i q } { x with fs := x.fs.set i y })) := by
  obtain ⟨g, hg, q1, q2, q3, q4⟩ := h.all.put hi (s := 2) rfl hj v y hy
  rw [had] at hg
  cases hg
  have hgr : rowB x.pa g := by rw [had]; rfl
  obtain ⟨cs, hgc⟩ := h.all.ty hgr
  refine ⟨q1, q2, q3.mono fun k _ hk => by cases hk; exact h.ga _ hgr, fun G' hf hG => ?_⟩
  have hrg : r ≠ g := ne_of_cells h.cell hgc (by decide)
  refine ⟨q3.at h.cell hrg, ?_, h.dir.noty q3 (noTy_on hgc (by decide)), h.sure.noty q3 (noTy_on hgc (by decide)), ?_, hG _ h.gr, fun k hk => hG _ (h.ga k hk), fun k hk => hG _ (h.gd k hk), fun k hk => hG _ (h.gs k hk)⟩
  · exact q4
  · have hnr : NoRow w (on g) := noTy_on hgc (by decide)
    exact (h.files.imp fun _ _ z => (z.norow q3 hnr).mono hG).set i (hf.norow q3 hnr)

theorem RS.congr {b : AS} (h : RS w r G a x) (e : a = b) : RS w r G b x := e ▸ h
theorem set_take {F : Bs × Bs → Bs × Bs} {l : List (Bs × Bs)} {i : Nat} (hi : i < l.length) (q : Bs × Bs) : ((l.take i).map F ++ l.drop i).set i q = (l.take i).map F ++ q :: l.drop (i + 1) := by
  have h1 : ((l.take i).map F).length = i := by rw [List.length_map, List.length_take]; omega
  rw [List.set_append_right _ _ (by omega), h1, Nat.sub_self, List.drop_eq_getElem_cons hi]; rfl
theorem set_next {F : Bs × Bs → Bs × Bs} {l : List (Bs × Bs)} {i : Nat} (hi : i < l.length) (q : Bs × Bs) : ((l.take i).map F ++ q :: l.drop (i + 1)).set i (F l[i]) = (l.take (i + 1)).map F ++ l.drop (i + 1) := by
  have h1 : ((l.take i).map F).length = i := by rw [List.length_map, List.length_take]; omega
  rw [List.set_append_right _ _ (by omega), h1, Nat.sub_self, List.set_cons_zero, List.take_succ_eq_append_getElem hi, List.map_append, List.append_assoc]; rfl

set_option maxRecDepth 100000 in
theorem failR_ok (h : RS w r G a x) (hok : a.Ok) (hal : a.all.length ≤ 1073741824) (keep : Int) (R : Value → World → Prop) (hR : ∀ w', RP r G w (a.fail keep) w' → R (.tuple #[]) w') :
    Ca Try.prog 65 #[.pointer (some ⟨r, 0, none⟩), .int .i64 keep] w R := by
  refine ca65 _ keep w R ?_
  refine ⟨a.dark, by rw [cl1 h.cell]; rfl, ?_⟩
  cases hd : a.dark with
  | true =>
    rw [AS.fail, if_pos hd] at hR
    exact (ifK_of (fun _ => hR w (RP.refl ⟨x, h⟩)) (fun h => by cases h) : ifK true _ _)
  | false =>
  rw [AS.fail, if_neg (by rw [hd]; simp)] at hR
  refine (ifK_of (fun h => by cases h) (fun _ => ?_) : ifK false _ _)
  obtain ⟨q1, q2, q3, q4⟩ := setFile h.cell 4 (by simp) (.bool true)
  refine ⟨q1, q2, fun w4 e4 => ?_⟩
  rw [← e4] at q3 q4
  clear e4
  have h4 : RS w4 r G { a with dark := true } x := h.scal q3 { a with dark := true } rfl rfl rfl rfl q4
  intro w5 e5
  have m5 : Mod no w4 w5 := by subst e5; exact Mod.alloc _ _
  have b5 : w5.heap[w4.heap.size]? = some (.cells #[] 94 (0, 0)) := by subst e5; exact new_at _ _
  clear e5
  have h5 := h4.no m5
  have hsl : a.sure.length = x.ls ∧ x.ls ≤ x.cs ∧ x.cs ≤ 9223372036854775807 := h5.sure.len
  have hsn := hok.sureN
  have r0 : Row entL 94 w5 (some ⟨w4.heap.size, 0, none⟩) 0 0 [] := Row.lit entL b5 [] rfl (Nat.zero_le _)
  obtain ⟨p, c, w6, hrun, g1, g2, g3⟩ := r0.push (P := Try.prog) (ty := 58) entsLaid (ys := a.sure) (m := x.ls) (cc := x.cs) hsl.1 h5.sure.all.1 h5.sure.all.2 (by omega)
  refine ⟨x.ps, x.ls, x.cs, by rw [cl1 h5.cell]; rfl, _, w6, hrun, _, _, _, rfl, ?_⟩
  have m46 : Mod no w4 w6 := m5.new g2 fun k hk => by simp [rowB] at hk; omega
  have n6 : ∀ k, rowB p k → w4.heap.size ≤ k := fun k hk => by
    rcases g3 k hk with h | h
    · simp [rowB] at h; omega
    · exact Nat.le_trans m5.size h
  have h6 := h4.no m46
  obtain ⟨s1, s2, s3, s4⟩ := setFile h6.cell 2 (by simp) (.slice p (0 + x.ls) c)
  refine ⟨s1, s2, fun w7 e7 => ?_⟩
  rw [← e7] at s3 s4
  clear e7
  obtain ⟨G7, ⟨x7, h7⟩, hG7, m47⟩ := h4.dirS m46 g1 n6 s3 s4
  simp only [List.nil_append] at h7
  have m07 : Mod G w w7 := (q3.mono fun k _ hk => by cases hk; exact h.gr).trans m47
  have hG7' : ∀ k, G7 k → G k ∨ w.heap.size ≤ k := fun k hk => (hG7 k hk).imp id fun h => Nat.le_trans q3.size h
  have hfl := h7.all.len.1
  have hlen := h7.files.len
  simp only at hlen
  refine ⟨x7.pa, x7.la, x7.ca, by rw [cl1 h7.cell]; rfl, ?_⟩
  -- as far as the files were failed
  let B : Nat → AS := fun i => { a with dark := true, dir := a.sure, all := (a.all.take i).map (failF keep) ++ a.all.drop i }
  refine ⟨fun y w' => ∃ (i : Nat) (x' : RA), y = i ∧ i ≤ x7.la ∧ RS w' r G7 (B i) x' ∧ Mod G7 w7 w' ∧ x'.pa = x7.pa ∧ x'.la = x7.la, fun y _ => ((x7.la : Int) - y).toNat, ⟨0, x7, rfl, Nat.zero_le _, ?_, Mod.refl _ _, rfl, rfl⟩, ?_⟩
  · exact h7
  rintro _ _ w26 ⟨i, x', rfl, hi, h26, m26, hpa, hla⟩
  refine ifK_dec (fun hlt => ?_) (fun hge => ?_)
  · have hil : i < a.all.length := by omega
    have hfl' := h26.all.len.1
    have hi' : i < x'.fs.length := by omega
    have e1 : IntKind.i64.wrap ((i : Int) + 1) = ((i + 1 : Nat) : Int) := by rw [wrap64 (by omega) (by omega)]; rfl
    rw [e1]
    clear e1
    obtain ⟨g, hg, hcell⟩ := h26.all.getS hi' (s := 2) rfl
    have hlenB := h26.files.len
    have hiB : i < (B i).all.length := by omega
    have hBi : (B i).all[i] = a.all[i] := by
      have h1 : ((a.all.take i).map (failF keep)).length = i := by rw [List.length_map, List.length_take]; omega
      have h3 : (B i).all[i]? = some a.all[i] := by
        show ((a.all.take i).map (failF keep) ++ a.all.drop i)[i]? = _
        rw [List.getElem?_append_right (by omega), h1, Nat.sub_self, List.getElem?_drop]
        simp [hil]
      rw [List.getElem?_eq_getElem hiB] at h3
      exact Option.some.inj h3
    have hfr := h26.files.get i hi' hiB
    rw [hBi] at hfr
    obtain ⟨⟨f1, f2⟩, hf⟩ : ∃ q, a.all[i] = q := ⟨_, rfl⟩
    rw [hf] at hfr
    have hlens := hok.lens (f1, f2) (by rw [← hf]; exact List.getElem_mem hil)
    simp only at hlens
    obtain ⟨r1, r2, hG1, hG2⟩ := hfr
    simp only at r1 r2
    have hl1 := r1.len
    have hl2 := r2.len
    have hc0 : ∀ {w'}, Mod no w26 w' → w'.cell? (Addr.add (Addr.add ⟨g, 0, none⟩ (i * 2)) 0) = some (.slice (x'.fs[i]).na (x'.fs[i]).nl (x'.fs[i]).nc) := fun hm => cell_mod hm (hcell 0 _ rfl) id
    have hc1 : ∀ {w'}, Mod no w26 w' → w'.cell? (Addr.add (Addr.add ⟨g, 0, none⟩ (i * 2)) 1) = some (.slice (x'.fs[i]).sa (x'.fs[i]).sl (x'.fs[i]).sc) := fun hm => cell_mod hm (hcell 1 _ rfl) id
    have add0 : ∀ (ad : Addr), Addr.add ad 0 = ad := fun ad => by simp [Addr.add]
    refine ⟨x'.pa, x'.la, x'.ca, by rw [cl1 h26.cell]; rfl, _, hg, by omega, by omega, ?_⟩
    rw [Int.toNat_natCast]
    refine ⟨_, _, _, hc1 (Mod.refl _ _), ?_⟩
    -- behind the bytes that are sure
    refine ⟨fun w97 => ∃ (y : RF), y.na = (x'.fs[i]).na ∧ y.nl = (x'.fs[i]).nl ∧ y.nc = (x'.fs[i]).nc ∧ RS w97 r G7 { B i with all := (B i).all.set i (f1, (failF keep (f1, f2)).2) } { x' with fs := x'.fs.set i y } ∧ FR w97 G7 y (f1, (failF keep (f1, f2)).2) ∧ Mod G7 w7 w97, ?_, ?_⟩
    · intro w36 e36
      have m36 : Mod no w26 w36 := by subst e36; exact Mod.drew _
      clear e36
      have h36 := h26.no m36
      have plain : (failF keep (f1, f2)).2 = f2 → ∃ (y : RF), y.na = (x'.fs[i]).na ∧ y.nl = (x'.fs[i]).nl ∧ y.nc = (x'.fs[i]).nc ∧ RS w36 r G7 { B i with all := (B i).all.set i (f1, (failF keep (f1, f2)).2) } { x' with fs := x'.fs.set i y } ∧ FR w36 G7 y (f1, (failF keep (f1, f2)).2) ∧ Mod G7 w7 w36 := by
        intro he
        refine ⟨x'.fs[i], rfl, rfl, rfl, ?_, ⟨els_mod r1 m36 fun _ _ => id, by rw [he]; exact els_mod r2 m36 fun _ _ => id, hG1, hG2⟩, m26.trans_no m36⟩
        rw [he]
        have : (B i).all.set i (f1, f2) = (B i).all := by
          have h2 : (f1, f2) = (B i).all[i] := by rw [hBi, hf]
          rw [h2, List.set_getElem_self]
        rw [this, List.set_getElem_self]
        exact h36
      refine ⟨_, _, _, hc0 m36, ?_⟩
      refine ifK_dec (fun hge => ?_) (fun hnge => ?_)
      · have hge' : f2.length ≤ f1.length := by omega
        refine ⟨_, _, _, hc0 m36, by omega, by omega, by omega, _, _, _, hc1 m36, ?_⟩
        rw [sl0, Int.toNat_natCast]
        have s1 := str_ok (((Rd.of_els r1).no m36).take (k := (x'.fs[i]).sl) (by omega))
        have s2 := str_ok ((Rd.of_els r2).no m36)
        have hcmp : (ByteArray.toList ⟨((f1.take (x'.fs[i]).sl)).toArray⟩ == ByteArray.toList ⟨f2.toArray⟩) = decide (f1.take f2.length = f2) := by rw [str_eq, hl2.1]
        -- what follows the comparison
        have body : ifK (decide (f1.take f2.length = f2)) (∃ z52 : Int → World → Prop, (∃ p53 n54 n55, w36.cell? (Addr.add (Addr.add ⟨g, 0, none⟩ (i * 2)) 0) = some (.slice p53 n54 n55) ∧ ifK (decide (keep > IntKind.i64.wrap ((n54 : Int) - ((x'.fs[i]).sl : Int))))
              (∃ p56 n57 n58, w36.cell? (Addr.add (Addr.add ⟨g, 0, none⟩ (i * 2)) 0) = some (.slice p56 n57 n58) ∧ z52 (IntKind.i64.wrap ((n57 : Int) - ((x'.fs[i]).sl : Int))) w36) (z52 keep w36)) ∧
            ∀ (_ : Nat → Value) (x60 : Int) (w61 : World), z52 x60 w61 → ∃ z62 : Int → World → Prop, ifK (decide (x60 > 0)) (z62 (IntKind.i64.wrap (((x'.fs[i]).sl : Int) + x60)) w61) (z62 ((x'.fs[i]).sl : Int) w61) ∧
              ∀ (_ : Nat → Value) (x64 : Int) (w65 : World), z62 x64 w65 → ∃ p66 n67 n68, w65.cell? (Addr.add (Addr.add ⟨g, 0, none⟩ (i * 2)) 0) = some (.slice p66 n67 n68) ∧ 0 ≤ (0 : Int) ∧ 0 ≤ x64 ∧ x64 ≤ (n68 : Int) ∧
                (∃ v69, w65.cell? (Addr.add (Addr.add (Addr.add ⟨g, 0, none⟩ (i * 2)) 1) 0) = some v69) ∧ w65.frozen? (Addr.add (Addr.add (Addr.add ⟨g, 0, none⟩ (i * 2)) 1) 0) = false ∧
                  atW (w65.setCell (Addr.add (Addr.add (Addr.add ⟨g, 0, none⟩ (i * 2)) 1) 0) (.slice (if n68 = 0 then p66 else Option.map (fun x => Addr.add x 0) p66) (Int.toNat x64 - 0) (n68 - 0))) fun w70 =>
                    ∃ (y : RF), y.na = (x'.fs[i]).na ∧ y.nl = (x'.fs[i]).nl ∧ y.nc = (x'.fs[i]).nc ∧ RS w70 r G7 { B i with all := (B i).all.set i (f1, (failF keep (f1, f2)).2) } { x' with fs := x'.fs.set i y } ∧ FR w70 G7 y (f1, (failF keep (f1, f2)).2) ∧ Mod G7 w7 w70)
            (∃ (y : RF), y.na = (x'.fs[i]).na ∧ y.nl = (x'.fs[i]).nl ∧ y.nc = (x'.fs[i]).nc ∧ RS w36 r G7 { B i with all := (B i).all.set i (f1, (failF keep (f1, f2)).2) } { x' with fs := x'.fs.set i y } ∧ FR w36 G7 y (f1, (failF keep (f1, f2)).2) ∧ Mod G7 w7 w36) := by
          refine ifK_dec (fun he => ?_) (fun hne => plain (by rw [failF, if_neg fun h => hne h.2]))
          have hdiff : IntKind.i64.wrap (((x'.fs[i]).nl : Int) - ((x'.fs[i]).sl : Int)) = ((f1.length - f2.length : Nat) : Int) := by rw [wrap64 (by omega) (by omega)]; omega
          refine ⟨fun k w' => w' = w36 ∧ k = if keep > ((f1.length - f2.length : Nat) : Int) then ((f1.length - f2.length : Nat) : Int) else keep, ⟨_, _, _, hc0 m36, ?_⟩, ?_⟩
          · rw [hdiff]
            refine ifK_dec (fun hk => ?_) (fun hk => ⟨rfl, by rw [if_neg hk]⟩)
            refine ⟨_, _, _, hc0 m36, rfl, ?_⟩
            rw [hdiff, if_pos hk]
          · rintro _ k w61 ⟨hw61, hk⟩
            have hw61 := hw61.symm
            subst hw61
            have hN : ∃ N : Nat, N = f2.length + min keep.toNat (f1.length - f2.length) ∧ N ≤ f1.length ∧ (if k > 0 then IntKind.i64.wrap (((x'.fs[i]).sl : Int) + k) else ((x'.fs[i]).sl : Int)) = N := by
              refine ⟨_, rfl, by omega, ?_⟩
              have hk0 : k ≤ ((f1.length - f2.length : Nat) : Int) := by rw [hk]; split <;> omega
              by_cases h0 : k > 0
              · rw [if_pos h0, wrap64 (by omega) (by omega)]
                rw [hk] at h0 ⊢
                split at h0 <;> rename_i h1
                · rw [if_pos h1]; omega
                · rw [if_neg h1]; omega
              · rw [if_neg h0]
                have : keep ≤ 0 ∨ f1.length - f2.length = 0 := by
                  rw [hk] at h0
                  split at h0 <;> omega
                omega
            obtain ⟨N, hN1, hN2, hN3⟩ := hN
            refine ⟨fun n w' => w' = w36 ∧ n = N, ?_, ?_⟩
            · refine ifK_dec (fun h0 => ⟨rfl, ?_⟩) (fun h0 => ⟨rfl, ?_⟩)
              · rw [if_pos h0] at hN3; exact hN3
              · rw [if_neg h0] at hN3; exact hN3
            · rintro _ x64 w65 ⟨hw65, rfl⟩
              have hw65 := hw65.symm
              subst hw65
              refine ⟨_, _, _, hc0 m36, by omega, by omega, by omega, ?_⟩
              rw [sl0, Int.toNat_natCast]
              have hff : (failF keep (f1, f2)).2 = f1.take N := by rw [failF, if_pos ⟨hge', he⟩, hN1]
              have e1' := Els.take (els_mod r1 m36 fun _ _ => id) (k := N) (by omega)
              obtain ⟨t1, t2, t3, t4⟩ := h36.file hi' (j := 1) (by decide) (.slice (x'.fs[i]).na N (x'.fs[i]).nc) ⟨(x'.fs[i]).na, (x'.fs[i]).nl, (x'.fs[i]).nc, (x'.fs[i]).na, N, (x'.fs[i]).nc⟩ rfl hg (f1, f1.take N)
              refine ⟨t1, t2, fun w70 e70 => ?_⟩
              rw [← e70] at t3 t4
              clear e70
              have fr : FR w36 G7 ⟨(x'.fs[i]).na, (x'.fs[i]).nl, (x'.fs[i]).nc, (x'.fs[i]).na, N, (x'.fs[i]).nc⟩ (f1, f1.take N) := ⟨els_mod r1 m36 fun _ _ => id, e1', hG1, hG1⟩
              have h70 := t4 G7 fr fun _ hk => hk
              rw [hff]
              refine ⟨⟨(x'.fs[i]).na, (x'.fs[i]).nl, (x'.fs[i]).nc, (x'.fs[i]).na, N, (x'.fs[i]).nc⟩, rfl, rfl, rfl, h70, ?_, (m26.trans_no m36).trans t3⟩
              have := h70.files.get i (by simp; omega) (by simp; omega)
              simpa using this
        refine ⟨⟨_, w36, s1, _, rfl, by rw [add0]; exact hc1 m36, _, w36, s2, _, rfl, by rw [add0]; exact hc0 m36, ?_⟩, ⟨_, w36, s2, _, rfl, by rw [add0]; exact hc0 m36, _, w36, s1, _, rfl, by rw [add0]; exact hc1 m36, ?_⟩⟩
        · rw [hcmp]; exact body
        · rw [hcmp]; exact body
      · have := plain (by rw [failF, if_neg fun h => by have h1 : f2.length ≤ f1.length := h.1; omega])
        exact ⟨this, this⟩
    · rintro _ w97 ⟨y, hy1, hy2, hy3, h97, hfr97, m97⟩
      have hlt' : i < (x'.fs.set i y).length := by simpa using hi'
      obtain ⟨g', hg', hcell'⟩ := h97.all.getS hlt' (s := 2) rfl
      simp only at hg' hcell'
      rw [hg] at hg'
      injection hg' with hg'
      injection hg' with hg'
      subst hg'
      have hyy : (x'.fs.set i y)[i] = y := by simp
      have hc := hcell' 1 (.slice y.sa y.sl y.sc) (by rw [hyy]; rfl)
      obtain ⟨t1, t2, t3, t4⟩ := h97.file hlt' (j := 0) (by decide) (.slice y.sa y.sl y.sc) ⟨y.sa, y.sl, y.sc, y.sa, y.sl, y.sc⟩ (by rw [hyy]; rfl) hg (failF keep (f1, f2))
      refine ⟨_, _, _, hc, t1, t2, fun w102 e102 => ?_⟩
      rw [← e102] at t3 t4
      clear e102
      have hsame : failF keep (f1, f2) = ((failF keep (f1, f2)).2, (failF keep (f1, f2)).2) := by
        unfold failF
        split <;> rfl
      have fr : FR w97 G7 ⟨y.sa, y.sl, y.sc, y.sa, y.sl, y.sc⟩ (failF keep (f1, f2)) := by
        rw [hsame]
        exact ⟨hfr97.2.1, hfr97.2.1, hfr97.2.2.2, hfr97.2.2.2⟩
      have h102 := t4 G7 fr fun _ hk => hk
      refine ⟨⟨i + 1, { x' with fs := (x'.fs.set i y).set i ⟨y.sa, y.sl, y.sc, y.sa, y.sl, y.sc⟩ }, rfl, by omega, ?_, m97.trans t3, hpa, hla⟩, by simp only; omega⟩
      have hset : ((B i).all.set i (f1, (failF keep (f1, f2)).2)).set i (failF keep (f1, f2)) = (B (i + 1)).all := by
        have h1 := set_take (F := failF keep) hil (f1, (failF keep (f1, f2)).2)
        have h2 := set_next (F := failF keep) hil (f1, (failF keep (f1, f2)).2)
        rw [hf] at h2
        show (((a.all.take i).map (failF keep) ++ a.all.drop i).set i _).set i _ = _
        rw [h1, h2]
      refine h102.congr ?_
      show (⟨a.room, ((B i).all.set i (f1, (failF keep (f1, f2)).2)).set i (failF keep (f1, f2)), a.sure, a.sure, true, a.count, a.left, a.keep⟩ : AS) = _
      rw [hset]
  · have hil : i = a.all.length := by omega
    refine hR w26 ⟨G7, ⟨x', ?_⟩, hG7', m07.trans' m26 fun k hk hg => ?_⟩
    · have e : B i = { a with dark := true, dir := a.sure, all := a.all.map (failF keep) } := by
        show ({ a with dark := true, dir := a.sure, all := (a.all.take i).map (failF keep) ++ a.all.drop i } : AS) = _
        rw [hil, List.take_length, List.drop_length, List.append_nil]
      rw [← e]
      exact h26
    · rcases hG7' k hg with h | h
      · exact h
      · omega

/-- A call is counted; true: it fails. -/
def AS.cntR (a : AS) : AS × Bool := if 0 < a.left then (if a.tick.less.left = 0 then (a.tick.less.fail a.keep, true) else (a.tick.less, false)) else (a.tick, false)
theorem counted_eq (a : AS) (f : AS → AS) : a.counted f = if a.cntR.2 then (a.cntR.1, 9) else (f a.cntR.1, 0) := by
  unfold AS.counted AS.cntR
  split
  · split <;> rfl
  · rfl
theorem countR_ok (h : RS w r G a x) (hok : a.Ok) (hal : a.all.length ≤ 1073741824) (hlf : a.left ≤ 9223372036854775807) (R : Value → World → Prop) (hR : ∀ w', RP r G w a.cntR.1 w' → R (.bool a.cntR.2) w') :
    Ca Try.prog 76 #[.pointer (some ⟨r, 0, none⟩)] w R := by
  refine ca76 _ w R ?_
  obtain ⟨q1, q2, q3, q4⟩ := setFile h.cell 5 (by simp) (.int .i64 (IntKind.i64.wrap (a.count + 1)))
  refine ⟨a.count, by rw [cl1 h.cell]; rfl, q1, q2, fun w4 e4 => ?_⟩
  rw [← e4] at q3 q4
  clear e4
  have h4 : RS w4 r G a.tick x := h.scal q3 a.tick rfl rfl rfl rfl q4
  have mG : ∀ {w1 w2 : World}, Mod (on r) w1 w2 → Mod G w1 w2 := fun hm => hm.mono fun k _ hk => by cases hk; exact h.gr
  refine ⟨a.left, by rw [cl1 q4]; rfl, ifK_dec (fun hl => ?_) (fun hl => ?_)⟩
  · have hc : a.cntR = (a.tick, false) := by rw [AS.cntR, if_neg (by omega)]
    rw [hc] at hR
    exact hR w4 ⟨G, ⟨x, h4⟩, fun _ hk => .inl hk, mG q3⟩
  · have hw : IntKind.i64.wrap (a.left - 1) = a.left - 1 := wrap64 (by omega) (by omega)
    obtain ⟨r1, r2, r3, r4⟩ := setFile q4 6 (by simp) (.int .i64 (IntKind.i64.wrap (a.left - 1)))
    refine ⟨a.left, by rw [cl1 q4]; rfl, r1, r2, fun w11 e11 => ?_⟩
    rw [← e11] at r3 r4
    clear e11
    have h11 : RS w11 r G a.tick.less x := h4.scal r3 a.tick.less rfl rfl rfl rfl r4
    have m11 := mG (q3.trans r3)
    refine ⟨IntKind.i64.wrap (a.left - 1), by rw [cl1 r4]; rfl, ?_⟩
    rw [hw]
    refine ifK_dec (fun hpos => ?_) (fun hz => ?_)
    · have hc : a.cntR = (a.tick.less, false) := by
        rw [AS.cntR, if_pos (by omega), if_neg]
        show ¬ IntKind.i64.wrap (a.left - 1) = 0
        omega
      rw [hc] at hR
      exact hR w11 ⟨G, ⟨x, h11⟩, fun _ hk => .inl hk, m11⟩
    · have hc : a.cntR = (a.tick.less.fail a.keep, true) := by
        rw [AS.cntR, if_pos (by omega), if_pos]
        show IntKind.i64.wrap (a.left - 1) = 0
        omega
      rw [hc] at hR
      refine ⟨a.keep, by rw [cl1 r4]; rfl, failR_ok h11 hok.tick.less hal a.keep _ fun w17 hp => ⟨rfl, hR w17 ?_⟩⟩
      obtain ⟨G', g1, g2, g3⟩ := hp
      exact ⟨G', g1, fun k hk => (g2 k hk).imp id fun h => Nat.le_trans m11.size h, m11.trans g3⟩
end
end Go.Proofs.Ytemklabamlifdaa
