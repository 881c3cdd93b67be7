/- Parts of the proof of StoreKeeps. -/
import Derived.Test.YtemklabamlifdaaCore9
import Derived.Test.YtemklabamlifdaaProg
import Derived.Test.YtemklabamlifdaaY2
/- The library's general sort, at one type: what its parts do. -/
namespace Go.Proofs.Ytemklabamlifdaa.Sortstring
open Go Go.Proofs.Ytemklabamlifdaa Go.Proofs.Ytemklabamlifdaa.St

theorem piv_eqs (a b l : Nat) (hab : a ≤ b) (hb : b ≤ l) (hl : l < 4611686018427387904) :
    IntKind.i64.wrap ((b : Int) - a) = ((b - a : Nat) : Int) ∧ Int.tdiv ((b - a : Nat) : Int) 4 = (((b - a) / 4 : Nat) : Int) ∧
    IntKind.i64.wrap ((a : Int) + IntKind.i64.wrap (IntKind.i64.wrap (((b - a) / 4 : Nat) : Int) * 1)) = ((a + (b - a) / 4 : Nat) : Int) ∧
    IntKind.i64.wrap ((a : Int) + IntKind.i64.wrap (IntKind.i64.wrap (((b - a) / 4 : Nat) : Int) * 2)) = ((a + (b - a) / 4 * 2 : Nat) : Int) ∧
    IntKind.i64.wrap ((a : Int) + IntKind.i64.wrap (IntKind.i64.wrap (((b - a) / 4 : Nat) : Int) * 3)) = ((a + (b - a) / 4 * 3 : Nat) : Int) :=
  ⟨(by first | (simp only [IntKind.wrap_i64]; omega) | omega), by rw [show (4 : Int) = ((4 : Nat) : Int) from rfl, ← Int.ofNat_tdiv], (by first | (simp only [IntKind.wrap_i64]; omega) | omega), (by first | (simp only [IntKind.wrap_i64]; omega) | omega), (by first | (simp only [IntKind.wrap_i64]; omega) | omega)⟩

section
variable (e : TypeId) (d : Option Addr) (l c : Nat) (xs : List ByteArray) (w : World) (hd : Els Value.string e w d l c xs) (hl : l < 4611686018427387904)
include hd hl

/-! ### The pivot -/
omit hl in
theorem order2_ok (s : Nat) (t : TypeId) (n : Int) (hs : w.heap[s]? = some (.cells #[.int .i64 n] t (0, 0))) (x y : Nat) (hx : x < l) (hy : y < l) (R : Value → World → Prop)
    (h : ∀ w' (n' : Int) (x' y' : Nat), (x' = x ∧ y' = y ∨ x' = y ∧ y' = x) → w'.heap[s]? = some (.cells #[.int .i64 n'] t (0, 0)) → Mod (on s) w w' → R (.tuple #[.int .i64 x', .int .i64 y']) w') :
    Ca Try.prog 99 #[.slice d l c, .int .i64 x, .int .i64 y, .pointer (some ⟨s, 0, none⟩)] w R := by
  refine ca99 d l c x y (some ⟨s, 0, none⟩) w R ?_
  intro w0 e0
  have m0 : Mod no w w0 := by subst e0; exact Mod.drew _
  clear e0
  have hs0 := m0.at' hs
  refine lss (hd.no m0) y x rfl rfl hy hx (fun _ => ?_) (fun _ => ?_)
  · refine ⟨n, by rw [cl hs0]; rfl, ⟨_, by rw [cl1 hs0]; rfl⟩, fz1 hs0 _, ?_⟩
    intro w1 e1
    have hs1 : w1.heap[s]? = some (.cells #[.int .i64 (IntKind.i64.wrap (n + 1))] t (0, 0)) := by subst e1; exact set1 hs0 _ _
    have m1 : Mod (on s) w0 w1 := by subst e1; exact Mod.set1 _ _ _ _
    exact h w1 _ y x (.inr ⟨rfl, rfl⟩) hs1 (m0.no_trans m1)
  · exact h w0 n x y (.inl ⟨rfl, rfl⟩) hs0 m0.of_no

omit hl in
theorem median_ok (s : Nat) (t : TypeId) (n : Int) (hs : w.heap[s]? = some (.cells #[.int .i64 n] t (0, 0))) (hne : ¬ rowB d s) (x y z : Nat) (hx : x < l) (hy : y < l) (hz : z < l) (R : Value → World → Prop)
    (h : ∀ w' (n' : Int) (m : Nat), (m = x ∨ m = y ∨ m = z) → w'.heap[s]? = some (.cells #[.int .i64 n'] t (0, 0)) → Mod (on s) w w' → R (.int .i64 m) w') :
    Ca Try.prog 97 #[.slice d l c, .int .i64 x, .int .i64 y, .int .i64 z, .pointer (some ⟨s, 0, none⟩)] w R := by
  refine ca97 d l c x y z (some ⟨s, 0, none⟩) w R ?_
  have keep : ∀ {w'}, Mod (on s) w w' → Els Value.string e w' d l c xs := fun hm => hd.mod hm fun k hk he => hne (by cases he; exact hk)
  refine order2_ok e d l c xs w hd s t n hs x y hx hy _ fun w1 n1 x1 y1 h1 hs1 m1 => ⟨_, _, rfl, ?_⟩
  refine order2_ok e d l c xs w1 (keep m1) s t n1 hs1 y1 z (by omega) hz _ fun w2 n2 y2 z2 h2 hs2 m2 => ⟨_, _, rfl, ?_⟩
  refine order2_ok e d l c xs w2 (keep (m1.trans m2)) s t n2 hs2 x1 y2 (by omega) (by omega) _ fun w3 n3 x3 y3 h3 hs3 m3 => ⟨_, _, rfl, ?_⟩
  exact h w3 n3 y3 (by omega) hs3 ((m1.trans m2).trans m3)

theorem medianAdj_ok (s : Nat) (t : TypeId) (n : Int) (hs : w.heap[s]? = some (.cells #[.int .i64 n] t (0, 0))) (hne : ¬ rowB d s) (x : Nat) (hx : 0 < x) (hx1 : x + 1 < l) (R : Value → World → Prop)
    (h : ∀ w' (n' : Int) (m : Nat), (x ≤ m + 1 ∧ m ≤ x + 1) → w'.heap[s]? = some (.cells #[.int .i64 n'] t (0, 0)) → Mod (on s) w w' → R (.int .i64 m) w') :
    Ca Try.prog 96 #[.slice d l c, .int .i64 x, .pointer (some ⟨s, 0, none⟩)] w R := by
  refine ca96 d l c x (some ⟨s, 0, none⟩) w R ?_
  have e1 : IntKind.i64.wrap ((x : Int) - 1) = ((x - 1 : Nat) : Int) := (by first | (simp only [IntKind.wrap_i64]; omega) | omega)
  have e2 : IntKind.i64.wrap ((x : Int) + 1) = ((x + 1 : Nat) : Int) := (by first | (simp only [IntKind.wrap_i64]; omega) | omega)
  rw [W96, e1, e2]
  exact median_ok e d l c xs w hd s t n hs hne (x - 1) x (x + 1) (by omega) (by omega) hx1 _ fun w1 n1 m h1 hs1 m1 => ⟨_, rfl, h w1 n1 m (by rcases h1 with rfl | rfl | rfl <;> omega) hs1 m1⟩

theorem choosePivot_ok (a b : Nat) (hab : a + 8 ≤ b) (hb : b ≤ l) (R : Value → World → Prop)
    (h : ∀ w' (p : Nat) (hint : Int), a ≤ p → p < b → Mod no w w' → R (.tuple #[.int .i64 p, .int .i64 hint]) w') :
    Ca Try.prog 85 #[.slice d l c, .int .i64 a, .int .i64 b] w R := by
  refine ca85 d l c a b w R ?_
  obtain ⟨elen, e4, ei, ej, ek⟩ := piv_eqs a b l (by omega) hb hl
  rw [W85]
  simp only [elen, e4, ei, ej, ek]
  clear elen e4 ei ej ek
  intro w0 e0
  have m0 : Mod no w w0 := by subst e0; exact Mod.alloc _ _
  have hs0 : w0.heap[w.heap.size]? = some (.cells #[.int .i64 0] 3 (0, 0)) := by subst e0; exact new_at _ _
  clear e0
  have hne : ¬ rowB d w.heap.size := by
    intro hk
    obtain ⟨g, rfl, hc⟩ := hd.get (i := 0) (by have := hd.len; omega)
    have : g = w.heap.size := by simpa [rowB] using hk
    subst this
    have := hd.at (i := 0) (by have := hd.len; omega)
    obtain ⟨g', hg', hc'⟩ := this
    injection hg' with hg'; injection hg' with hg'; subst hg'
    rw [World.cell?, Array.getElem?_eq_none (by simp [Addr.add])] at hc'
    cases hc'
  have hd0 := hd.no m0
  have keep : ∀ {w'}, Mod (on w.heap.size) w0 w' → Els Value.string e w' d l c xs := fun hm => hd0.mod hm fun k hk he => hne (by cases he; exact hk)
  refine ⟨by decide, by decide, by decide, fun x w' => ∃ (m : Nat) (n : Int), x = m ∧ a ≤ m ∧ m < b ∧ w'.heap[w.heap.size]? = some (.cells #[.int .i64 n] 3 (0, 0)) ∧ Mod (on w.heap.size) w0 w', ?_, ?_⟩
  · refine ifK_dec (fun _ => ifK_dec (fun h50 => ?_) (fun _ => ?_)) (fun hn => ?_)
    · refine medianAdj_ok e d l c xs w0 hd0 hl _ 3 0 hs0 hne _ (by omega) (by omega) _ fun w1 n1 x1 h1 hs1 m1 => ⟨_, rfl, ?_⟩
      refine medianAdj_ok e d l c xs w1 (keep m1) hl _ 3 n1 hs1 hne _ (by omega) (by omega) _ fun w2 n2 x2 h2 hs2 m2 => ⟨_, rfl, ?_⟩
      refine medianAdj_ok e d l c xs w2 (keep (m1.trans m2)) hl _ 3 n2 hs2 hne _ (by omega) (by omega) _ fun w3 n3 x3 h3 hs3 m3 => ⟨_, rfl, ?_⟩
      refine median_ok e d l c xs w3 (keep ((m1.trans m2).trans m3)) _ 3 n3 hs3 hne _ _ _ (by omega) (by omega) (by omega) _ fun w4 n4 x4 h4 hs4 m4 => ⟨_, rfl, ?_⟩
      have hx : a ≤ x4 ∧ x4 < b := by
        clear hs1 hs2 hs3 hs4 m1 m2 m3 m4 h
        rcases h4 with rfl | rfl | rfl <;> omega
      exact ⟨x4, n4, rfl, hx.1, hx.2, hs4, ((m1.trans m2).trans m3).trans m4⟩
    · refine median_ok e d l c xs w0 hd0 _ 3 0 hs0 hne _ _ _ (by omega) (by omega) (by omega) _ fun w4 n4 x4 h4 hs4 m4 => ⟨_, rfl, ?_⟩
      have hx : a ≤ x4 ∧ x4 < b := by rcases h4 with rfl | rfl | rfl <;> omega
      exact ⟨x4, n4, rfl, hx.1, hx.2, hs4, m4⟩
    · exact absurd hn (by omega)
  · rintro _ _ w1 ⟨m, n, rfl, h1, h2, hs1, m1⟩
    have m01 : Mod no w w1 := m0.new m1 fun k hk => by cases hk; exact Nat.le_refl _
    refine ⟨n, by rw [cl hs1]; rfl, ifK_of (fun _ => ?_) (fun _ => ifK_of (fun _ => ?_) (fun _ => ?_))⟩
    all_goals exact h w1 m _ h1 h2 m01

/-! ### Reversing, scattering -/
theorem reverse_ok (a b : Nat) (hab : a < b) (hb : b ≤ l) (R : Value → World → Prop)
    (h : ∀ w' ys, Els Value.string e w' d l c ys → Seg a b xs ys → Mod (rowB d) w w' → R (.tuple #[]) w') :
    Ca Try.prog 86 #[.slice d l c, .int .i64 a, .int .i64 b] w R := by
  refine ca86 d l c a b w R ?_
  refine ⟨fun x y w' => ∃ (i j : Nat) (ys : List ByteArray), x = i ∧ y = j ∧ a ≤ i ∧ i ≤ b ∧ j < b ∧ Els Value.string e w' d l c ys ∧ Seg a b xs ys ∧ Mod (rowB d) w w', fun x y _ => (y - x).toNat,
    ⟨a, b - 1, xs, rfl, (by first | (simp only [IntKind.wrap_i64]; omega) | omega), Nat.le_refl _, by omega, by omega, hd, Seg.refl _ _ _, Mod.refl _ _⟩, ?_⟩
  rintro _ _ _ w1 ⟨i, j, ys, rfl, rfl, hi, hib, hj, hys, hsg, hm⟩
  have hyl := hys.len.1
  refine ifK_dec (fun hij => ?_) (fun _ => h w1 ys hys hsg hm)
  intro w2 e2
  have m2 : Mod no w1 w2 := by subst e2; exact Mod.drew _
  clear e2
  refine (hys.no m2).swp i j rfl rfl (by omega) (by omega) fun w3 h3 m3 => ?_
  exact ⟨⟨i + 1, j - 1, _, (by first | (simp only [IntKind.wrap_i64]; omega) | omega), (by first | (simp only [IntKind.wrap_i64]; omega) | omega), by omega, by omega, by omega, h3, hsg.trans (Seg.swap (by omega) (by omega) (by omega) (by omega) (by omega) (by omega)), (hm.trans_no m2).trans m3⟩, (by first | (simp only [IntKind.wrap_i64]; omega) | omega)⟩

/-! ### Parting -/
omit hd in
/-- As long as the left one is less. -/
theorem part_up (a b : Nat) (hb : b ≤ l) : ∀ (ys : List ByteArray) (w' : World) (i j : Nat) (J : Int) (Q : Int → World → Prop), J = j → Els Value.string e w' d l c ys → Pt ys a b i j →
    (∀ (i' : Nat) w'', Els Value.string e w'' d l c ys → Pt ys a b i' j → (i' ≤ j → at0 ys a ≤ at0 ys i') → i ≤ i' → Mod no w' w'' → Q i' w'') →
    (∃ (z : Int → World → Prop) (m : Int → World → Nat), z i w' ∧ ∀ (_ : Nat → Value) (x : Int) (w1 : World), z x w1 → atW w1.drew fun w2 => ifK (decide (x ≤ J))
      (∃ ad : Addr, d = some ad ∧ (0 : Int) ≤ x ∧ x < (↑l : Int) ∧ ∃ y : ByteArray, w2.cell? (Addr.add ad (Int.toNat x * 1)) = some (Value.string y) ∧
        ∃ ad : Addr, d = some ad ∧ (0 : Int) ≤ (a : Int) ∧ (a : Int) < (↑l : Int) ∧ ∃ y' : ByteArray, w2.cell? (Addr.add ad (Int.toNat (a : Int) * 1)) = some (Value.string y') ∧
        Ca Try.prog 88 (Array.mk [Value.string y, Value.string y']) w2 (fun v w' => ∃ b : Bool, v = Value.bool b ∧ ifK b (z (IntKind.wrap .i64 (x + 1)) w' ∧ m (IntKind.wrap .i64 (x + 1)) w' < m x w1) (Q x w')))
      (Q x w2)) := by
  intro ys w' i j J Q hJ hys hpt hQ
  refine ⟨fun x w'' => ∃ i' : Nat, x = i' ∧ Els Value.string e w'' d l c ys ∧ Pt ys a b i' j ∧ i ≤ i' ∧ Mod no w' w'', fun x _ => ((j : Int) + 1 - x).toNat, ⟨i, rfl, hys, hpt, Nat.le_refl _, Mod.refl _ _⟩, ?_⟩
  rintro _ _ w1 ⟨i', rfl, hy1, hp1, hi1, m1⟩ w2 e2
  have m2 : Mod no w1 w2 := by subst e2; exact Mod.drew _
  clear e2
  have hjb := hp1.jb
  have hai := hp1.ai
  refine ifK_dec (fun hle => ?_) (fun hgt => hQ i' w2 (hy1.no m2) hp1 (fun h => by omega) hi1 (m1.trans m2))
  refine lss (hy1.no m2) i' a rfl rfl (by omega) (by omega) (fun hlt => ?_) (fun hge => hQ i' w2 (hy1.no m2) hp1 (fun _ => Lin.nlt hge) hi1 (m1.trans m2))
  exact ⟨⟨i' + 1, (by first | (simp only [IntKind.wrap_i64]; omega) | omega), hy1.no m2, hp1.up (by omega) (Lin.lle hlt), by omega, m1.trans m2⟩, (by first | (simp only [IntKind.wrap_i64]; omega) | omega)⟩
omit hd in
/-- As long as the right one is not less. -/
theorem part_down (a b : Nat) (hb : b ≤ l) : ∀ (ys : List ByteArray) (w' : World) (i j : Nat) (I : Int) (Q : Int → World → Prop), I = i → Els Value.string e w' d l c ys → Pt ys a b i j → (i ≤ j → at0 ys a ≤ at0 ys i) →
    (∀ (j' : Nat) w'', Els Value.string e w'' d l c ys → Pt ys a b i j' → (i ≤ j' → at0 ys a ≤ at0 ys i ∧ at0 ys j' < at0 ys a) → j' ≤ j → Mod no w' w'' → Q j' w'') →
    (∃ (z : Int → World → Prop) (m : Int → World → Nat), z j w' ∧ ∀ (_ : Nat → Value) (x : Int) (w1 : World), z x w1 → atW w1.drew fun w2 => ifK (decide (I ≤ x))
      (∃ ad : Addr, d = some ad ∧ (0 : Int) ≤ x ∧ x < (↑l : Int) ∧ ∃ y : ByteArray, w2.cell? (Addr.add ad (Int.toNat x * 1)) = some (Value.string y) ∧
        ∃ ad : Addr, d = some ad ∧ (0 : Int) ≤ (a : Int) ∧ (a : Int) < (↑l : Int) ∧ ∃ y' : ByteArray, w2.cell? (Addr.add ad (Int.toNat (a : Int) * 1)) = some (Value.string y') ∧
        Ca Try.prog 88 (Array.mk [Value.string y, Value.string y']) w2 (fun v w' => ∃ b : Bool, v = Value.bool b ∧ ifK (!b) (z (IntKind.wrap .i64 (x - 1)) w' ∧ m (IntKind.wrap .i64 (x - 1)) w' < m x w1) (Q x w')))
      (Q x w2)) := by
  intro ys w' i j I Q hI hys hpt hi0 hQ
  refine ⟨fun x w'' => ∃ j' : Nat, x = j' ∧ Els Value.string e w'' d l c ys ∧ Pt ys a b i j' ∧ j' ≤ j ∧ Mod no w' w'', fun x _ => (x + 1 - (i : Int)).toNat, ⟨j, rfl, hys, hpt, Nat.le_refl _, Mod.refl _ _⟩, ?_⟩
  rintro _ _ w1 ⟨j', rfl, hy1, hp1, hj1, m1⟩ w2 e2
  have m2 : Mod no w1 w2 := by subst e2; exact Mod.drew _
  clear e2
  have hjb := hp1.jb
  have hai := hp1.ai
  refine ifK_dec (fun hle => ?_) (fun hgt => hQ j' w2 (hy1.no m2) hp1 (fun h => by omega) hj1 (m1.trans m2))
  refine nls (hy1.no m2) j' a rfl rfl (by omega) (by omega) (fun hge => ?_) (fun hlt => hQ j' w2 (hy1.no m2) hp1 (fun _ => ⟨hi0 (by omega), hlt⟩) hj1 (m1.trans m2))
  exact ⟨⟨j' - 1, (by first | (simp only [IntKind.wrap_i64]; omega) | omega), hy1.no m2, hp1.down (by omega) (Lin.nlt hge), by omega, m1.trans m2⟩, (by first | (simp only [IntKind.wrap_i64]; omega) | omega)⟩
theorem partition_ok (a b p : Nat) (hap : a ≤ p) (hpb : p < b) (hb : b ≤ l) (R : Value → World → Prop)
    (h : ∀ w' ys (m : Nat) (q : Bool), Els Value.string e w' d l c ys → Seg a b xs ys → Parted ys a m b → Mod (rowB d) w w' → R (.tuple #[.int .i64 m, .bool q]) w') :
    Ca Try.prog 90 #[.slice d l c, .int .i64 a, .int .i64 b, .int .i64 p] w R := by
  have hxl := hd.len.1
  refine ca90 d l c a b p w R ?_
  have ea : IntKind.i64.wrap ((a : Int) + 1) = ((a + 1 : Nat) : Int) := (by first | (simp only [IntKind.wrap_i64]; omega) | omega)
  have eb : IntKind.i64.wrap ((b : Int) - 1) = ((b - 1 : Nat) : Int) := (by first | (simp only [IntKind.wrap_i64]; omega) | omega)
  rw [W90, ea, eb]
  clear ea eb
  intro w0 e0
  have m0 : Mod no w w0 := by subst e0; exact Mod.drew _
  clear e0
  refine (hd.no m0).swp a p rfl rfl (by omega) (by omega) fun w1 h1 m1 => ?_
  have m1 := m0.no_trans m1
  have s1 : Seg a b xs (swapL xs a p) := Seg.swap (by omega) (by omega) (by omega) (by omega) hap hpb
  have fin : ∀ (ys : List ByteArray) (w' : World) (i j : Nat) (q : Bool), Els Value.string e w' d l c ys → Seg a b xs ys → Pt ys a b i j → j < i → Mod (rowB d) w w' →
      ∀ w'', Els Value.string e w'' d l c (swapL ys j a) → Mod (rowB d) w' w'' → R (.tuple #[.int .i64 j, .bool q]) w'' := by
    intro ys w' i j q hys hsg hpt hji hm w'' hy'' m''
    have hyl := hys.len.1
    have h1 := hpt.ai
    have h2 := hpt.ij
    have h3 := hpt.jb
    exact h w'' _ j q hy'' (hsg.trans (Seg.swap (by omega) (by omega) (by omega) (by omega) (by omega) (by omega))) (hpt.done (by omega) hji) (hm.trans m'')
  refine ⟨_, part_up e d l c hl a b hb _ w1 (a + 1) (b - 1) _ (fun x w' => ∃ i : Nat, x = i ∧ Els Value.string e w' d l c (swapL xs a p) ∧ Pt (swapL xs a p) a b i (b - 1) ∧ (i ≤ b - 1 → at0 (swapL xs a p) a ≤ at0 (swapL xs a p) i) ∧ Mod (rowB d) w w') rfl h1
    ⟨Nat.le_refl _, by omega, by omega, fun k h1 h2 => by omega, fun k h1 h2 => by omega⟩ (fun i w' h1 h2 h3 _ h4 => ⟨i, rfl, h1, h2, h3, m1.trans_no h4⟩), ?_⟩
  rintro _ _ w2 ⟨i, rfl, h2, hpt, hi, m2⟩
  refine ⟨_, part_down e d l c hl a b hb _ w2 i (b - 1) _ (fun x w' => ∃ j : Nat, x = j ∧ Els Value.string e w' d l c (swapL xs a p) ∧ Pt (swapL xs a p) a b i j ∧ (i ≤ j → at0 (swapL xs a p) a ≤ at0 (swapL xs a p) i ∧ at0 (swapL xs a p) j < at0 (swapL xs a p) a) ∧ Mod (rowB d) w w') rfl h2 hpt hi
    (fun j w' h1 h2 h3 _ h4 => ⟨j, rfl, h1, h2, h3, m2.trans_no h4⟩), ?_⟩
  rintro _ _ w3 ⟨j, rfl, h3, hpt, hij, m3⟩
  have hjb := hpt.jb
  have hai := hpt.ai
  have hil := hpt.ij
  have step : ∀ (ys : List ByteArray) (w' : World) (i j : Nat), Els Value.string e w' d l c ys → Seg a b xs ys → Pt ys a b i j → (i ≤ j → at0 ys a ≤ at0 ys i ∧ at0 ys j < at0 ys a) → i ≤ j → i < j := by
    intro ys w' i j _ _ hpt hij hle
    refine Nat.lt_of_le_of_ne hle fun e => ?_
    subst e
    have := hij hle
    exact absurd this.2 (Lin.nle this.1)
  refine ifK_dec (fun hgt => ?_) (fun hle => ?_)
  · intro w4 e4
    have m4 : Mod no w3 w4 := by subst e4; exact Mod.drew _
    clear e4
    refine (h3.no m4).swp j a rfl rfl (by omega) (by omega) fun w5 h5 m5 => ?_
    exact fin _ w4 i j true (h3.no m4) s1 hpt (by omega) (m3.trans_no m4) w5 h5 m5
  · intro w4 e4
    have m4 : Mod no w3 w4 := by subst e4; exact Mod.drew _
    clear e4
    have hlt := step _ w3 i j h3 s1 hpt hij (by omega)
    obtain ⟨hx, hy⟩ := hij (by omega)
    refine (h3.no m4).swp i j rfl rfl (by omega) (by omega) fun w5 h5 m5 => ?_
    have hl3 := h3.len.1
    refine ⟨fun x y w' => ∃ (i j : Nat) (ys : List ByteArray), x = i ∧ y = j ∧ Els Value.string e w' d l c ys ∧ Seg a b xs ys ∧ Pt ys a b i j ∧ Mod (rowB d) w w', fun x y _ => (y + 1 - x).toNat,
      ⟨i + 1, j - 1, _, (by first | (simp only [IntKind.wrap_i64]; omega) | omega), (by first | (simp only [IntKind.wrap_i64]; omega) | omega), h5, s1.trans (Seg.swap (by omega) (by omega) (by omega) (by omega) (by omega) (by omega)), hpt.swap (by omega) hlt (Lin.lle hy) hx, (m3.trans_no m4).trans m5⟩, ?_⟩
    rintro _ _ _ w6 ⟨i6, j6, ys, rfl, rfl, h6, s6, hpt6, m6⟩
    refine ⟨_, part_up e d l c hl a b hb _ w6 i6 j6 _ (fun x w' => ∃ i : Nat, x = i ∧ Els Value.string e w' d l c ys ∧ Pt ys a b i j6 ∧ (i ≤ j6 → at0 ys a ≤ at0 ys i) ∧ i6 ≤ i ∧ Mod (rowB d) w w') rfl h6 hpt6
      (fun i w' h1 h2 h3 h5 h4 => ⟨i, rfl, h1, h2, h3, h5, m6.trans_no h4⟩), ?_⟩
    rintro _ _ w7 ⟨i7, rfl, h7, hpt7, hi7, hii, m7⟩
    refine ⟨_, part_down e d l c hl a b hb _ w7 i7 j6 _ (fun x w' => ∃ j : Nat, x = j ∧ Els Value.string e w' d l c ys ∧ Pt ys a b i7 j ∧ (i7 ≤ j → at0 ys a ≤ at0 ys i7 ∧ at0 ys j < at0 ys a) ∧ j ≤ j6 ∧ Mod (rowB d) w w') rfl h7 hpt7 hi7
      (fun j w' h1 h2 h3 h5 h4 => ⟨j, rfl, h1, h2, h3, h5, m7.trans_no h4⟩), ?_⟩
    rintro _ _ w8 ⟨j8, rfl, h8, hpt8, hij8, hjj, m8⟩
    have hjb8 := hpt8.jb
    have hai8 := hpt8.ai
    have hil8 := hpt8.ij
    have hl8 := h8.len.1
    refine ifK_dec (fun hgt => ?_) (fun hle => ?_)
    · intro w9 e9
      have m9 : Mod no w8 w9 := by subst e9; exact Mod.drew _
      clear e9
      refine (h8.no m9).swp j8 a rfl rfl (by omega) (by omega) fun w10 h10 m10 => ?_
      exact fin _ w9 i7 j8 false (h8.no m9) s6 hpt8 (by omega) (m8.trans_no m9) w10 h10 m10
    · intro w9 e9
      have m9 : Mod no w8 w9 := by subst e9; exact Mod.drew _
      clear e9
      have hlt8 := step _ w8 i7 j8 h8 s6 hpt8 hij8 (by omega)
      obtain ⟨hx8, hy8⟩ := hij8 (by omega)
      refine (h8.no m9).swp i7 j8 rfl rfl (by omega) (by omega) fun w10 h10 m10 => ?_
      exact ⟨⟨i7 + 1, j8 - 1, _, (by first | (simp only [IntKind.wrap_i64]; omega) | omega), (by first | (simp only [IntKind.wrap_i64]; omega) | omega), h10, s6.trans (Seg.swap (by omega) (by omega) (by omega) (by omega) (by omega) (by omega)), hpt8.swap (by omega) hlt8 (Lin.lle hy8) hx8, (m8.trans_no m9).trans m10⟩, (by first | (simp only [IntKind.wrap_i64]; omega) | omega)⟩
end
end Go.Proofs.Ytemklabamlifdaa.Sortstring

/- The library's general sort, at one type: parting off what is equal, heap sort, scattering, sorting what is nearly sorted. -/
namespace Go.Proofs.Ytemklabamlifdaa.Sortstring
open Go Go.Proofs.Ytemklabamlifdaa Go.Proofs.Ytemklabamlifdaa.St

section
variable (e : TypeId) (d : Option Addr) (l c : Nat) (xs : List ByteArray) (w : World) (hd : Els Value.string e w d l c xs) (hl : l < 4611686018427387904)
include hd hl

theorem partEq_ok (a b p : Nat) (hap : a ≤ p) (hpb : p < b) (hb : b ≤ l) (hmin : ∀ k, a ≤ k → k < b → at0 xs p ≤ at0 xs k) (R : Value → World → Prop)
    (h : ∀ w' ys (m : Nat), Els Value.string e w' d l c ys → Seg a b xs ys → Eqd ys a m b → Mod (rowB d) w w' → R (.int .i64 m) w') :
    Ca Try.prog 89 #[.slice d l c, .int .i64 a, .int .i64 b, .int .i64 p] w R := by
  refine ca89 d l c a b p w R ?_
  have ea : IntKind.i64.wrap ((a : Int) + 1) = ((a + 1 : Nat) : Int) := (by first | (simp only [IntKind.wrap_i64]; omega) | omega)
  have eb : IntKind.i64.wrap ((b : Int) - 1) = ((b - 1 : Nat) : Int) := (by first | (simp only [IntKind.wrap_i64]; omega) | omega)
  rw [W89, ea, eb]
  clear ea eb
  intro w0 e0
  have m0 : Mod no w w0 := by subst e0; exact Mod.drew _
  clear e0
  refine (hd.no m0).swp a p rfl rfl (by omega) (by omega) fun w1 h1 m1 => ?_
  have m1 := m0.no_trans m1
  have s1 : Seg a b xs (swapL xs a p) := hd.seg (by omega) (by omega) (by omega) (by omega) hap hpb
  have p1 : AtE (swapL xs a p) a (at0 xs p) := by
    refine ⟨?_⟩
    rw [at0_swapL (hd.lt (by omega)) (hd.lt (by omega))]
    by_cases e : a = p
    · rw [if_pos e, e]
    · rw [if_neg e, if_pos rfl]
  refine ⟨fun x y w' => ∃ (i j : Nat) (ys : List ByteArray), x = i ∧ y = j ∧ Els Value.string e w' d l c ys ∧ Seg a b xs ys ∧ Pt ys a b i j ∧ AtE ys a (at0 xs p) ∧ Mod (rowB d) w w', fun x y _ => (y + 1 - x).toNat,
    ⟨a + 1, b - 1, _, rfl, rfl, h1, s1, ⟨Nat.le_refl _, by omega, by omega, fun k h1 h2 => by omega, fun k h1 h2 => by omega⟩, p1, m1⟩, ?_⟩
  rintro _ _ _ w2 ⟨i, j, ys, rfl, rfl, h2, s2, hpt, hp2, m2⟩
  refine ⟨fun x w' => ∃ i' : Nat, x = i' ∧ Els Value.string e w' d l c ys ∧ Pt ys a b i' j ∧ i ≤ i' ∧ (i' ≤ j → at0 ys a < at0 ys i') ∧ Mod (rowB d) w w', ⟨fun x w' => ∃ i' : Nat, x = i' ∧ Els Value.string e w' d l c ys ∧ Pt ys a b i' j ∧ i ≤ i' ∧ Mod (rowB d) w w',
    fun x _ => ((j : Int) + 1 - x).toNat, ⟨i, rfl, h2, hpt, Nat.le_refl _, m2⟩, ?_⟩, ?_⟩
  · rintro _ _ w3 ⟨i', rfl, h3, hp3, hi3, m3⟩ w4 e4
    have m4 : Mod no w3 w4 := by subst e4; exact Mod.drew _
    clear e4
    have hjb := hp3.jb
    have hai := hp3.ai
    have m4' := m3.trans_no m4
    refine ifK_dec (fun hle => ?_) (fun hgt => ⟨i', rfl, h3.no m4, hp3, hi3, fun h => by omega, m4'⟩)
    refine nls (h3.no m4) a i' rfl rfl (by omega) (by omega) (fun hge => ?_) (fun hlt => ⟨i', rfl, h3.no m4, hp3, hi3, fun _ => hlt, m4'⟩)
    exact ⟨⟨i' + 1, (by first | (simp only [IntKind.wrap_i64]; omega) | omega), h3.no m4, hp3.up (by omega) (Lin.nlt hge), by omega, m4'⟩, (by first | (simp only [IntKind.wrap_i64]; omega) | omega)⟩
  rintro _ _ w5 ⟨i5, rfl, h5, hp5, hi5, hx5, m5⟩
  refine ⟨fun x w' => ∃ j' : Nat, x = j' ∧ Els Value.string e w' d l c ys ∧ Pt ys a b i5 j' ∧ j' ≤ j ∧ (i5 ≤ j' → at0 ys j' ≤ at0 ys a) ∧ Mod (rowB d) w w', ⟨fun x w' => ∃ j' : Nat, x = j' ∧ Els Value.string e w' d l c ys ∧ Pt ys a b i5 j' ∧ j' ≤ j ∧ Mod (rowB d) w w',
    fun x _ => (x + 1 - (i5 : Int)).toNat, ⟨j, rfl, h5, hp5, Nat.le_refl _, m5⟩, ?_⟩, ?_⟩
  · rintro _ _ w3 ⟨j', rfl, h3, hp3, hi3, m3⟩ w4 e4
    have m4 : Mod no w3 w4 := by subst e4; exact Mod.drew _
    clear e4
    have hjb := hp3.jb
    have hai := hp3.ai
    have m4' := m3.trans_no m4
    refine ifK_dec (fun hle => ?_) (fun hgt => ⟨j', rfl, h3.no m4, hp3, hi3, fun h => by omega, m4'⟩)
    refine lss (h3.no m4) a j' rfl rfl (by omega) (by omega) (fun hlt => ?_) (fun hge => ⟨j', rfl, h3.no m4, hp3, hi3, fun _ => Lin.nlt hge, m4'⟩)
    exact ⟨⟨j' - 1, (by first | (simp only [IntKind.wrap_i64]; omega) | omega), h3.no m4, hp3.down (by omega) (Lin.lle hlt), by omega, m4'⟩, (by first | (simp only [IntKind.wrap_i64]; omega) | omega)⟩
  rintro _ _ w6 ⟨j6, rfl, h6, hp6, hj6, hx6, m6⟩
  have hjb := hp6.jb
  have hai := hp6.ai
  have hil := hp6.ij
  refine ifK_dec (fun hgt => ?_) (fun hle => ?_)
  · refine h w6 ys i5 h6 s2 (hp6.eqd (by omega) fun k h7 h8 => ?_) m6
    rw [hp2.eq]
    exact s2.all (hd.le hb) (P := fun v => at0 xs p ≤ v) hmin k h7 h8
  · intro w7 e7
    have m7 : Mod no w6 w7 := by subst e7; exact Mod.drew _
    clear e7
    have hlt : i5 < j6 := by
      refine Nat.lt_of_le_of_ne (by omega) fun e => ?_
      subst e
      have h7 := hx5 (by omega)
      have h8 := hx6 (by omega)
      exact absurd h7 (Lin.nle h8)
    refine (h6.no m7).swp i5 j6 rfl rfl (by omega) (by omega) fun w8 h8 m8 => ?_
    refine ⟨⟨i5 + 1, j6 - 1, _, (by first | (simp only [IntKind.wrap_i64]; omega) | omega), (by first | (simp only [IntKind.wrap_i64]; omega) | omega), h8, s2.trans (h6.seg (by omega) (by omega) (by omega) (by omega) (by omega) (by omega)), hp6.swap (h6.le hb) hlt (hx6 (by omega)) (Lin.lle (hx5 (by omega))), ?_, (m6.trans_no m7).trans m8⟩, (by first | (simp only [IntKind.wrap_i64]; omega) | omega)⟩
    exact ⟨by rw [at0_swapL (h6.lt (by omega)) (h6.lt (by omega)), if_neg (by omega), if_neg (by omega), hp2.eq]⟩

/-! ### Heap sort -/
theorem siftDown_ok (lo hi f : Nat) (hlo : lo ≤ hi) (hf : f + hi ≤ l) (hh : Hp xs f (lo + 1) hi) (R : Value → World → Prop)
    (h : ∀ w' ys, Els Value.string e w' d l c ys → Seg (f + lo) (f + hi) xs ys → Hp ys f lo hi → Mod (rowB d) w w' → R (.tuple #[]) w') :
    Ca Try.prog 93 #[.slice d l c, .int .i64 lo, .int .i64 hi, .int .i64 f] w R := by
  refine ca93 d l c lo hi f w R ?_
  refine ⟨fun x w' => ∃ (r : Nat) (ys : List ByteArray), x = r ∧ lo ≤ r ∧ (r < hi ∨ r = lo) ∧ Els Value.string e w' d l c ys ∧ Seg (f + lo) (f + hi) xs ys ∧ Sift ys f lo hi r ∧ Mod (rowB d) w w', fun x _ => ((hi : Int) - x).toNat,
    ⟨lo, xs, rfl, Nat.le_refl _, .inr rfl, hd, Seg.refl _ _ _, Sift.start hh, Mod.refl _ _⟩, ?_⟩
  rintro _ _ w1 ⟨r, ys, rfl, hlr, hr, h1, s1, hs1, m1⟩
  refine ifK_of (fun hb => ?_) (fun hb => ?_)
  · have hb : hi ≤ 2 * r + 1 := by
      have := of_decide_eq_true hb
      clear hb
      simp only [IntKind.wrap_i64] at this
      omega
    exact h w1 ys h1 s1 (hs1.done fun k h2 h3 => by omega) m1
  have hb : 2 * r + 1 < hi := by
    have := of_decide_eq_false hb
    clear hb
    simp only [IntKind.wrap_i64] at this
    omega
  refine ⟨fun x w' => ∃ k : Nat, x = k ∧ (k = 2 * r + 1 ∨ k = 2 * r + 2) ∧ k < hi ∧ (∀ q, (q = 2 * r + 1 ∨ q = 2 * r + 2) → q < hi → at0 ys (f + q) ≤ at0 ys (f + k)) ∧ Els Value.string e w' d l c ys ∧ Mod (rowB d) w w', ?_, ?_⟩
  · intro w2 e2
    have m2 : Mod no w1 w2 := by subst e2; exact Mod.drew _
    clear e2
    refine ifK_of (fun hc => ?_) (fun hc => ?_)
    · have hc : 2 * r + 2 < hi := by
        have := of_decide_eq_true hc
        clear hc
        simp only [IntKind.wrap_i64] at this
        omega
      refine lss (h1.no m2) (f + (2 * r + 1)) (f + (2 * r + 2)) (by first | (simp only [IntKind.wrap_i64]; omega) | omega) (by first | (simp only [IntKind.wrap_i64]; omega) | omega) (by omega) (by omega) (fun hlt => ?_) (fun hge => ?_)
      · refine ⟨2 * r + 2, (by first | (simp only [IntKind.wrap_i64]; omega) | omega), .inr rfl, hc, fun q hq hqh => ?_, h1.no m2, m1.trans_no m2⟩
        rcases hq with rfl | rfl
        · exact Lin.lle hlt
        · exact Lin.refl _
      · refine ⟨2 * r + 1, (by first | (simp only [IntKind.wrap_i64]; omega) | omega), .inl rfl, hb, fun q hq hqh => ?_, h1.no m2, m1.trans_no m2⟩
        rcases hq with rfl | rfl
        · exact Lin.refl _
        · exact Lin.nlt hge
    · have hc : hi ≤ 2 * r + 2 := by
        have := of_decide_eq_false hc
        clear hc
        simp only [IntKind.wrap_i64] at this
        omega
      refine ⟨2 * r + 1, (by first | (simp only [IntKind.wrap_i64]; omega) | omega), .inl rfl, hb, fun q hq hqh => ?_, h1.no m2, m1.trans_no m2⟩
      rcases hq with rfl | rfl
      · exact Lin.refl _
      · omega
  rintro _ _ w3 ⟨k, rfl, hk, hkh, hmax, h3, m3⟩ w4 e4
  have m4 : Mod no w3 w4 := by subst e4; exact Mod.drew _
  clear e4
  refine nls (h3.no m4) (f + r) (f + k) (by first | (simp only [IntKind.wrap_i64]; omega) | omega) (by first | (simp only [IntKind.wrap_i64]; omega) | omega) (by omega) (by omega) (fun hge => ?_) (fun hlt => ?_)
  · exact h w4 ys (h3.no m4) s1 (hs1.done fun q hq hqh => Lin.tr (hmax q hq hqh) (Lin.nlt hge)) (m3.trans_no m4)
  · intro w5 e5
    have m5 : Mod no w4 w5 := by subst e5; exact Mod.drew _
    clear e5
    refine ((h3.no m4).no m5).swp (f + r) (f + k) (by first | (simp only [IntKind.wrap_i64]; omega) | omega) (by first | (simp only [IntKind.wrap_i64]; omega) | omega) (by omega) (by omega) fun w6 h6 m6 => ?_
    refine ⟨⟨k, _, rfl, by omega, .inl hkh, h6, s1.trans (h1.seg (by omega) (by omega) (by omega) (by omega) (by omega) (by omega)), hs1.step hlr (h1.le hf) hk hkh hmax hlt, ((m3.trans_no m4).trans_no m5).trans m6⟩, by simp only; omega⟩

theorem heapSort_ok (a b : Nat) (hab : a < b) (hb : b ≤ l) (R : Value → World → Prop)
    (h : ∀ w' ys, Els Value.string e w' d l c ys → Seg a b xs ys → Srt ys a b → Mod (rowB d) w w' → R (.tuple #[]) w') :
    Ca Try.prog 83 #[.slice d l c, .int .i64 a, .int .i64 b] w R := by
  refine ca83 d l c a b w R ?_
  obtain ⟨n, rfl⟩ : ∃ n, b = a + (n + 1) := ⟨b - a - 1, by omega⟩
  have e1 : IntKind.i64.wrap (((a + (n + 1) : Nat) : Int) - a) = ((n + 1 : Nat) : Int) := (by first | (simp only [IntKind.wrap_i64]; omega) | omega)
  have e2 : IntKind.i64.wrap (((n + 1 : Nat) : Int) - 1) = (n : Int) := (by first | (simp only [IntKind.wrap_i64]; omega) | omega)
  have e3 : Int.tdiv (n : Int) 2 = ((n / 2 : Nat) : Int) := by rw [show (2 : Int) = ((2 : Nat) : Int) from rfl, ← Int.ofNat_tdiv]
  have e4 : IntKind.i64.wrap ((n / 2 : Nat) : Int) = ((n / 2 : Nat) : Int) := (by first | (simp only [IntKind.wrap_i64]; omega) | omega)
  rw [W83, e1, e2, e3, e4]
  clear e1 e2 e3 e4
  refine ⟨by decide, ?_⟩
  refine ⟨fun x w' => ∃ (i : Nat) (ys : List ByteArray), x = (i : Int) - 1 ∧ i ≤ n + 1 ∧ Els Value.string e w' d l c ys ∧ Seg a (a + (n + 1)) xs ys ∧ Hp ys a i (n + 1) ∧ Mod (rowB d) w w', fun x _ => (x + 1).toNat,
    ⟨n / 2 + 1, xs, by omega, by omega, hd, Seg.refl _ _ _, fun p k h1 h2 h3 => by omega, Mod.refl _ _⟩, ?_⟩
  rintro _ _ w1 ⟨i, ys, rfl, hi, h1, s1, hp1, m1⟩
  refine ifK_dec (fun hge => ?_) (fun hlt => ?_)
  · obtain ⟨k, rfl⟩ : ∃ k, i = k + 1 := ⟨i - 1, by omega⟩
    rw [show ((k + 1 : Nat) : Int) - 1 = (k : Int) by omega]
    refine siftDown_ok e d l c ys w1 h1 hl k (n + 1) a (by omega) (by omega) hp1 _ fun w2 zs h2 s2 hp2 m2 => ⟨rfl, ⟨k, zs, (by first | (simp only [IntKind.wrap_i64]; omega) | omega), by omega, h2, s1.trans (s2.mono (by omega) (by omega)), hp2, m1.trans m2⟩, (by first | (simp only [IntKind.wrap_i64]; omega) | omega)⟩
  · have : i = 0 := by omega
    subst this
    refine ⟨fun x w' => ∃ (i : Nat) (ys : List ByteArray), x = (i : Int) - 1 ∧ i ≤ n + 1 ∧ Els Value.string e w' d l c ys ∧ Seg a (a + (n + 1)) xs ys ∧ Pop ys a i (n + 1) ∧ Mod (rowB d) w w', fun x _ => (x + 1).toNat,
      ⟨n + 1, ys, by omega, by omega, h1, s1, Pop.start hp1, m1⟩, ?_⟩
    rintro _ _ w2 ⟨i, ys, rfl, hi, h2, s2, hp2, m2⟩
    refine ifK_dec (fun hge => ?_) (fun hlt => ?_)
    · obtain ⟨k, rfl⟩ : ∃ k, i = k + 1 := ⟨i - 1, by omega⟩
      rw [show ((k + 1 : Nat) : Int) - 1 = (k : Int) by omega]
      intro w3 e3
      have m3 : Mod no w2 w3 := by subst e3; exact Mod.drew _
      clear e3
      refine (h2.no m3).swp a (a + k) rfl (by first | (simp only [IntKind.wrap_i64]; omega) | omega) (by omega) (by omega) fun w4 h4 m4 => ?_
      refine siftDown_ok e d l c _ w4 h4 hl 0 k a (by omega) (by omega) (hp2.swap (by omega) (h2.le (by omega))) _ fun w5 zs h5 s5 hp5 m5 => ⟨rfl, ⟨k, zs, (by first | (simp only [IntKind.wrap_i64]; omega) | omega), by omega, h5, ?_, hp2.step (by omega) (h2.le (by omega)) s5 hp5, ((m2.trans_no m3).trans m4).trans m5⟩, (by first | (simp only [IntKind.wrap_i64]; omega) | omega)⟩
      exact (s2.trans (h2.seg (by omega) (by omega) (by omega) (by omega) (by omega) (by omega))).trans (s5.mono (by omega) (by omega))
    · have : i = 0 := by omega
      subst this
      exact h w2 ys h2 s2 hp2.done m2
end

/-! ### Scattering -/
theorem wrapU (x : Int) : IntKind.wrap .u64 x = x % 18446744073709551616 := by simp [IntKind.wrap, IntKind.bits, IntKind.signed]
theorem nextPow_ok (n : Nat) (hn : 0 < n) (hl : n < 4611686018427387904) (w : World) (R : Value → World → Prop) (h : ∀ k : Nat, k ≤ 2 * n → 0 < k → R (.int .u64 k) w) : Ca Try.prog 94 #[.int .i64 n] w R := by
  refine ca94 n w R ?_
  have e1 : IntKind.wrap .u64 (n : Int) = n := by rw [wrapU]; omega
  rw [W94, e1]
  clear e1
  refine bitsLen_ok n w _ fun k hk => ⟨_, rfl, by omega, ?_⟩
  obtain ⟨h1, h2⟩ := hk (by omega) (by omega)
  have h3 : ((2 ^ k : Nat) : Int) ≤ 2 * n := by simpa using h2
  have h4 : 0 < 2 ^ k := Nat.pow_pos (by decide)
  have e2 : IntKind.wrap .u64 (1 * 2 ^ min (Int.toNat (k : Int)) 64) = ((2 ^ k : Nat) : Int) := by
    have e3 : min (Int.toNat (k : Int)) 64 = k := by omega
    have e4 : (1 : Int) * 2 ^ k = ((2 ^ k : Nat) : Int) := by simp
    rw [e3, e4, wrapU]
    omega
  rw [e2]
  exact h _ (by omega) h4
theorem xorNext_ok (s : Nat) (t : TypeId) (n : Int) (w : World) (hs : w.heap[s]? = some (.cells #[.int .u64 n] t (0, 0))) (R : Value → World → Prop)
    (h : ∀ w' (n' : Int), w'.heap[s]? = some (.cells #[.int .u64 n'] t (0, 0)) → Mod (on s) w w' → R (.int .u64 n') w') : Ca Try.prog 95 #[.pointer (some ⟨s, 0, none⟩)] w R := by
  refine ca95 (some ⟨s, 0, none⟩) w R ?_
  have step : ∀ (w : World) (n m : Int) (K : World → Prop), w.heap[s]? = some (.cells #[.int .u64 n] t (0, 0)) → (∀ w', w'.heap[s]? = some (.cells #[.int .u64 m] t (0, 0)) → Mod (on s) w w' → K w') →
      (∃ v : Value, w.cell? (Addr.add ⟨s, 0, none⟩ 0) = some v) ∧ w.frozen? (Addr.add ⟨s, 0, none⟩ 0) = false ∧ atW (w.setCell (Addr.add ⟨s, 0, none⟩ 0) (.int .u64 m)) K := by
    intro w n m K hs hK
    refine ⟨⟨_, by rw [cl1 hs]; rfl⟩, fz1 hs _, fun w' e => ?_⟩
    subst e
    exact hK _ (set1 hs 0 _) (Mod.set1 _ _ _ _)
  intro w0 e0
  have m0 : Mod no w w0 := by subst e0; exact Mod.drew _
  clear e0
  have hs0 := m0.at' hs
  refine ⟨n, by rw [cl hs0]; rfl, n, by rw [cl hs0]; rfl, by decide, step w0 n _ _ hs0 fun w1 hs1 m1 => ?_⟩
  intro w2 e2
  have m2 : Mod no w1 w2 := by subst e2; exact Mod.drew _
  clear e2
  have hs2 := m2.at' hs1
  refine ⟨_, by rw [cl hs2]; rfl, _, by rw [cl hs2]; rfl, by decide, step w2 _ _ _ hs2 fun w3 hs3 m3 => ?_⟩
  intro w4 e4
  have m4 : Mod no w3 w4 := by subst e4; exact Mod.drew _
  clear e4
  have hs4 := m4.at' hs3
  refine ⟨_, by rw [cl hs4]; rfl, _, by rw [cl hs4]; rfl, by decide, step w4 _ _ _ hs4 fun w5 hs5 m5 => ?_⟩
  exact ⟨_, by rw [cl hs5]; rfl, h w5 _ hs5 (((((m0.no_trans m1).trans_no m2).trans m3).trans_no m4).trans m5)⟩

theorem and_le (x y : Int) (k : Nat) (hy : y = k) (hk : k < 18446744073709551616) : ((BitVec.ofInt 64 x &&& BitVec.ofInt 64 y).toNat) ≤ k := by
  rw [BitVec.toNat_and]
  refine Nat.le_trans Nat.and_le_right ?_
  rw [hy, BitVec.toNat_ofInt]
  omega
theorem breakP_ok (e : TypeId) (d : Option Addr) (l c : Nat) (xs : List ByteArray) (w : World) (hd : Els Value.string e w d l c xs) (hl : l < 4611686018427387904) (a b : Nat) (hab : a + 8 ≤ b) (hb : b ≤ l) (R : Value → World → Prop)
    (h : ∀ w' ys, Els Value.string e w' d l c ys → Seg a b xs ys → Mod (rowB d) w w' → R (.tuple #[]) w') :
    Ca Try.prog 84 #[.slice d l c, .int .i64 a, .int .i64 b] w R := by
  refine ca84 d l c a b w R ?_
  obtain ⟨elen, e4, ei, ej, ek⟩ := piv_eqs a b l (by omega) hb hl
  rw [W84]
  simp only [elen, e4, ej]
  clear elen e4 ei ej ek
  have hq : a + (b - a) / 4 * 2 + 1 < b ∧ a + 1 ≤ a + (b - a) / 4 * 2 := by omega
  generalize a + (b - a) / 4 * 2 = mid at hq
  have em : IntKind.i64.wrap ((mid : Int) - 1) = ((mid - 1 : Nat) : Int) := (by first | (simp only [IntKind.wrap_i64]; omega) | omega)
  have ep : IntKind.i64.wrap ((mid : Int) + 1) = ((mid + 1 : Nat) : Int) := (by first | (simp only [IntKind.wrap_i64]; omega) | omega)
  rw [em, ep]
  clear em ep
  refine ifK_of (fun _ => ?_) (fun hn => absurd (of_decide_eq_false hn) (by omega))
  intro w0 e0
  have m0 : Mod no w w0 := by subst e0; exact Mod.alloc _ _
  have hs0 : ∃ t, w0.heap[w.heap.size]? = some (.cells #[.int .u64 0] t (0, 0)) := by subst e0; exact ⟨_, new_at _ _⟩
  clear e0
  obtain ⟨t, hs0⟩ := hs0
  have hne : ¬ rowB d w.heap.size := by
    intro hk
    obtain ⟨g, rfl, hc⟩ := hd.get (i := 0) (by have := hd.len; omega)
    have : g = w.heap.size := by simpa [rowB] using hk
    subst this
    rw [World.cell?, Array.getElem?_eq_none (by simp [Addr.add])] at hc
    cases hc
  refine ⟨⟨_, by rw [cl1 hs0]; rfl⟩, fz1 hs0 _, ?_⟩
  intro w2 e2
  have m2 : Mod (on w.heap.size) w0 w2 := by subst e2; exact Mod.set1 _ _ _ _
  have hs2 : ∃ n : Int, w2.heap[w.heap.size]? = some (.cells #[.int .u64 n] t (0, 0)) := by subst e2; exact ⟨_, set1 hs0 0 _⟩
  clear e2
  have m02 : Mod no w w2 := m0.new m2 fun k hk => by cases hk; exact Nat.le_refl _
  refine nextPow_ok (b - a) (by omega) (by omega) w2 _ fun k hk hk0 => ⟨_, rfl, by decide, ?_⟩
  refine ⟨fun x w' => ∃ (i : Nat) (n : Int) (ys : List ByteArray), x = i ∧ mid - 1 ≤ i ∧ i ≤ mid + 2 ∧ w'.heap[w.heap.size]? = some (.cells #[.int .u64 n] t (0, 0)) ∧ Els Value.string e w' d l c ys ∧ Seg a b xs ys ∧ Mod (fun k => rowB d k ∨ k = w.heap.size) w w', fun x _ => ((mid : Int) + 2 - x).toNat, ?_, ?_⟩
  · obtain ⟨n, hs2⟩ := hs2
    exact ⟨mid - 1, n, xs, rfl, Nat.le_refl _, by omega, hs2, hd.no m02, Seg.refl _ _ _, m02.of_no⟩
  rintro _ _ w3 ⟨i, n, ys, rfl, hi1, hi2, hs3, h3, s3, m3⟩
  have m3' : Mod (rowB d) w w3 := m3.mono fun k hk h => by
    rcases h with h | h
    · exact h
    · omega
  refine ⟨by decide, ifK_dec (fun hle => ?_) (fun hgt => h w3 ys h3 s3 m3')⟩
  refine xorNext_ok _ t n w3 hs3 _ fun w4 n4 hs4 m4 => ⟨_, rfl, ?_⟩
  have h4 : Els Value.string e w4 d l c ys := h3.mod m4 fun k hk he => hne (by cases he; exact hk)
  have hand : IntKind.wrap .u64 ((k : Int) - 1) = ((k - 1 : Nat) : Int) := by rw [wrapU]; omega
  rw [hand]
  have hale := and_le n4 ((k - 1 : Nat) : Int) (k - 1) rfl (by omega)
  generalize ((BitVec.ofInt 64 n4 &&& BitVec.ofInt 64 ((k - 1 : Nat) : Int)).toNat) = o at hale
  have e5 : IntKind.wrap .i64 (IntKind.wrap .u64 (o : Int)) = o := by rw [wrapU, IntKind.wrap_i64]; omega
  rw [e5]
  clear e5
  refine ⟨fun x w' => ∃ q : Nat, x = q ∧ q < b - a ∧ w' = w4, ifK_dec (fun hge => ⟨o - (b - a), (by first | (simp only [IntKind.wrap_i64]; omega) | omega), by omega, rfl⟩) (fun hlt => ⟨o, rfl, by omega, rfl⟩), ?_⟩
  rintro _ _ _ ⟨q, rfl, hq1, rfl⟩ w5 e5
  rename_i w4
  have m5 : Mod no w4 w5 := by subst e5; exact Mod.drew _
  clear e5
  refine (h4.no m5).swp i (a + q) rfl (by first | (simp only [IntKind.wrap_i64]; omega) | omega) (by omega) (by omega) fun w6 h6 m6 => ?_
  have hs6 : w6.heap[w.heap.size]? = some (.cells #[.int .u64 n4] t (0, 0)) := m6.at (m5.at' hs4) hne
  clear hale hk hk0 hand
  have e8 : IntKind.i64.wrap ((i : Int) + 1) = ((i + 1 : Nat) : Int) := (by first | (simp only [IntKind.wrap_i64]; omega) | omega)
  rw [e8]
  clear e8
  exact ⟨⟨i + 1, n4, _, rfl, by omega, by omega, hs6, h6, s3.trans (h4.seg (by omega) (by omega) (by omega) (by omega) (by omega) (by omega)),
    ((m3.trans (m4.mono fun k _ h => .inr h)).trans_no m5).trans (m6.mono fun k _ h => .inl h)⟩, by simp only; omega⟩
end Go.Proofs.Ytemklabamlifdaa.Sortstring

/- The formulas of functions, printed by a program of mine (gen.py) out of the translation. -/
namespace Go.Proofs.Ytemklabamlifdaa
open Go Go.Proofs.Ytemklabamlifdaa.St
set_option maxRecDepth 100000

/-- slices.pdqsortOrdered[string] -/
noncomputable def C80 : Code := (Try.f80.body).getD .skip
def pl80 : Nat → Plan
  | 17 => (.quiet 0 (.quiet 1 (.quiet 2 (.quiet 3 (.quiet 4 (.quiet 5 (.quiet 6 (.quiet 7 (.quiet 8 (.quiet 9 (.quiet 10 (.quiet 11 (.eff 12 [] (.quiet 13 (.quiet 14 .done)))))))))))))))
  | _ => .done
def ls80 : Nat → List (Nat × LT)
  | 2 => [(1, (.one (.int .i64))), (2, (.one (.int .i64))), (3, (.one (.int .i64))), (8, (.one .bool)), (9, (.one .bool))]
  | 10 => [(0, .agg []), (3, (.one (.int .i64)))]
  | 14 => [(0, .agg []), (11, (.one (.int .i64))), (12, (.one (.int .i64)))]
  | 18 => [(0, .agg [])]
  | 21 => [(0, .agg []), (1, (.one (.int .i64)))]
  | _ => []
def W80 (dataa : Option Addr) (datal : Nat) (datac : Nat) (a_ : Int) (b : Int) (limit : Int) (w : World) (R : Value → World → Prop) : Prop :=
  (∃ z0 : Int → Int → Int → Bool → Bool → World → Prop, (∃ z1 : Int → Int → Int → Bool → Bool → World → Nat, ((z0 (a_) (b) (limit) (true) (true) (w)) ∧ (∀ (_ : Nat → Value), (∀ (x3 : Int), (∀ (x4 : Int), (∀ (x5 : Int), (∀ (b6 : Bool), (∀ (b7 : Bool), (∀ (w8 : World), ((z0 (x3) (x4) (x5) (b6) (b7) (w8)) → (ifK (decide (IntKind.wrap IntKind.i64 (x4 - x3) ≤ 12))
    (Ca Try.prog (82) (Array.mk [Value.slice dataa datal datac, Value.int IntKind.i64 x3, Value.int IntKind.i64 x4]) (w8) (fun v9 => (fun w10 =>
      ((v9 = Value.tuple (Array.mk (List.reverse []))) ∧ (R (Value.tuple (Array.mk (List.reverse []))) (w10))))))
    (ifK (x5 == 0)
      (Ca Try.prog (83) (Array.mk [Value.slice dataa datal datac, Value.int IntKind.i64 x3, Value.int IntKind.i64 x4]) (w8) (fun v11 => (fun w12 =>
        ((v11 = Value.tuple (Array.mk (List.reverse []))) ∧ (R (Value.tuple (Array.mk (List.reverse []))) (w12))))))
      (∃ z13 : Int → World → Prop, ((ifK (!b6)
        (Ca Try.prog (84) (Array.mk [Value.slice dataa datal datac, Value.int IntKind.i64 x3, Value.int IntKind.i64 x4]) (w8) (fun v14 => (fun w15 =>
          ((v14 = Value.tuple (Array.mk (List.reverse []))) ∧ (z13 (IntKind.wrap IntKind.i64 (x5 - 1)) (w15))))))
        (z13 (x5) (w8))) ∧ (∀ (_ : Nat → Value), (∀ (x17 : Int), (∀ (w18 : World), ((z13 (x17) (w18)) → (Ca Try.prog (85) (Array.mk [Value.slice dataa datal datac, Value.int IntKind.i64 x3, Value.int IntKind.i64 x4]) (w18) (fun v19 => (fun w20 =>
        (∃ x21 : Int, (∃ x22 : Int, ((v19 = Value.tuple (Array.mk (List.reverse [Value.int IntKind.i64 x22, Value.int IntKind.i64 x21]))) ∧ (∃ z23 : Int → Int → World → Prop, ((ifK (x22 == 2)
          (Ca Try.prog (86) (Array.mk [Value.slice dataa datal datac, Value.int IntKind.i64 x3, Value.int IntKind.i64 x4]) (w20) (fun v24 => (fun w25 =>
            ((v24 = Value.tuple (Array.mk (List.reverse []))) ∧ (z23 (IntKind.wrap IntKind.i64 (IntKind.wrap IntKind.i64 (x4 - 1) - IntKind.wrap IntKind.i64 (x21 - x3))) (1) (w25))))))
          (z23 (x21) (x22) (w20))) ∧ (∀ (_ : Nat → Value), (∀ (x27 : Int), (∀ (x28 : Int), (∀ (w29 : World), ((z23 (x27) (x28) (w29)) → (∃ z30 : World → Prop, ((ifK (b6)
          (ifK (b7)
            (ifK (x28 == 1)
              (Ca Try.prog (87) (Array.mk [Value.slice dataa datal datac, Value.int IntKind.i64 x3, Value.int IntKind.i64 x4]) (w29) (fun v31 => (fun w32 =>
                (∃ b33 : Bool, ((v31 = Value.bool b33) ∧ (ifK (b33)
                  (R (Value.tuple (Array.mk (List.reverse []))) (w32))
                  (z30 (w32))))))))
              (z30 (w29)))
            (z30 (w29)))
          (z30 (w29))) ∧ (∀ (_ : Nat → Value), (∀ (w35 : World), ((z30 (w35)) → (∃ z36 : Int → World → Prop, ((atW (World.drew w35) (fun w37 =>
          (ifK (decide (x3 > 0))
            (∃ a38 : Addr, ((dataa = some a38) ∧ (((0 : Int) ≤ IntKind.wrap IntKind.i64 (x3 - 1)) ∧ (((IntKind.wrap IntKind.i64 (x3 - 1) : Int) < (↑datal : Int)) ∧ (∃ s39 : ByteArray, ((World.cell? w37 (Addr.add a38 (Int.toNat (IntKind.wrap IntKind.i64 (x3 - 1)) * 1)) = some (Value.string s39)) ∧ (∃ a40 : Addr, ((dataa = some a40) ∧ (((0 : Int) ≤ x27) ∧ (((x27 : Int) < (↑datal : Int)) ∧ (∃ s41 : ByteArray, ((World.cell? w37 (Addr.add a40 (Int.toNat x27 * 1)) = some (Value.string s41)) ∧ (Ca Try.prog (88) (Array.mk [Value.string s39, Value.string s41]) (w37) (fun v42 => (fun w43 =>
              (∃ b44 : Bool, ((v42 = Value.bool b44) ∧ (ifK (!b44)
                (Ca Try.prog (89) (Array.mk [Value.slice dataa datal datac, Value.int IntKind.i64 x3, Value.int IntKind.i64 x4, Value.int IntKind.i64 x27]) (w43) (fun v45 => (fun w46 =>
                  (∃ x47 : Int, ((v45 = Value.int IntKind.i64 x47) ∧ ((z0 (x47) (x4) (x17) (b6) (b7) (w46)) ∧ (z1 x47 x4 x17 b6 b7 w46 < z1 x3 x4 x5 b6 b7 w8)))))))
                (z36 (x3) (w43))))))))))))))))))))
            (z36 (x3) (w37))))) ∧ (∀ (_ : Nat → Value), (∀ (x49 : Int), (∀ (w50 : World), ((z36 (x49) (w50)) → (Ca Try.prog (90) (Array.mk [Value.slice dataa datal datac, Value.int IntKind.i64 x49, Value.int IntKind.i64 x4, Value.int IntKind.i64 x27]) (w50) (fun v51 => (fun w52 =>
          (∃ x53 : Int, (∃ b54 : Bool, ((v51 = Value.tuple (Array.mk (List.reverse [Value.bool b54, Value.int IntKind.i64 x53]))) ∧ (((8 : Int) ≠ 0) ∧ (ifK (decide (IntKind.wrap IntKind.i64 (x53 - x49) < IntKind.wrap IntKind.i64 (x4 - x53)))
            (Ca Try.prog (80) (Array.mk [Value.slice dataa datal datac, Value.int IntKind.i64 x49, Value.int IntKind.i64 x53, Value.int IntKind.i64 x17]) (w52) (fun v55 => (fun w56 =>
              ((v55 = Value.tuple (Array.mk (List.reverse []))) ∧ ((z0 (IntKind.wrap IntKind.i64 (x53 + 1)) (x4) (x17) (decide (IntKind.wrap IntKind.i64 (x53 - x49) ≥ IntKind.wrap IntKind.i64 (Int.tdiv (IntKind.wrap IntKind.i64 (x4 - x3)) 8))) (b54) (w56)) ∧ (z1 (IntKind.wrap IntKind.i64 (x53 + 1)) x4 x17 (decide (IntKind.wrap IntKind.i64 (x53 - x49) ≥ IntKind.wrap IntKind.i64 (Int.tdiv (IntKind.wrap IntKind.i64 (x4 - x3)) 8))) b54 w56 < z1 x3 x4 x5 b6 b7 w8))))))
            (Ca Try.prog (80) (Array.mk [Value.slice dataa datal datac, Value.int IntKind.i64 (IntKind.wrap IntKind.i64 (x53 + 1)), Value.int IntKind.i64 x4, Value.int IntKind.i64 x17]) (w52) (fun v57 => (fun w58 =>
              ((v57 = Value.tuple (Array.mk (List.reverse []))) ∧ ((z0 (x49) (x53) (x17) (decide (IntKind.wrap IntKind.i64 (x4 - x53) ≥ IntKind.wrap IntKind.i64 (Int.tdiv (IntKind.wrap IntKind.i64 (x4 - x3)) 8))) (b54) (w58)) ∧ (z1 x49 x53 x17 (decide (IntKind.wrap IntKind.i64 (x4 - x53) ≥ IntKind.wrap IntKind.i64 (Int.tdiv (IntKind.wrap IntKind.i64 (x4 - x3)) 8))) b54 w58 < z1 x3 x4 x5 b6 b7 w8)))))))))))))))))))))))))))))))))))))))))))))))))))))))))
theorem ca80 (dataa : Option Addr) (datal : Nat) (datac : Nat) (a_ : Int) (b : Int) (limit : Int) (w : World) (R : Value → World → Prop) (h : W80 dataa datal datac a_ b limit w R) : Ca Try.prog 80 ⟨[(.slice dataa datal datac), (.int .i64 a_), (.int .i64 b), (.int .i64 limit)]⟩ w R := by
  have h1 : Try.prog.follows .mixedOrders = true := by kernel_rfl
  have h2 : Try.f80.body = some C80 := by kernel_rfl
  have h3 : (Try.f80.name == "runtime.NumGoroutine") = false := by kernel_rfl
  have h6 : Try.f80.results.toList = [] := by kernel_rfl
  have h4 : Nat.ble 4 134 = true := by kernel_rfl
  have h5 : okCode 134 pl80 ls80 C80 0 = true := by kernel_rfl
  have e : W80 dataa datal datac a_ b limit w R = wpC none Try.prog 134 pl80 ls80 C80 0 (endP Try.prog [] R) (fr0 [(.slice dataa datal datac), (.int .i64 a_), (.int .i64 b), (.int .i64 limit)]) [] w := by kernel_rfl
  exact ca_of' (P := Try.prog) (g := 80) (fn := Try.f80) (c := C80) (m := 134) (rs := []) (args := [(.slice dataa datal datac), (.int .i64 a_), (.int .i64 b), (.int .i64 limit)]) (pl := pl80) (ls := ls80) (w := w) (R := R) h1 Try.func80 h2 Try.ntmps80 h6 h3 h4 h5 (Eq.mp e h)

/-- slices.Sort[[]string,string] -/
noncomputable def C72 : Code := (Try.f72.body).getD .skip
def pl72 : Nat → Plan := fun _ => .done
def ls72 : Nat → List (Nat × LT) := fun _ => []
def W72 (xa : Option Addr) (xl : Nat) (xc : Nat) (w : World) (R : Value → World → Prop) : Prop :=
  (Ca Try.prog (81) (Array.mk [Value.int IntKind.u64 (IntKind.wrap IntKind.u64 (↑xl : Int))]) (w) (fun v0 => (fun w1 =>
    (∃ x2 : Int, ((v0 = Value.int IntKind.i64 x2) ∧ (Ca Try.prog (80) (Array.mk [Value.slice xa xl xc, Value.int IntKind.i64 0, Value.int IntKind.i64 (↑xl : Int), Value.int IntKind.i64 x2]) (w1) (fun v3 => (fun w4 =>
      ((v3 = Value.tuple (Array.mk (List.reverse []))) ∧ (R (Value.tuple (Array.mk (List.reverse []))) (w4)))))))))))
theorem ca72 (xa : Option Addr) (xl : Nat) (xc : Nat) (w : World) (R : Value → World → Prop) (h : W72 xa xl xc w R) : Ca Try.prog 72 ⟨[(.slice xa xl xc)]⟩ w R := by
  have h1 : Try.prog.follows .mixedOrders = true := by kernel_rfl
  have h2 : Try.f72.body = some C72 := by kernel_rfl
  have h3 : (Try.f72.name == "runtime.NumGoroutine") = false := by kernel_rfl
  have h6 : Try.f72.results.toList = [] := by kernel_rfl
  have h4 : Nat.ble 1 11 = true := by kernel_rfl
  have h5 : okCode 11 pl72 ls72 C72 0 = true := by kernel_rfl
  have e : W72 xa xl xc w R = wpC none Try.prog 11 pl72 ls72 C72 0 (endP Try.prog [] R) (fr0 [(.slice xa xl xc)]) [] w := by kernel_rfl
  exact ca_of' (P := Try.prog) (g := 72) (fn := Try.f72) (c := C72) (m := 11) (rs := []) (args := [(.slice xa xl xc)]) (pl := pl72) (ls := ls72) (w := w) (R := R) h1 Try.func72 h2 Try.ntmps72 h6 h3 h4 h5 (Eq.mp e h)
end Go.Proofs.Ytemklabamlifdaa

/- The library's general sort, at one type: sorting what is nearly sorted; the sort itself. -/
namespace Go.Proofs.Ytemklabamlifdaa.Sortstring
open Go Go.Proofs.Ytemklabamlifdaa Go.Proofs.Ytemklabamlifdaa.St

theorem wS {i : Nat} (h : i < 4611686018427387904) : IntKind.i64.wrap ((i : Int) + 1) = ((i + 1 : Nat) : Int) := by rw [wrap64 (by omega) (by omega)]; rfl
theorem wP {i : Nat} (h : i < 4611686018427387904) (h0 : 0 < i) : IntKind.i64.wrap ((i : Int) - 1) = ((i - 1 : Nat) : Int) := by rw [wrap64 (by omega) (by omega)]; omega
theorem wD {i j : Nat} (h : i < 4611686018427387904) (h0 : j ≤ i) : IntKind.i64.wrap ((i : Int) - (j : Int)) = ((i - j : Nat) : Int) := by rw [wrap64 (by omega) (by omega)]; omega

section
variable (e : TypeId) (d : Option Addr) (l c : Nat) (xs : List ByteArray) (w : World) (hd : Els Value.string e w d l c xs) (hl : l < 4611686018427387904)
include hd hl

theorem partial_ok (a b : Nat) (hab : a < b) (hb : b ≤ l) (hbel : Bel xs a b) (R : Value → World → Prop)
    (h : ∀ w' ys (q : Bool), Els Value.string e w' d l c ys → Seg a b xs ys → (q = true → Srt ys a b) → Mod (rowB d) w w' → R (.bool q) w') :
    Ca Try.prog 87 #[.slice d l c, .int .i64 a, .int .i64 b] w R := by
  refine ca87 d l c a b w R ?_
  rw [W87, wS (by omega)]
  refine ⟨fun x y w' => ∃ (i j : Nat) (ys : List ByteArray), x = i ∧ y = j ∧ a < i ∧ i ≤ b ∧ j ≤ 5 ∧ Els Value.string e w' d l c ys ∧ Seg a b xs ys ∧ Srt ys a i ∧ Mod (rowB d) w w', fun _ y _ => (5 - y).toNat,
    ⟨a + 1, 0, xs, rfl, rfl, by omega, by omega, by omega, hd, Seg.refl _ _ _, Srt.nil _ _ _ (Nat.le_refl _), Mod.refl _ _⟩, ?_⟩
  rintro _ _ _ w1 ⟨i0, j0, ys, rfl, rfl, hi1, hi2, hj5, h1, s1, srt1, m1⟩
  refine ifK_dec (fun hlt => ?_) (fun _ => h w1 ys false h1 s1 (fun h => by cases h) m1)
  have hj : (j0 : Int) < 5 := hlt
  clear hlt
  -- as long as it rises
  refine ⟨fun x w' => ∃ i : Nat, x = i ∧ a < i ∧ i ≤ b ∧ Els Value.string e w' d l c ys ∧ Srt ys a i ∧ (i < b → at0 ys i < at0 ys (i - 1)) ∧ Mod (rowB d) w w', ⟨fun x w' => ∃ i : Nat, x = i ∧ a < i ∧ i ≤ b ∧ Els Value.string e w' d l c ys ∧ Srt ys a i ∧ Mod (rowB d) w w',
    fun x _ => ((b : Int) - x).toNat, ⟨i0, rfl, hi1, hi2, h1, srt1, m1⟩, ?_⟩, ?_⟩
  · rintro _ _ w2 ⟨i, rfl, h3, h4, h2, srt2, m2⟩ w3 e3
    have m3 : Mod no w2 w3 := by subst e3; exact Mod.drew _
    clear e3
    refine ifK_dec (fun hib => ?_) (fun hib => ⟨i, rfl, h3, h4, h2.no m3, srt2, fun h => by omega, m2.trans_no m3⟩)
    have hib : i < b := by omega
    rw [wS (i := i) (by omega), wP (i := i) (by omega) (by omega)]
    refine nls (h2.no m3) i (i - 1) rfl rfl (by omega) (by omega) (fun hge => ⟨⟨i + 1, rfl, by omega, by omega, h2.no m3, (Ins.start srt2).done (.inr (Lin.nlt hge)), m2.trans_no m3⟩, by simp only; omega⟩)
      (fun hls => ⟨i, rfl, h3, h4, h2.no m3, srt2, fun _ => hls, m2.trans_no m3⟩)
  rintro _ _ w4 ⟨i, rfl, h3, h4, h2, srt2, hls, m2⟩
  refine ifK_eq (fun hib => ?_) (fun hib => ?_)
  · have hib : i = b := by omega
    subst hib
    exact h w4 ys true h2 s1 (fun _ => srt2) m2
  have hib : i < b := by omega
  have hls := hls hib
  rw [wD (i := b) (j := a) (by omega) (by omega), wD (i := i) (j := a) (by omega) (by omega), wD (i := b) (j := i) (by omega) (by omega), wS (i := i) (by omega), wS (i := j0) (by omega), wP (i := i) (by omega) (by omega)]
  refine ifK_of (fun _ => h w4 ys false h2 s1 (fun h => by cases h) m2) (fun _ => ?_)
  intro w5 e5
  have m5 : Mod no w4 w5 := by subst e5; exact Mod.drew _
  clear e5
  refine (h2.no m5).swp i (i - 1) rfl rfl (by omega) (by omega) fun w6 h6 m6 => ?_
  have s6 : Seg a b xs (swapL ys i (i - 1)) := s1.trans (h2.seg (by omega) (by omega) (by omega) (by omega) (by omega) (by omega))
  have m6 := (m2.trans_no m5).trans m6
  have srt6 : Srt (swapL ys i (i - 1)) a (i - 1) := by
    intro p q h7 h8 h9
    rw [at0_swapL (h2.lt (by omega)) (h2.lt (by omega)), at0_swapL (h2.lt (by omega)) (h2.lt (by omega)), if_neg (by omega), if_neg (by omega), if_neg (by omega), if_neg (by omega)]
    exact srt2 p q h7 h8 (by omega)
  -- the smaller one to the left
  refine ⟨fun w' => ∃ zs, Els Value.string e w' d l c zs ∧ Seg a b xs zs ∧ Srt zs a i ∧ Mod (rowB d) w w', ?_, ?_⟩
  · refine ifK_dec (fun hge => ?_) (fun hlt => ⟨_, h6, s6, Srt.nil _ _ _ (by omega), m6⟩)
    refine ⟨fun x w' => ∃ (j : Nat) (zs : List ByteArray), x = j ∧ a ≤ j ∧ j + 1 ≤ i ∧ Els Value.string e w' d l c zs ∧ Seg a b xs zs ∧ Ins zs a (i - 1) j ∧ Mod (rowB d) w w', fun x _ => x.toNat,
      ⟨i - 1, _, rfl, by omega, by omega, h6, s6, Ins.start srt6, m6⟩, ?_⟩
    rintro _ _ w7 ⟨j, zs, rfl, hj1, hj2, h7, s7, ins7, m7⟩
    have fin : (j ≤ a ∨ at0 zs (j - 1) ≤ at0 zs j) → Srt zs a i := fun hh => by
      have := ins7.done hh
      rwa [Nat.sub_add_cancel (by omega)] at this
    refine ifK_dec (fun hj0 => ?_) (fun hj0 => ⟨zs, h7, s7, fin (.inl (by omega)), m7⟩)
    have hj0 : 0 < j := by omega
    intro w8 e8
    have m8 : Mod no w7 w8 := by subst e8; exact Mod.drew _
    clear e8
    rw [wP (i := j) (by omega) hj0]
    refine nls (h7.no m8) j (j - 1) rfl rfl (by omega) (by omega) (fun hge => ⟨zs, h7.no m8, s7, fin (.inr (Lin.nlt hge)), m7.trans_no m8⟩) (fun hlt => ?_)
    have haj : a < j := by
      refine Nat.lt_of_le_of_ne hj1 fun e => ?_
      subst e
      exact absurd hlt (Lin.nle ((hbel.seg s7 (hd.le hb)) hj0 a (Nat.le_refl _) hab))
    intro w9 e9
    have m9 : Mod no w8 w9 := by subst e9; exact Mod.drew _
    clear e9
    refine ((h7.no m8).no m9).swp j (j - 1) rfl rfl (by omega) (by omega) fun w10 h10 m10 => ?_
    exact ⟨⟨j - 1, _, rfl, by omega, by omega, h10, s7.trans (h7.seg (by omega) (by omega) (by omega) (by omega) (by omega) (by omega)), ins7.step (h7.lt (by omega)) haj (by omega) hlt, ((m7.trans_no m8).trans_no m9).trans m10⟩, by simp only; omega⟩
  -- the greater one to the right
  rintro _ w11 ⟨zs, h11, s11, srt11, m11⟩
  have next : ∀ (w' : World) (us : List ByteArray), Els Value.string e w' d l c us → Seg a b xs us → Srt us a i → Mod (rowB d) w w' →
      (∃ (i' j' : Nat) (ys : List ByteArray), (i : Int) = i' ∧ ((j0 + 1 : Nat) : Int) = j' ∧ a < i' ∧ i' ≤ b ∧ j' ≤ 5 ∧ Els Value.string e w' d l c ys ∧ Seg a b xs ys ∧ Srt ys a i' ∧ Mod (rowB d) w w') ∧ (5 - ((j0 + 1 : Nat) : Int)).toNat < (5 - (j0 : Int)).toNat := by
    intro w' us hu su srtu mu
    exact ⟨⟨i, j0 + 1, us, rfl, rfl, h3, h4, by omega, hu, su, srtu, mu⟩, by omega⟩
  refine ifK_of (fun hge => ?_) (fun _ => next w11 zs h11 s11 srt11 m11)
  refine ⟨fun x w' => ∃ (j : Nat) (us : List ByteArray), x = j ∧ i < j ∧ j ≤ b ∧ Els Value.string e w' d l c us ∧ Seg a b xs us ∧ Srt us a i ∧ Mod (rowB d) w w', fun x _ => ((b : Int) - x).toNat,
    ⟨i + 1, zs, rfl, by omega, by omega, h11, s11, srt11, m11⟩, ?_⟩
  rintro _ _ w12 ⟨j, us, rfl, hj1, hj2, h12, s12, srt12, m12⟩
  refine ifK_dec (fun hjb => ?_) (fun _ => next w12 us h12 s12 srt12 m12)
  have hjb : j < b := by omega
  intro w13 e13
  have m13 : Mod no w12 w13 := by subst e13; exact Mod.drew _
  clear e13
  rw [wP (i := j) (by omega) (by omega), wS (i := j) (by omega)]
  refine nls (h12.no m13) j (j - 1) rfl rfl (by omega) (by omega) (fun _ => next w13 us (h12.no m13) s12 srt12 (m12.trans_no m13)) (fun hlt => ?_)
  intro w14 e14
  have m14 : Mod no w13 w14 := by subst e14; exact Mod.drew _
  clear e14
  refine ((h12.no m13).no m14).swp j (j - 1) rfl rfl (by omega) (by omega) fun w15 h15 m15 => ?_
  have s15 : Seg i b us (swapL us j (j - 1)) := h12.seg (by omega) (by omega) (by omega) (by omega) (by omega) (by omega)
  exact ⟨⟨j + 1, _, rfl, by omega, by omega, h15, s12.trans (s15.mono (by omega) (Nat.le_refl _)), srt12.of_out s15 (.inl (Nat.le_refl _)), ((m12.trans_no m13).trans_no m14).trans m15⟩, by simp only; omega⟩
end

/-- The general sort. -/
theorem pdq_ok (e : TypeId) (d : Option Addr) (l c : Nat) (hl : l < 4611686018427387904) : ∀ (n a b : Nat) (lim : Int) (xs : List ByteArray) (w : World), b - a ≤ n → Els Value.string e w d l c xs → a ≤ b → b ≤ l → Bel xs a b → ∀ R : Value → World → Prop,
    (∀ w' ys, Els Value.string e w' d l c ys → Seg a b xs ys → Srt ys a b → Mod (rowB d) w w' → R (.tuple #[]) w') →
    Ca Try.prog 80 #[.slice d l c, .int .i64 a, .int .i64 b, .int .i64 lim] w R := by
  intro n
  induction n using Nat.strongRecOn with
  | _ n ih =>
  intro a b lim xs w hn hd hab hb hbel R h
  refine ca80 d l c a b lim w R ?_
  refine ⟨fun x y _ _ _ w' => ∃ (a' b' : Nat) (ys : List ByteArray), x = a' ∧ y = b' ∧ a ≤ a' ∧ a' ≤ b' ∧ b' ≤ b ∧ Els Value.string e w' d l c ys ∧ Seg a b xs ys ∧ Alm ys a b a' b' ∧ Bel ys a' b' ∧ Mod (rowB d) w w', fun x y _ _ _ _ => (y - x).toNat,
    ⟨a, b, xs, rfl, rfl, Nat.le_refl _, hab, Nat.le_refl _, hd, Seg.refl _ _ _, Alm.start _ _ _, hbel, Mod.refl _ _⟩, ?_⟩
  rintro _ _ _ lim' b6 b7 w1 ⟨a', b', ys, rfl, rfl, ha, hab', hb', h1, s1, alm1, bel1, m1⟩
  have sorted : ∀ w' zs, Els Value.string e w' d l c zs → Seg a' b' ys zs → Srt zs a' b' → Mod (rowB d) w1 w' → R (.tuple #[]) w' := fun w' zs hz sz srt mz =>
    h w' zs hz (s1.trans (sz.mono ha hb')) ((alm1.seg sz ha hb' (h1.le hb)).full srt) (m1.trans mz)
  rw [wD (i := b') (j := a') (by omega) hab']
  refine ifK_dec (fun _ => ?_) (fun hlen => ?_)
  · exact insertion_ok e d l c a' b' ys w1 h1 hab' (by omega) hl _ fun w2 zs h2 s2 srt2 m2 => ⟨rfl, sorted w2 zs h2 s2 srt2 m2⟩
  have hlen : a' + 12 < b' := by omega
  refine ifK_of (fun _ => ?_) (fun _ => ?_)
  · exact heapSort_ok e d l c ys w1 h1 hl a' b' (by omega) (by omega) _ fun w2 zs h2 s2 srt2 m2 => ⟨rfl, sorted w2 zs h2 s2 srt2 m2⟩
  -- a part of another order is as good
  refine ⟨fun _ w' => ∃ zs, Els Value.string e w' d l c zs ∧ Seg a' b' ys zs ∧ Mod (rowB d) w1 w', ?_, ?_⟩
  · refine ifK_of (fun _ => ?_) (fun _ => ⟨ys, h1, Seg.refl _ _ _, Mod.refl _ _⟩)
    exact breakP_ok e d l c ys w1 h1 hl a' b' (by omega) (by omega) _ fun w2 zs h2 s2 m2 => ⟨rfl, zs, h2, s2, m2⟩
  rintro _ lim2 w2 ⟨zs, h2, s2, m2⟩
  refine choosePivot_ok e d l c zs w2 h2 hl a' b' (by omega) (by omega) _ fun w3 p hint hp1 hp2 m3 => ⟨_, _, rfl, ?_⟩
  refine ⟨fun x _ w' => ∃ (p : Nat) (us : List ByteArray), x = p ∧ a' ≤ p ∧ p < b' ∧ Els Value.string e w' d l c us ∧ Seg a' b' ys us ∧ Mod (rowB d) w1 w', ?_, ?_⟩
  · refine ifK_of (fun _ => ?_) (fun _ => ⟨p, zs, rfl, hp1, hp2, h2.no m3, s2, m2.trans_no m3⟩)
    refine reverse_ok e d l c zs w3 (h2.no m3) hl a' b' (by omega) (by omega) _ fun w4 us h4 s4 m4 => ⟨rfl, b' - 1 - (p - a'), us, ?_, by omega, by omega, h4, s2.trans s4, (m2.trans_no m3).trans m4⟩
    rw [wP (i := b') (by omega) (by omega), wD (i := p) (j := a') (by omega) hp1, wD (by omega) (by omega)]
  rintro _ _ hint2 w5 ⟨p, us, rfl, hp1, hp2, h5, s5, m5⟩
  refine ⟨fun w' => ∃ vs, Els Value.string e w' d l c vs ∧ Seg a' b' ys vs ∧ Mod (rowB d) w1 w', ?_, ?_⟩
  · refine ifK_of (fun _ => ifK_of (fun _ => ifK_of (fun _ => ?_) (fun _ => ⟨us, h5, s5, m5⟩)) (fun _ => ⟨us, h5, s5, m5⟩)) (fun _ => ⟨us, h5, s5, m5⟩)
    refine partial_ok e d l c us w5 h5 hl a' b' (by omega) (by omega) (bel1.seg s5 (h1.le (by omega))) _ fun w6 vs q h6 s6 srt6 m6 => ⟨q, rfl, ?_⟩
    exact ifK_of (fun hq => sorted w6 vs h6 (s5.trans s6) (srt6 hq) (m5.trans m6)) (fun _ => ⟨vs, h6, s5.trans s6, m5.trans m6⟩)
  rintro _ w7 ⟨vs, h7, s7, m7⟩
  have s7' : Seg a b xs vs := s1.trans (s7.mono ha hb')
  have m7' := m1.trans m7
  have alm7 := alm1.seg s7 ha hb' (h1.le hb)
  have bel7 := bel1.seg s7 (h1.le (by omega))
  -- parted into less and more
  refine ⟨fun x w' => x = (a' : Int) ∧ Els Value.string e w' d l c vs ∧ Mod (rowB d) w w', ?_, ?_⟩
  · intro w8 e8
    have m8 : Mod no w7 w8 := by subst e8; exact Mod.drew _
    clear e8
    refine ifK_dec (fun ha0 => ?_) (fun _ => ⟨rfl, h7.no m8, m7'.trans_no m8⟩)
    have ha0 : 0 < a' := by omega
    rw [wP (i := a') (by omega) ha0]
    refine nls (h7.no m8) (a' - 1) p rfl rfl (by omega) (by omega) (fun hge => ?_) (fun _ => ⟨rfl, h7.no m8, m7'.trans_no m8⟩)
    have hmin : ∀ k, a' ≤ k → k < b' → at0 vs p ≤ at0 vs k := fun k h8 h9 => Lin.tr (Lin.nlt hge) (bel7 ha0 k h8 h9)
    refine partEq_ok e d l c vs w8 (h7.no m8) hl a' b' p hp1 hp2 (by omega) hmin _ fun w9 ts m h9 s9 eq9 m9 => ⟨_, rfl, ?_⟩
    have hm1 := eq9.am
    have hm2 := eq9.mb
    exact ⟨⟨m, b', ts, rfl, rfl, by omega, hm2, hb', h9, s7'.trans (s9.mono ha hb'), (alm7.seg s9 ha hb' (h7.le hb)).eqd eq9, eq9.bel, (m7'.trans_no m8).trans m9⟩, by simp only; omega⟩
  rintro _ _ w10 ⟨rfl, h10, m10⟩
  refine partition_ok e d l c vs w10 h10 hl a' b' p hp1 hp2 (by omega) _ fun w11 ts m q h11 s11 pt11 m11 => ⟨_, _, rfl, by decide, ?_⟩
  have hm1 := pt11.am
  have hm2 := pt11.mb
  have s11' : Seg a b xs ts := s7'.trans (s11.mono ha hb')
  have alm11 := alm7.seg s11 ha hb' (h7.le hb)
  have bel11 := bel7.seg s11 (h7.le (by omega))
  have m11' := m10.trans m11
  rw [wS (i := m) (by omega)]
  refine ifK_of (fun _ => ?_) (fun _ => ?_)
  · refine ih (m - a') (by omega) a' m lim2 ts w11 (Nat.le_refl _) h11 hm1 (by omega) (bel11.mono (by omega)) _ fun w12 rs h12 s12 srt12 m12 => ⟨rfl, ?_⟩
    have pt12 := pt11.left (h11.le (by omega)) s12
    exact ⟨⟨m + 1, b', rs, rfl, rfl, by omega, by omega, hb', h12, s11'.trans (s12.mono (by omega) (by omega)), (alm11.seg (s12.mono (Nat.le_refl _) (by omega)) ha hb' (h11.le hb)).left pt12 srt12, pt12.bel, m11'.trans m12⟩, by simp only; omega⟩
  · refine ih (b' - (m + 1)) (by omega) (m + 1) b' lim2 ts w11 (Nat.le_refl _) h11 (by omega) (by omega) pt11.bel _ fun w12 rs h12 s12 srt12 m12 => ⟨rfl, ?_⟩
    have pt12 := pt11.right (h11.le (by omega)) s12
    exact ⟨⟨a', m, rs, rfl, rfl, ha, hm1, by omega, h12, s11'.trans (s12.mono (by omega) (by omega)), (alm11.seg (s12.mono (by omega) (Nat.le_refl _)) ha hb' (h11.le hb)).right pt12 srt12,
      (bel11.seg (s12.mono (by omega) (Nat.le_refl _)) (h11.le (by omega))).mono (by omega), m11'.trans m12⟩, by simp only; omega⟩

theorem sort_ok (e : TypeId) (d : Option Addr) (l c : Nat) (xs : List ByteArray) (w : World) (hd : Els Value.string e w d l c xs) (hl : l < 4611686018427387904) (R : Value → World → Prop)
    (h : ∀ w' ys, Els Value.string e w' d l c ys → ys.Perm xs → Srt ys 0 l → Mod (rowB d) w w' → R (.tuple #[]) w') :
    Ca Try.prog 72 #[.slice d l c] w R := by
  refine ca72 d l c w R ?_
  refine bitsLen_ok _ w _ fun n _ => ⟨n, rfl, ?_⟩
  exact pdq_ok e d l c hl l 0 l n xs w (Nat.le_refl _) hd (Nat.zero_le _) (Nat.le_refl _) (fun h => absurd h (by omega)) _ fun w' ys h1 h2 h3 h4 => ⟨rfl, h w' ys h1 h2.perm h3 h4⟩
end Go.Proofs.Ytemklabamlifdaa.Sortstring

/- The library's Keys of a directory, Collect, Sorted. -/
namespace Go.Proofs.Ytemklabamlifdaa
open Go Go.Proofs.Ytemklabamlifdaa Go.Proofs.Ytemklabamlifdaa.St

abbrev Strs (w : World) (a : Option Addr) (l c : Nat) (xs : List ByteArray) : Prop := Els Value.string 9 w a l c xs

theorem keys_seq (B : Nat) (w0 : World) (bx m : Nat) (t : TypeId) (D : List (ByteArray × Nat)) (hbx : w0.heap[bx]? = some (.cells #[.map (some m)] t (0, 0))) (hB : bx < B) (hm : MapAt w0 m (kvL Value.string (dirL D))) (hmB : m < B) (N : Nat) (hN : D.length ≤ N) :
    SeqOf Try.prog (.func (.func 73) #[] #[.pointer (some ⟨bx, 0, none⟩)]) B w0 N (fun v => ∃ k, v = .string k) (fun xs => xs.Perm (D.map fun p => .string p.1)) := by
  refine ⟨⟨_, _, _, rfl⟩, ?_⟩
  intro J y w R hk hst hJ hy hend
  refine (ca73 y (some ⟨bx, 0, none⟩) w R ?_ : Ca _ _ _ _ _)
  obtain ⟨es, clock, hes, hkv, hn, hc⟩ := hm
  have hes' := hk.old m _ hes (.inl hmB)
  refine ⟨some m, by rw [cl (hk.old bx _ hbx (.inl hB))]; rfl, es, clock, hes', ?_⟩
  intro w3 e3
  have m3 : Mod no w w3 := by subst e3; exact Mod.alloc _ _
  have b3 : w3.heap[w.heap.size]? = some (.mapIter (some m) clock #[] clock) := by subst e3; exact new_at _ _
  clear e3
  have hlen : D.length = es.toList.length := by
    have := congrArg List.length hkv
    simpa [kvL, dirL] using this.symm
  have hkeys : es.toList.map (·.key) = D.map fun p => .string p.1 := by
    have := congrArg (List.map Prod.fst) hkv
    simpa [kvL, dirL, Function.comp_def] using this
  have hkey : ∀ e ∈ es.toList, ∃ k, e.key = .string k := by
    intro e he
    have : e.key ∈ D.map fun p => Value.string p.1 := by rw [← hkeys]; exact List.mem_map_of_mem he
    obtain ⟨p, _, hp⟩ := List.mem_map.1 this
    exact ⟨p.1, hp.symm⟩
  refine ⟨fun w' => ∃ (seen : Array Nat) (c0 : Nat) (got : List MapEntry), w'.heap[w.heap.size]? = some (.mapIter (some m) clock seen c0) ∧ clock ≤ c0 ∧ (got ++ (leftOf es seen).toList).Perm es.toList ∧ J (got.map (·.key)) w' ∧ Kp B w0 w',
    fun w' => match w'.heap[w.heap.size]? with | some (.mapIter _ _ seen _) => (leftOf es seen).size | _ => 0, ⟨#[], clock, [], b3, Nat.le_refl _, by simp only [leftOf, Array.toList_filter, List.nil_append]; exact .of_eq (List.filter_eq_self.2 (by simp)), hst.1 _ _ _ hJ m3, hk.trans (Kp.of_no m3)⟩, ?_⟩
  rintro _ w7 ⟨seen, c0, got, hit, hcc, hperm, hJ7, hk7⟩
  have hm7 := hk7.old m _ hes (.inl hmB)
  rcases next_at (P := Try.prog) (ty := 0) hit hm7 hc hcc with ⟨h0, hrun⟩ | ⟨e, he, w8, hrun, m8, hit8⟩
  · refine ⟨_, w7, hrun, .inl ⟨rfl, hend w7 _ ?_ hJ7 hk7⟩⟩
    have : (leftOf es seen).toList = [] := List.eq_nil_of_length_eq_zero (by simpa using h0)
    rw [this, List.append_nil] at hperm
    rw [← hkeys]
    exact hperm.map _
  · refine ⟨_, w8, hrun, .inr ⟨_, _, rfl, ?_⟩⟩
    have hmem := (mem_left he).1
    have hk8 : Kp B w0 w8 := by
      refine ⟨m8.os.trans hk7.os, m8.tape.trans hk7.tape, m8.output.trans hk7.output, Nat.le_trans hk7.size m8.size, fun k o ho hko => m8.at (hk7.old k o ho hko) fun hS => ?_⟩
      cases hS
      have := lt_of_heap ho
      have := hk.size
      omega
    have hm8 := hk8.old m _ hes (.inl hmB)
    refine ⟨e.key, e.val, entry_at hit8 hm8 hmem hn, ?_⟩
    obtain ⟨k, hkk⟩ := hkey e hmem
    rw [hkk]
    have hJ8 := hst.2 _ _ _ _ _ hJ7 hit rfl m8
    have hll : got.length < D.length := by
      have h1 := hperm.length_eq
      have h2 : 0 < (leftOf es seen).toList.length := List.length_pos_of_mem he
      rw [List.length_append] at h1
      omega
    refine hy _ (.string k) w8 hk8 hJ8 (by simpa using (by omega : got.length < N)) ⟨k, rfl⟩ _ fun w15 hk15 hJ15 => ⟨true, rfl, ?_⟩
    have hit15 := hk15.old _ _ hit8 (.inr rfl)
    refine ⟨⟨seen.push e.born, clock, got ++ [e], hit15, Nat.le_refl _, ?_, by rw [List.map_append]; simpa [hkk] using hJ15, hk8.trans hk15⟩, ?_⟩
    · rw [List.append_assoc]
      exact ((List.Perm.append_left got (left_perm hn he)).symm).trans hperm
    · simp only [hit15, hit]
      exact left_shrinks es seen e he

/-- Sorted(Keys(m)): a new row of the directory's names, rising. -/
theorem sortedKeys_ok (m : Nat) (D : List (ByteArray × Nat)) (w : World) (hm : MapAt w m (kvL Value.string (dirL D))) (hs : D.length < 1099511627776) :
    Ca Try.prog 50 #[.map (some m)] w (fun sv w1 => Mod no w w1 ∧ ∀ R : Value → World → Prop,
      (∀ w' a l c ys, Strs w' a l c ys → ys.Perm (D.map (·.1)) → Srt ys 0 l → Mod no w1 w' → (∀ k, rowB a k → w1.heap.size ≤ k) → R (.slice a l c) w') → Ca Try.prog 49 #[sv] w1 R) := by
  refine ca50 (some m) w _ ?_
  intro w1 e1
  have m1 : Mod no w w1 := by subst e1; exact Mod.alloc _ _
  have b1 : w1.heap[w.heap.size]? = some (.cells #[.map (some m)] 63 (0, 0)) := by subst e1; exact new_at _ _
  have s1 : w1.heap.size = w.heap.size + 1 := by subst e1; simp
  clear e1
  have hm1 := hm.mod m1 id
  have hmlt := hm.lt
  refine ⟨m1, fun R h => ?_⟩
  refine ca49 _ w1 R ?_
  refine ca71 _ w1 _ ?_
  refine Seqstring.appendSeq_ok _ D.length _ w1 (by omega) (keys_seq w1.heap.size w1 w.heap.size m 63 D b1 (by omega) hm1 (by omega) D.length (Nat.le_refl _)) _ ?_
  intro w2 a l c xs hperm ho m2 hnew
  refine ⟨a, l, c, rfl, a, l, c, rfl, ?_⟩
  obtain ⟨ys, hys, hyp⟩ : ∃ ys : List ByteArray, xs = ys.map .string ∧ ys.Perm (D.map (·.1)) := by
    have : ∀ (xs : List Value) (ts : List ByteArray), xs.Perm (ts.map Value.string) → ∃ ys : List ByteArray, xs = ys.map .string ∧ ys.Perm ts := by
      intro xs ts hp
      have hall : ∀ v ∈ xs, ∃ k, v = .string k := fun v hv => by
        obtain ⟨k, _, e⟩ := List.mem_map.1 (hp.mem_iff.1 hv)
        exact ⟨k, e.symm⟩
      let g : Value → ByteArray := fun v => match v with | .string n => n | _ => ByteArray.mk #[]
      refine ⟨xs.map g, ?_, ?_⟩
      · rw [List.map_map]
        conv => lhs; rw [← List.map_id xs]
        apply List.map_congr_left
        intro v hv
        obtain ⟨k, rfl⟩ := hall v hv
        rfl
      · have := hp.map g
        rw [List.map_map] at this
        simpa [g, Function.comp_def] using this
    refine this xs (D.map (·.1)) ?_
    rw [List.map_map]
    exact hperm
  subst hys
  have hl : l = D.length := by
    have h1 := (row_len ho).2.1
    have h2 := hyp.length_eq
    rw [List.length_map] at h1 h2
    omega
  refine Sortstring.sort_ok 9 a l c ys w2 ho (by omega) _ fun w3 zs hz hzp hsrt m3 => ⟨rfl, ?_⟩
  refine h w3 a l c zs hz (hzp.trans hyp) hsrt ?_ fun k hk => by have := hnew k hk; omega
  exact m2.new m3 fun k hk => by have := hnew k hk; omega

/-- The names that rise are these ones. -/
theorem sorted_unique {ys : List ByteArray} {D : List (ByteArray × Nat)} (hp : ys.Perm (D.map (·.1))) (hs : Srt ys 0 ys.length) (hr : Rises D) : ys = D.map (·.1) := by
  have hle : ∀ {xs : List ByteArray}, Srt xs 0 xs.length → xs.Pairwise (· ≤ ·) := by
    intro xs h
    rw [List.pairwise_iff_getElem]
    intro i j hi hj hij
    have := h i j (Nat.zero_le _) hij hj
    simpa [at0, hi, hj] using this
  have h1 := hle hs
  have h2 : (D.map (·.1)).Pairwise (· ≤ ·) := List.Pairwise.imp (fun h => Lin.lle h) hr
  refine List.Perm.eq_of_pairwise (le := fun a b => a ≤ b) ?_ h1 h2 hp
  intro a b _ _ hab hba
  exact str_tri hba hab
end Go.Proofs.Ytemklabamlifdaa

/- Contracts of the store's calls. -/
namespace Go.Proofs.Ytemklabamlifdaa
open Go Go.Proofs.Ytemklabamlifdaa.St

theorem ifNe {x y : Int} {A B : Prop} (h1 : x ≠ y → A) (h2 : x = y → B) : ifK (x != y) A B := ifK_of (fun h => h1 (by simpa using h)) (fun h => h2 (by simpa using h))

section
variable {w : World} {s : Nat} {F : Nat → Prop} {a : AS}

theorem new_ok (room : Int) (w : World) (R : Value → World → Prop) (h1 : (room < 0 ∨ 1073741824 < room) → R (.pointer none) w)
    (h2 : 0 ≤ room → room ≤ 1073741824 → ∀ w' s, Stt w' s (fun k => w.heap.size ≤ k) (AS.new room) → Mod no w w' → R (.pointer (some ⟨s, 0, none⟩)) w') : Ca Try.prog 13 #[.int .i64 room] w R := by
  refine ca13 room w R ?_
  refine ifK_dec (fun h => h1 (.inl h)) (fun hl => ifK_dec (fun h => h1 (.inr h)) (fun hr => ?_))
  intro w0 e0
  have m0 : Mod no w w0 := by subst e0; exact Mod.alloc _ _
  have n0 : MapAt w0 w.heap.size [] := by subst e0; exact MapAt.new w
  clear e0
  intro w1 e1
  have m1 : Mod no w0 w1 := by subst e1; exact Mod.alloc _ _
  have n1 : MapAt w1 w0.heap.size [] := by subst e1; exact MapAt.new w0
  clear e1
  intro w2 e2
  have m2 : Mod no w1 w2 := by subst e2; exact Mod.alloc _ _
  have c2 : w2.heap[w1.heap.size]? = some (.cells #[.int .i64 room, .map (some w.heap.size), .map (some w0.heap.size), .bool false, .int .i64 0, .int .i64 0, .int .i64 0] 65 (0, 0)) := by subst e2; exact new_at _ _
  clear e2
  have l0 := n0.lt
  have l1 := n1.lt
  have z0 := m0.size
  have z1 := m1.size
  have hnl : ∀ i, ¬ (AS.new room).Live i := by
    rintro i (⟨n, hn⟩ | ⟨n, hn⟩) <;> simp [AS.new] at hn
  exact h2 (by omega) (by omega) w2 _ ⟨w.heap.size, w0.heap.size, [], [], fun i => i, ⟨c2, (n0.mod m1 id).mod m2 id, n1.mod m2 id⟩, .refl _, .refl _, fun i hi => absurd hi (hnl i), fun i j hi => absurd hi (hnl i), by omega, AS.Ok.new (by omega) (by omega), (by omega : w.heap.size ≤ w1.heap.size), Nat.le_refl _, z0, fun i hi => absurd hi (hnl i)⟩ ((m0.trans m1).trans m2)

theorem power2_ok (h : Stt w s F a) (R : Value → World → Prop) (hR : R (.int .i64 (if a.dark then 9 else 0)) w) : Ca Try.prog 43 #[.pointer (some ⟨s, 0, none⟩)] w R :=
  let ⟨_, _, _, _, _, h⟩ := h
  power_ok s _ w h.st R hR
theorem on2_ok (h : Stt w s F a) (R : Value → World → Prop) (hR : R (.bool (!a.dark)) w) : Ca Try.prog 26 #[.pointer (some ⟨s, 0, none⟩)] w R :=
  let ⟨_, _, _, _, _, h⟩ := h
  on_ok s _ w h.st R hR
theorem fail2_ok (h : Stt w s F a) (keep : Int) (R : Value → World → Prop) (hR : ∀ w', StP s F w (a.fail keep) w' → R (.tuple #[]) w') : Ca Try.prog 18 #[.pointer (some ⟨s, 0, none⟩), .int .i64 keep] w R :=
  let ⟨_, _, _, _, _, h⟩ := h
  fail_ok h keep R hR

theorem power3_ok (h : Stt w s F a) (R : Value → World → Prop) (hR : ∀ w', StP s F w a.power w' → R (.tuple #[]) w') : Ca Try.prog 19 #[.pointer (some ⟨s, 0, none⟩)] w R := by
  obtain ⟨nb, sb, N, S, φ, h⟩ := h
  have hc := h.st.cell
  refine ca19 _ w R ?_
  refine (ifK_of (fun _ => ?_) (fun h => by cases h) : ifK true _ _)
  obtain ⟨q1, q2, q3, q4⟩ := setFile hc 3 (by simp) (.bool false)
  refine ⟨some nb, by rw [cl1 hc]; rfl, (ifK_of (fun _ => ?_) (fun h => by cases h) : ifK true _ _)⟩
  refine ⟨q1, q2, fun w4 e4 => ?_⟩
  rw [← e4] at q3 q4
  clear e4
  obtain ⟨r1, r2, r3, r4⟩ := setFile q4 5 (by simp) (.int .i64 0)
  refine ⟨r1, r2, fun w7 e7 => hR w7 ?_⟩
  rw [← e7] at r3 r4
  have m := q3.trans r3
  exact ⟨F, ⟨_, _, _, _, _, h.scal m a.power rfl rfl rfl rfl r4⟩, fun _ hk => .inl hk, m.mono fun k _ hk => by cases hk; exact h.fs⟩
theorem count_ok (h : Stt w s F a) (R : Value → World → Prop) (hR : R (.int .i64 a.count) w) : Ca Try.prog 29 #[.pointer (some ⟨s, 0, none⟩)] w R := by
  obtain ⟨nb, sb, N, S, φ, h⟩ := h
  refine ca29 _ w R ?_
  refine (ifK_of (fun h => by cases h) (fun _ => ?_) : ifK false _ _)
  exact ⟨a.count, by rw [cl1 h.st.cell]; rfl, hR⟩
theorem plan_ok (h : Stt w s F a) (n keep : Int) (R : Value → World → Prop) (hR : ∀ w', StP s F w (a.plan n keep).1 w' → R (.int .i64 (a.plan n keep).2) w') : Ca Try.prog 24 #[.pointer (some ⟨s, 0, none⟩), .int .i64 n, .int .i64 keep] w R := by
  have h0 := h
  obtain ⟨nb, sb, N, S, φ, h⟩ := h
  refine ca24 _ n keep w R ?_
  refine power2_ok h0 _ ⟨_, rfl, ?_⟩
  cases hd : a.dark with
  | true =>
    have hp : a.plan n keep = (a, 9) := by rw [AS.plan, if_pos hd]
    rw [hp] at hR
    exact (ifK_of (fun _ => hR w (StP.refl h0)) (fun h => by cases h) : ifK true _ _)
  | false =>
    refine (ifK_of (fun h => by cases h) (fun _ => ?_) : ifK false _ _)
    refine ifK_dec (fun hn => ?_) (fun hn => ?_)
    · have hp : a.plan n keep = (a, 2) := by rw [AS.plan, if_neg (by rw [hd]; simp), if_pos hn]
      rw [hp] at hR
      exact hR w (StP.refl h0)
    · have hp : a.plan n keep = ({ a with left := n, keep := keep }, 0) := by rw [AS.plan, if_neg (by rw [hd]; simp), if_neg hn]
      rw [hp] at hR
      have hc := h.st.cell
      obtain ⟨q1, q2, q3, q4⟩ := setFile hc 5 (by simp) (.int .i64 n)
      refine ⟨q1, q2, fun w4 e4 => ?_⟩
      rw [← e4] at q3 q4
      clear e4
      obtain ⟨r1, r2, r3, r4⟩ := setFile q4 6 (by simp) (.int .i64 keep)
      refine ⟨r1, r2, fun w7 e7 => hR w7 ?_⟩
      rw [← e7] at r3 r4
      have m := q3.trans r3
      exact ⟨F, ⟨_, _, _, _, _, h.scal m { a with left := n, keep := keep } rfl rfl rfl rfl r4⟩, fun _ hk => .inl hk, m.mono fun k _ hk => by cases hk; exact h.fs⟩

theorem used_ok (h : Stt w s F a) (R : Value → World → Prop) (hR : ∀ w', Mod no w w' → R (.int .i64 a.used) w') : Ca Try.prog 28 #[.pointer (some ⟨s, 0, none⟩)] w R := by
  have h0 := h
  obtain ⟨nb, sb, N, S, φ, h⟩ := h
  refine ca28 _ w R ?_
  refine on2_ok h0 _ ⟨_, rfl, ?_⟩
  cases hd : a.dark with
  | true =>
    have hp : a.used = 0 := by rw [AS.used, if_pos hd]
    rw [hp] at hR
    exact (ifK_of (fun _ => hR w (Mod.refl _ _)) (fun h => by cases h) : ifK true _ _)
  | false =>
    have hp : a.used = a.need := by rw [AS.used, if_neg (by rw [hd]; simp)]
    rw [hp] at hR
    refine (ifK_of (fun h => by cases h) (fun _ => ?_) : ifK false _ _)
    intro w3 e3
    have m3 : Mod no w w3 := by subst e3; exact Mod.drew _
    clear e3
    have h3 := h.no m3
    refine ⟨a.room, by rw [cl1 h3.st.cell]; rfl, ?_⟩
    refine free2_ok h3 _ fun w7 m7 => ⟨_, rfl, by rw [cl2 (h3.no m7).st.cell]; rfl, ?_⟩
    have hle := AS.need_le h.ok
    have hN := h.ok.dirN
    have h01 := h.ok.room0
    have h02 := h.ok.room1
    rw [wrap64 (by omega) (by omega), show a.room - (a.room - (a.need : Int)) = a.need by omega]
    exact hR w7 (m3.trans m7)

theorem names_ok (h : Stt w s F a) (R : Value → World → Prop) (hR : ∀ w' p l c, Strs w' p l c a.names → Mod no w w' → (∀ k, rowB p k → w.heap.size ≤ k) → R (.slice p l c) w') : Ca Try.prog 23 #[.pointer (some ⟨s, 0, none⟩)] w R := by
  have h0 := h
  obtain ⟨nb, sb, N, S, φ, h⟩ := h
  refine ca23 _ w R ?_
  refine on2_ok h0 _ ⟨_, rfl, ?_⟩
  cases hd : a.dark with
  | true =>
    have hp : a.names = [] := by rw [AS.names, if_pos hd]
    rw [hp] at hR
    exact (ifK_of (fun _ => hR w none 0 0 (Els.nil _ _) (Mod.refl _ _) (fun k hk => by simp [rowB] at hk)) (fun h => by cases h) : ifK true _ _)
  | false =>
    have hp : a.names = a.dir.map (·.1) := by rw [AS.names, if_neg (by rw [hd]; simp)]
    rw [hp] at hR
    refine (ifK_of (fun h => by cases h) (fun _ => ?_) : ifK false _ _)
    refine ⟨some nb, by rw [cl1 h.st.cell]; rfl, ?_⟩
    have hlen := h.len
    have hN := h.ok.dirN
    refine (sortedKeys_ok nb N w h.st.now (by omega)).mono fun v w1 ⟨m1, hk⟩ => ⟨_, rfl, ?_⟩
    refine hk _ fun w2 p l c ys hy hperm hsrt m2 hnew => ⟨p, l, c, rfl, ?_⟩
    have hnm : (N.map (·.1)).Perm (a.dir.map (·.1)) := by
      have := h.now.map (·.1)
      rwa [List.map_map] at this
    have hl := hy.len.1
    have he : ys = a.dir.map (·.1) := sorted_unique (hperm.trans hnm) (by rw [hl]; exact hsrt) h.ok.dirS
    subst he
    exact hR w2 p l c hy (m1.trans m2) fun k hk => Nat.le_trans m1.size (hnew k hk)

theorem read_ok (h : Stt w s F a) (name : ByteArray) (hn : name.size < 4611686018427387904) (R : Value → World → Prop)
    (hR : ∀ w' p l c, Els u8v 5 w' p l c (a.read name).1 → Mod no w w' → (∀ k, rowB p k → w.heap.size ≤ k) → R (.tuple #[.slice p l c, .int .i64 (a.read name).2]) w') : Ca Try.prog 20 #[.pointer (some ⟨s, 0, none⟩), .string name] w R := by
  obtain ⟨nb, sb, N, S, φ, h⟩ := h
  refine ca20 _ name w R ?_
  refine known2_ok h name hn _ (fun f hd hg hf w1 m1 => ?_) (fun hk w1 m1 => ?_)
  · refine ⟨_, _, rfl, (ifK_of (fun h => by cases h) (fun _ => ?_) : ifK false _ _)⟩
    obtain ⟨hk, hi⟩ := AS.known_of hd hg hf
    have hr : a.read name = ((a.file f).1, 0) := by rw [AS.read, if_pos hk, hi]
    rw [hr] at hR
    have h1 := h.no m1
    obtain ⟨pa, ca, pb, cb, hfc, ha, _⟩ := h1.file f (.inl ⟨name, dget_some hf⟩)
    have hfl := h.ok.flen f
    refine ⟨pa, _, ca, by rw [cl1 hfc]; rfl, ?_⟩
    exact clone8_ok (Rd.of_els ha) (by omega) _ fun w2 p c r2 m2 n2 => ⟨p, _, c, rfl, hR w2 p _ c r2 (m1.trans m2) fun k hk => Nat.le_trans m1.size (n2 k hk)⟩
  · refine ⟨_, _, rfl, ifNe (fun _ => ?_) (fun h => absurd h hk)⟩
    have hr : a.read name = ([], a.known name) := by rw [AS.read, if_neg hk]
    rw [hr] at hR
    exact hR w1 none 0 0 (Els.nil _ _) m1 fun k hk => by simp [rowB] at hk

theorem make_ok (h : Stt w s F a) (name : ByteArray) (hn : name.size < 4611686018427387904) (R : Value → World → Prop) (hR : ∀ w', StP s F w (a.make name).1 w' → R (.int .i64 (a.make name).2) w') :
    Ca Try.prog 14 #[.pointer (some ⟨s, 0, none⟩), .string name] w R := by
  have h0 := h
  obtain ⟨nb, sb, N, S, φ, h⟩ := h
  refine ca14 _ name w R ?_
  intro w0 e0
  have m0 : Mod no w w0 := by subst e0; exact Mod.alloc _ _
  have c0 : w0.heap[w.heap.size]? = some (.cells #[.pointer (some ⟨s, 0, none⟩)] 25 (0, 0)) := by subst e0; exact new_at _ _
  clear e0
  intro w1 e1
  have m1 : Mod no w0 w1 := by subst e1; exact Mod.alloc _ _
  have c1 : w1.heap[w0.heap.size]? = some (.cells #[.string name] 9 (0, 0)) := by subst e1; exact new_at _ _
  clear e1
  have c01 := m1.at' c0
  have m01 := m0.trans m1
  refine ⟨_, by rw [cl c01]; rfl, name, by rw [cl c1]; rfl, ?_⟩
  refine known2_ok (h.no m01) name hn _ (fun f hd hg hf w2 m2 => ?_) (fun hk w2 m2 => ?_)
  · refine ⟨_, _, rfl, (ifK_of (fun _ => ?_) (fun h => by cases h) : ifK true _ _)⟩
    obtain ⟨hk, hi⟩ := AS.known_of hd hg hf
    have hr : a.make name = (a, 4) := by rw [AS.make, if_pos hk]
    rw [hr] at hR
    exact hR w2 (StP.of_no h0 (m01.trans m2))
  · refine ⟨_, _, rfl, ifK_eq (fun h => absurd h hk) (fun _ => ?_)⟩
    refine ifNe (fun hne => ?_) (fun he => ?_)
    · have hr : a.make name = (a, a.known name) := by rw [AS.make, if_neg hk, if_neg hne]
      rw [hr] at hR
      exact hR w2 (StP.of_no h0 (m01.trans m2))
    · refine ⟨_, by rw [cl (m2.at' c01)]; rfl, ?_⟩
      have hgood : a.dark = false ∧ goodB name = true := by
        unfold AS.known at he
        split at he
        · cases he
        · split at he
          · cases he
          · rename_i h1 h2
            exact ⟨by simpa using h1, by simpa using h2⟩
      refine free2_ok ((h.no m01).no m2) _ fun w3 m3 => ⟨_, rfl, ifK_dec (fun hr => ?_) (fun hr => ?_)⟩
      · have hr' : a.make name = (a, 6) := by rw [AS.make, if_neg hk, if_pos he, if_pos hr]
        rw [hr'] at hR
        exact hR w3 (StP.of_no h0 ((m01.trans m2).trans m3))
      · have hr' : a.make name = a.counted fun a => { a with all := a.all ++ [([], [])], dir := dset name a.all.length a.dir } := by rw [AS.make, if_neg hk, if_pos he, if_neg hr]
        rw [hr'] at hR
        refine ⟨_, by rw [cl (m3.at' (m2.at' c01))]; rfl, ?_⟩
        have h3 := ((h.no m01).no m2).no m3
        refine counted_ok h3 _ _ (make1_does h3 (m3.at' (m2.at' c01)) (m3.at' (m2.at' c1)) hgood.2 hr) _ fun w4 hp => ⟨_, rfl, hR w4 (hp.pre ((m01.trans m2).trans m3))⟩

/-- A pointer that is put into a box of its own. -/
theorem boxF (p : Option Addr) (w2 : World) (K : World → Prop) (hK : ∀ w7, w7.heap[w2.heap.size]? = some (.cells #[.pointer p] 68 (0, 0)) → Mod no w2 w7 → K w7) :
    atW (w2.alloc (.cells #[.pointer none] 68)) fun w5 => (∃ v6 : Value, w5.cell? (Addr.add ⟨w2.heap.size, 0, none⟩ 0) = some v6) ∧ w5.frozen? (Addr.add ⟨w2.heap.size, 0, none⟩ 0) = false ∧ atW (w5.setCell (Addr.add ⟨w2.heap.size, 0, none⟩ 0) (.pointer p)) fun w7 => K w7 := by
  intro w5 e5
  have m5 : Mod no w2 w5 := by subst e5; exact Mod.alloc _ _
  have b5 : w5.heap[w2.heap.size]? = some (.cells #[.pointer none] 68 (0, 0)) := by subst e5; exact new_at _ _
  clear e5
  refine ⟨⟨_, by rw [cl1 b5]; rfl⟩, fz1 b5 _, fun w7 e7 => ?_⟩
  have m7 : Mod (on w2.heap.size) w5 w7 := by subst e7; exact Mod.set1 _ _ _ _
  have b7 : w7.heap[w2.heap.size]? = some (.cells #[.pointer p] 68 (0, 0)) := by subst e7; rw [set1 b5]; rfl
  exact hK w7 b7 (m5.new m7 fun k hk => by cases hk; exact Nat.le_refl _)

theorem write_ok (h : Stt w s F a) (name : ByteArray) (hn : name.size < 4611686018427387904) {ba : Option Addr} {bl bc : Nat} {bs : Bs} (hb : Rd w ba bl bc bs) (hbF : 0 < bl → ∀ k, rowB ba k → ¬ F k) (R : Value → World → Prop)
    (hR : ∀ w', StP s F w (a.write name bs).1 w' → R (.int .i64 (a.write name bs).2) w') : Ca Try.prog 15 #[.pointer (some ⟨s, 0, none⟩), .string name, .slice ba bl bc] w R := by
  have h0 := h
  obtain ⟨nb, sb, N, S, φ, h⟩ := h
  have hbl := hb.len
  refine ca15 _ name ba bl bc w R ?_
  intro w0 e0
  have m0 : Mod no w w0 := by subst e0; exact Mod.alloc _ _
  have c0 : w0.heap[w.heap.size]? = some (.cells #[.slice ba bl bc] 24 (0, 0)) := by subst e0; exact new_at _ _
  clear e0
  refine known2_ok (h.no m0) name hn _ (fun f hd hg hf w2 m2 => ⟨_, _, rfl, boxF _ w2 _ fun w7 b7 m7 => ?_⟩) (fun hk w2 m2 => ⟨_, _, rfl, boxF _ w2 _ fun w7 b7 m7 => ?_⟩)
  · refine (ifK_of (fun h => by cases h) (fun _ => ?_) : ifK false _ _)
    obtain ⟨hk, hi⟩ := AS.known_of hd hg hf
    intro w8 e8
    have m8 : Mod no w0 w8 := by subst e8; exact (m2.trans m7).trans (Mod.drew _)
    have b8 : w8.heap[w2.heap.size]? = some (.cells #[.pointer (some ⟨φ f, 0, none⟩)] 68 (0, 0)) := by subst e8; exact b7
    clear e8
    refine ⟨ba, bl, bc, by rw [cl (m8.at' c0)]; rfl, ?_⟩
    have h8 := (h.no m0).no m8
    refine free2_ok h8 _ fun w9 m9 => ⟨_, rfl, by rw [cl1 (m9.at' (m8.at' c0))]; rfl, ifK_dec (fun hr => ?_) (fun hr => ?_)⟩
    · have hr' : a.write name bs = (a, 6) := by rw [AS.write, if_pos hk, if_pos (by omega)]
      rw [hr'] at hR
      exact hR w9 (StP.of_no h0 ((m0.trans m8).trans m9))
    · have hr' : a.write name bs = a.counted fun a => a.upd (a.idx name) fun x => (x.1 ++ bs, x.2) := by rw [AS.write, if_pos hk, if_neg (by omega)]
      rw [hr'] at hR
      have h9 := h8.no m9
      refine counted_ok h9 _ _ (write1_does h9 hf (m9.at' b8) (m9.at' (m8.at' c0)) (hb.no ((m0.trans m8).trans m9)) hbF (by omega)) _ fun w10 hp => ⟨_, rfl, hR w10 (hp.pre ((m0.trans m8).trans m9))⟩
  · refine ifNe (fun _ => ?_) (fun h => absurd h hk)
    have hr' : a.write name bs = (a, a.known name) := by rw [AS.write, if_neg hk]
    rw [hr'] at hR
    exact hR w7 (StP.of_no h0 ((m0.trans m2).trans m7))

theorem cut_ok (h : Stt w s F a) (name : ByteArray) (hn : name.size < 4611686018427387904) (n : Int) (R : Value → World → Prop)
    (hR : ∀ w', StP s F w (a.cut name n).1 w' → R (.int .i64 (a.cut name n).2) w') : Ca Try.prog 30 #[.pointer (some ⟨s, 0, none⟩), .string name, .int .i64 n] w R := by
  have h0 := h
  obtain ⟨nb, sb, N, S, φ, h⟩ := h
  refine ca30 _ name n w R ?_
  intro w0 e0
  have m0 : Mod no w w0 := by subst e0; exact Mod.alloc _ _
  have c0 : w0.heap[w.heap.size]? = some (.cells #[.int .i64 n] 3 (0, 0)) := by subst e0; exact new_at _ _
  clear e0
  refine known2_ok (h.no m0) name hn _ (fun f hd hg hf w2 m2 => ⟨_, _, rfl, boxF _ w2 _ fun w7 b7 m7 => ?_⟩) (fun hk w2 m2 => ⟨_, _, rfl, boxF _ w2 _ fun w7 b7 m7 => ?_⟩)
  · refine (ifK_of (fun h => by cases h) (fun _ => ?_) : ifK false _ _)
    obtain ⟨hk, hi⟩ := AS.known_of hd hg hf
    intro w8 e8
    have m8 : Mod no w0 w8 := by subst e8; exact (m2.trans m7).trans (Mod.drew _)
    have b8 : w8.heap[w2.heap.size]? = some (.cells #[.pointer (some ⟨φ f, 0, none⟩)] 68 (0, 0)) := by subst e8; exact b7
    clear e8
    have h8 := (h.no m0).no m8
    have m08 := m0.trans m8
    have bad : (n < 0 ∨ n > a.len f) → R (.int .i64 2) w8 := fun hb => by
      have hr' : a.cut name n = (a, 2) := by rw [AS.cut, if_pos hk, hi, if_pos hb]
      rw [hr'] at hR
      exact hR w8 (StP.of_no h0 m08)
    obtain ⟨pa, ca, pb, cb, hfc, _⟩ := h8.file f (.inl ⟨name, dget_some hf⟩)
    refine ⟨n, by rw [cl (m8.at' c0)]; rfl, ifK_dec (fun hr => bad (.inl hr)) (fun hr => ?_)⟩
    refine ⟨n, by rw [cl (m8.at' c0)]; rfl, some ⟨φ f, 0, none⟩, by rw [cl b8]; rfl, pa, _, ca, by rw [cl1 hfc]; rfl, ifK_dec (fun hr => bad (.inr hr)) (fun hr2 => ?_)⟩
    have hno : ¬ (n < 0 ∨ n > a.len f) := fun h => h.elim hr hr2
    have hr' : a.cut name n = a.counted fun a => a.upd (a.idx name) fun x => (x.1.take n.toNat, x.2) := by rw [AS.cut, if_pos hk, hi, if_neg hno]
    rw [hr'] at hR
    refine counted_ok h8 _ _ (cut1_does h8 hf b8 (m8.at' c0) hno) _ fun w10 hp => ⟨_, rfl, hR w10 (hp.pre m08)⟩
  · refine ifNe (fun _ => ?_) (fun h => absurd h hk)
    have hr' : a.cut name n = (a, a.known name) := by rw [AS.cut, if_neg hk]
    rw [hr'] at hR
    exact hR w7 (StP.of_no h0 ((m0.trans m2).trans m7))

theorem sync_ok (h : Stt w s F a) (name : ByteArray) (hn : name.size < 4611686018427387904) (R : Value → World → Prop)
    (hR : ∀ w', StP s F w (a.sync name).1 w' → R (.int .i64 (a.sync name).2) w') : Ca Try.prog 16 #[.pointer (some ⟨s, 0, none⟩), .string name] w R := by
  have h0 := h
  obtain ⟨nb, sb, N, S, φ, h⟩ := h
  refine ca16 _ name w R ?_
  refine known2_ok h name hn _ (fun f hd hg hf w2 m2 => ⟨_, _, rfl, boxF _ w2 _ fun w7 b7 m7 => ?_⟩) (fun hk w2 m2 => ⟨_, _, rfl, boxF _ w2 _ fun w7 b7 m7 => ?_⟩)
  · refine (ifK_of (fun h => by cases h) (fun _ => ?_) : ifK false _ _)
    obtain ⟨hk, hi⟩ := AS.known_of hd hg hf
    have h7 := h.no (m2.trans m7)
    have hr' : a.sync name = a.counted fun a => a.upd (a.idx name) fun x => (x.1, x.1) := by rw [AS.sync, if_pos hk]
    rw [hr'] at hR
    refine counted_ok h7 _ _ (sync1_does h7 hf b7) _ fun w10 hp => ⟨_, rfl, hR w10 (hp.pre (m2.trans m7))⟩
  · refine ifNe (fun _ => ?_) (fun h => absurd h hk)
    have hr' : a.sync name = (a, a.known name) := by rw [AS.sync, if_neg hk]
    rw [hr'] at hR
    exact hR w7 (StP.of_no h0 (m2.trans m7))

theorem drop_ok (h : Stt w s F a) (name : ByteArray) (hn : name.size < 4611686018427387904) (R : Value → World → Prop)
    (hR : ∀ w', StP s F w (a.drop name).1 w' → R (.int .i64 (a.drop name).2) w') : Ca Try.prog 31 #[.pointer (some ⟨s, 0, none⟩), .string name] w R := by
  have h0 := h
  obtain ⟨nb, sb, N, S, φ, h⟩ := h
  refine ca31 _ name w R ?_
  intro w0 e0
  have m0 : Mod no w w0 := by subst e0; exact Mod.alloc _ _
  have c0 : w0.heap[w.heap.size]? = some (.cells #[.pointer (some ⟨s, 0, none⟩)] 25 (0, 0)) := by subst e0; exact new_at _ _
  clear e0
  intro w1 e1
  have m1 : Mod no w0 w1 := by subst e1; exact Mod.alloc _ _
  have c1 : w1.heap[w0.heap.size]? = some (.cells #[.string name] 9 (0, 0)) := by subst e1; exact new_at _ _
  clear e1
  have c01 := m1.at' c0
  have m01 := m0.trans m1
  refine ⟨_, by rw [cl c01]; rfl, name, by rw [cl c1]; rfl, ?_⟩
  refine known2_ok (h.no m01) name hn _ (fun f hd hg hf w2 m2 => ⟨_, _, rfl, ?_⟩) (fun hk w2 m2 => ⟨_, _, rfl, ?_⟩)
  · refine (ifK_of (fun h => by cases h) (fun _ => ?_) : ifK false _ _)
    obtain ⟨hk, hi⟩ := AS.known_of hd hg hf
    have h2 := (h.no m01).no m2
    have hr' : a.drop name = a.counted fun a => { a with dir := ddel name a.dir } := by rw [AS.drop, if_pos hk]
    rw [hr'] at hR
    refine ⟨_, by rw [cl (m2.at' c01)]; rfl, ?_⟩
    refine counted_ok h2 _ _ (drop1_does h2 (m2.at' c01) (m2.at' c1)) _ fun w10 hp => ⟨_, rfl, hR w10 (hp.pre (m01.trans m2))⟩
  · refine ifNe (fun _ => ?_) (fun h => absurd h hk)
    have hr' : a.drop name = (a, a.known name) := by rw [AS.drop, if_neg hk]
    rw [hr'] at hR
    exact hR w2 (StP.of_no h0 (m01.trans m2))

theorem commit_ok (h : Stt w s F a) (R : Value → World → Prop) (hR : ∀ w', StP s F w a.commit.1 w' → R (.int .i64 a.commit.2) w') : Ca Try.prog 17 #[.pointer (some ⟨s, 0, none⟩)] w R := by
  have h0 := h
  obtain ⟨nb, sb, N, S, φ, h⟩ := h
  refine ca17 _ w R ?_
  intro w0 e0
  have m0 : Mod no w w0 := by subst e0; exact Mod.alloc _ _
  have c0 : w0.heap[w.heap.size]? = some (.cells #[.pointer (some ⟨s, 0, none⟩)] 25 (0, 0)) := by subst e0; exact new_at _ _
  clear e0
  refine ⟨_, by rw [cl c0]; rfl, power2_ok (h0.no m0) _ ⟨_, rfl, ?_⟩⟩
  cases hd : a.dark with
  | true =>
    have hp : a.commit = (a, 9) := by rw [AS.commit, if_pos hd]
    rw [hp] at hR
    exact (ifK_of (fun _ => hR w0 (StP.of_no h0 m0)) (fun h => by cases h) : ifK true _ _)
  | false =>
    refine (ifK_of (fun h => by cases h) (fun _ => ?_) : ifK false _ _)
    have hp : a.commit = a.counted fun a => { a with sure := a.dir } := by rw [AS.commit, if_neg (by rw [hd]; simp)]
    rw [hp] at hR
    refine ⟨_, by rw [cl c0]; rfl, ?_⟩
    have h1 := h.no m0
    refine counted_ok h1 _ _ (commit1_does h1 c0) _ fun w10 hp => ⟨_, rfl, hR w10 (hp.pre m0)⟩

theorem move_ok (h : Stt w s F a) (name to : ByteArray) (hn : name.size < 4611686018427387904) (ht : to.size < 4611686018427387904) (R : Value → World → Prop)
    (hR : ∀ w', StP s F w (a.move name to).1 w' → R (.int .i64 (a.move name to).2) w') : Ca Try.prog 25 #[.pointer (some ⟨s, 0, none⟩), .string name, .string to] w R := by
  have h0 := h
  obtain ⟨nb, sb, N, S, φ, h⟩ := h
  refine ca25 _ name to w R ?_
  intro w0 e0
  have m0 : Mod no w w0 := by subst e0; exact Mod.alloc _ _
  have c0 : w0.heap[w.heap.size]? = some (.cells #[.pointer (some ⟨s, 0, none⟩)] 25 (0, 0)) := by subst e0; exact new_at _ _
  clear e0
  intro w1 e1
  have m1 : Mod no w0 w1 := by subst e1; exact Mod.alloc _ _
  have c1 : w1.heap[w0.heap.size]? = some (.cells #[.string name] 9 (0, 0)) := by subst e1; exact new_at _ _
  clear e1
  intro w2 e2
  have m2 : Mod no w1 w2 := by subst e2; exact Mod.alloc _ _
  have c2 : w2.heap[w1.heap.size]? = some (.cells #[.string to] 9 (0, 0)) := by subst e2; exact new_at _ _
  clear e2
  have c02 := m2.at' (m1.at' c0)
  have c12 := m2.at' c1
  have m02 := (m0.trans m1).trans m2
  refine ⟨_, by rw [cl c02]; rfl, name, by rw [cl c12]; rfl, ?_⟩
  refine known2_ok (h.no m02) name hn _ (fun f hd hg hf w3 m3 => ⟨_, _, rfl, boxF _ w3 _ fun w7 b7 m7 => ?_⟩) (fun hk w3 m3 => ⟨_, _, rfl, boxF _ w3 _ fun w7 b7 m7 => ?_⟩)
  · refine (ifK_of (fun _ => ?_) (fun h => by cases h) : ifK true _ _)
    refine (ifK_of (fun _ => ?_) (fun h => by cases h) : ifK true _ _)
    have m37 := m3.trans m7
    refine ⟨to, by rw [cl (m37.at' c2)]; rfl, good_ok to w7 ht _ fun w8 m8 => ⟨_, rfl, ifK_not (fun hgt => ?_) (fun hgt => ?_)⟩⟩
    · have hr' : a.move name to = (a, 2) := by rw [AS.move, if_neg (by rw [hd]; simp), if_pos (.inr hgt)]
      rw [hr'] at hR
      exact hR w8 (StP.of_no h0 ((m02.trans m37).trans m8))
    · refine (ifK_of (fun h => by cases h) (fun _ => ?_) : ifK false _ _)
      have hr' : a.move name to = a.counted fun a => { a with dir := dset to (a.idx name) (ddel name a.dir) } := by
        rw [AS.move, if_neg (by rw [hd]; simp), if_neg (by rw [hg, hgt]; simp), if_neg (by rw [hf]; simp)]
      rw [hr'] at hR
      have m38 := m37.trans m8
      refine ⟨_, by rw [cl (m38.at' c02)]; rfl, ?_⟩
      have h8 := (h.no m02).no m38
      refine counted_ok h8 _ _ (move1_does h8 hf hgt (m38.at' c02) (m38.at' c12) (m8.at' b7) (m38.at' c2)) _ fun w10 hp => ⟨_, rfl, hR w10 (hp.pre (m02.trans m38))⟩
  · have m37 := m3.trans m7
    rcases AS.known_cases a name with h9 | h2 | h3 | hz
    · rw [h9]
      refine (ifK_of (fun _ => ?_) (fun h => by cases h) : ifK true _ _)
      refine (ifK_of (fun h => by cases h) (fun _ => ?_) : ifK false _ _)
      refine (ifK_of (fun _ => ?_) (fun h => by cases h) : ifK true _ _)
      have hd : a.dark = true := by
        unfold AS.known at h9
        split at h9
        · assumption
        · split at h9
          · cases h9
          · split at h9 <;> cases h9
      have hr' : a.move name to = (a, 9) := by rw [AS.move, if_pos hd]
      rw [hr'] at hR
      exact hR w7 (StP.of_no h0 (m02.trans m37))
    · have hd : ¬ a.dark = true ∧ goodB name = false := by
        unfold AS.known at h2
        split at h2
        · cases h2
        · split at h2
          · exact ⟨by assumption, by assumption⟩
          · split at h2 <;> cases h2
      have hr' : a.move name to = (a, 2) := by rw [AS.move, if_neg hd.1, if_pos (.inl hd.2)]
      rw [hr'] at hR
      rw [h2]
      refine (ifK_of (fun _ => ?_) (fun h => by cases h) : ifK true _ _)
      refine (ifK_of (fun _ => ?_) (fun h => by cases h) : ifK true _ _)
      refine ⟨to, by rw [cl (m37.at' c2)]; rfl, good_ok to w7 ht _ fun w8 m8 => ⟨_, rfl, ifK_not (fun _ => ?_) (fun _ => ?_)⟩⟩
      · exact hR w8 (StP.of_no h0 ((m02.trans m37).trans m8))
      · refine (ifK_of (fun _ => ?_) (fun h => by cases h) : ifK true _ _)
        exact hR w8 (StP.of_no h0 ((m02.trans m37).trans m8))
    · have hd : ¬ a.dark = true ∧ goodB name = true ∧ dget a.dir name = none := by
        unfold AS.known at h3
        split at h3
        · cases h3
        · split at h3
          · cases h3
          · split at h3
            · rename_i h1 h2 h4
              exact ⟨h1, by simpa using h2, h4⟩
            · cases h3
      rw [h3]
      refine (ifK_of (fun _ => ?_) (fun h => by cases h) : ifK true _ _)
      refine (ifK_of (fun _ => ?_) (fun h => by cases h) : ifK true _ _)
      refine ⟨to, by rw [cl (m37.at' c2)]; rfl, good_ok to w7 ht _ fun w8 m8 => ⟨_, rfl, ifK_not (fun hgt => ?_) (fun hgt => ?_)⟩⟩
      · have hr' : a.move name to = (a, 2) := by rw [AS.move, if_neg hd.1, if_pos (.inr hgt)]
        rw [hr'] at hR
        exact hR w8 (StP.of_no h0 ((m02.trans m37).trans m8))
      · have hr' : a.move name to = (a, 3) := by rw [AS.move, if_neg hd.1, if_neg (by rw [hd.2.1, hgt]; simp), if_pos hd.2.2]
        rw [hr'] at hR
        refine (ifK_of (fun _ => ?_) (fun h => by cases h) : ifK true _ _)
        exact hR w8 (StP.of_no h0 ((m02.trans m37).trans m8))
    · exact absurd hz hk
end
end Go.Proofs.Ytemklabamlifdaa
