/- Parts of the proof of RouteGrowsCard. -/
import Derived.Test.YtehhhkcemmfjpaaGreatDoorCore9
import Derived.Test.YtehhhkcemmfjpaaGreatDoorProg
import Derived.Test.YtehhhkcemmfjpaaGreatDoorLib
import Derived.Deep.Slices
import Derived.Deep.Fields
import Derived.ChangeSame
import Derived.Below
import Derived.SizedLaws
import Derived.Laws.Externs
import Derived.MapKept
import Derived.WalkKit
import Derived.Test.YtehhhkcemmfjpaaGreatDoorT3
/- The library's general sort, at one type: what its parts do. -/
namespace Go.Proofs.YtehhhkcemmfjpaaGreatDoor.Sortstring
open Go Go.Proofs.YtehhhkcemmfjpaaGreatDoor Go.Proofs.YtehhhkcemmfjpaaGreatDoor.St

theorem piv_eqs (a b l : Nat) (hab : a ≤ b) (hb : b ≤ l) (hl : l < 4611686018427387904) :
    IntKind.i64.wrap ((b : Int) - a) = ((b - a : Nat) : Int) ∧ Int.tdiv ((b - a : Nat) : Int) 4 = (((b - a) / 4 : Nat) : Int) ∧
    IntKind.i64.wrap ((a : Int) + IntKind.i64.wrap (IntKind.i64.wrap (((b - a) / 4 : Nat) : Int) * 1)) = ((a + (b - a) / 4 : Nat) : Int) ∧
    IntKind.i64.wrap ((a : Int) + IntKind.i64.wrap (IntKind.i64.wrap (((b - a) / 4 : Nat) : Int) * 2)) = ((a + (b - a) / 4 * 2 : Nat) : Int) ∧
    IntKind.i64.wrap ((a : Int) + IntKind.i64.wrap (IntKind.i64.wrap (((b - a) / 4 : Nat) : Int) * 3)) = ((a + (b - a) / 4 * 3 : Nat) : Int) :=
  ⟨(by first | (simp only [IntKind.wrap_i64]; omega) | omega), by rw [show (4 : Int) = ((4 : Nat) : Int) from rfl, ← Int.ofNat_tdiv], (by first | (simp only [IntKind.wrap_i64]; omega) | omega), (by first | (simp only [IntKind.wrap_i64]; omega) | omega), (by first | (simp only [IntKind.wrap_i64]; omega) | omega)⟩

section
variable (e : TypeId) (d : Option Addr) (l c : Nat) (xs : List ByteArray) (w : World) (hd : Els Value.string e w d l c xs) (hl : l < 4611686018427387904)
include hd hl

/-! ### The pivot -/
omit hl in
theorem order2_ok (s : Nat) (t : TypeId) (n : Int) (hs : w.heap[s]? = some (.cells #[.int .i64 n] t (0, 0))) (x y : Nat) (hx : x < l) (hy : y < l) (R : Value → World → Prop)
    (h : ∀ w' (n' : Int) (x' y' : Nat), (x' = x ∧ y' = y ∨ x' = y ∧ y' = x) → w'.heap[s]? = some (.cells #[.int .i64 n'] t (0, 0)) → Mod (on s) w w' → R (.tuple #[.int .i64 x', .int .i64 y']) w') :
    Ca Tryz.prog 153 #[.slice d l c, .int .i64 x, .int .i64 y, .pointer (some ⟨s, 0, none⟩)] w R := by
  refine ca153 d l c x y (some ⟨s, 0, none⟩) w R ?_
  intro w0 e0
  have m0 : Mod no w w0 := by subst e0; exact Mod.drew _
  clear e0
  have hs0 := m0.at' hs
  refine lss (hd.no m0) y x rfl rfl hy hx (fun _ => ?_) (fun _ => ?_)
  · refine ⟨n, by rw [cl hs0]; rfl, ⟨_, by rw [cl1 hs0]; rfl⟩, fz1 hs0 _, ?_⟩
    intro w1 e1
    have hs1 : w1.heap[s]? = some (.cells #[.int .i64 (IntKind.i64.wrap (n + 1))] t (0, 0)) := by subst e1; exact set1 hs0 _ _
    have m1 : Mod (on s) w0 w1 := by subst e1; exact Mod.set1 _ _ _ _
    exact h w1 _ y x (.inr ⟨rfl, rfl⟩) hs1 (m0.no_trans m1)
  · exact h w0 n x y (.inl ⟨rfl, rfl⟩) hs0 m0.of_no

omit hl in
theorem median_ok (s : Nat) (t : TypeId) (n : Int) (hs : w.heap[s]? = some (.cells #[.int .i64 n] t (0, 0))) (hne : ¬ rowB d s) (x y z : Nat) (hx : x < l) (hy : y < l) (hz : z < l) (R : Value → World → Prop)
    (h : ∀ w' (n' : Int) (m : Nat), (m = x ∨ m = y ∨ m = z) → w'.heap[s]? = some (.cells #[.int .i64 n'] t (0, 0)) → Mod (on s) w w' → R (.int .i64 m) w') :
    Ca Tryz.prog 149 #[.slice d l c, .int .i64 x, .int .i64 y, .int .i64 z, .pointer (some ⟨s, 0, none⟩)] w R := by
  refine ca149 d l c x y z (some ⟨s, 0, none⟩) w R ?_
  have keep : ∀ {w'}, Mod (on s) w w' → Els Value.string e w' d l c xs := fun hm => hd.mod hm fun k hk he => hne (by cases he; exact hk)
  refine order2_ok e d l c xs w hd s t n hs x y hx hy _ fun w1 n1 x1 y1 h1 hs1 m1 => ⟨_, _, rfl, ?_⟩
  refine order2_ok e d l c xs w1 (keep m1) s t n1 hs1 y1 z (by omega) hz _ fun w2 n2 y2 z2 h2 hs2 m2 => ⟨_, _, rfl, ?_⟩
  refine order2_ok e d l c xs w2 (keep (m1.trans m2)) s t n2 hs2 x1 y2 (by omega) (by omega) _ fun w3 n3 x3 y3 h3 hs3 m3 => ⟨_, _, rfl, ?_⟩
  exact h w3 n3 y3 (by omega) hs3 ((m1.trans m2).trans m3)

theorem medianAdj_ok (s : Nat) (t : TypeId) (n : Int) (hs : w.heap[s]? = some (.cells #[.int .i64 n] t (0, 0))) (hne : ¬ rowB d s) (x : Nat) (hx : 0 < x) (hx1 : x + 1 < l) (R : Value → World → Prop)
    (h : ∀ w' (n' : Int) (m : Nat), (x ≤ m + 1 ∧ m ≤ x + 1) → w'.heap[s]? = some (.cells #[.int .i64 n'] t (0, 0)) → Mod (on s) w w' → R (.int .i64 m) w') :
    Ca Tryz.prog 148 #[.slice d l c, .int .i64 x, .pointer (some ⟨s, 0, none⟩)] w R := by
  refine ca148 d l c x (some ⟨s, 0, none⟩) w R ?_
  have e1 : IntKind.i64.wrap ((x : Int) - 1) = ((x - 1 : Nat) : Int) := (by first | (simp only [IntKind.wrap_i64]; omega) | omega)
  have e2 : IntKind.i64.wrap ((x : Int) + 1) = ((x + 1 : Nat) : Int) := (by first | (simp only [IntKind.wrap_i64]; omega) | omega)
  rw [W148, e1, e2]
  exact median_ok e d l c xs w hd s t n hs hne (x - 1) x (x + 1) (by omega) (by omega) hx1 _ fun w1 n1 m h1 hs1 m1 => ⟨_, rfl, h w1 n1 m (by rcases h1 with rfl | rfl | rfl <;> omega) hs1 m1⟩

theorem choosePivot_ok (a b : Nat) (hab : a + 8 ≤ b) (hb : b ≤ l) (R : Value → World → Prop)
    (h : ∀ w' (p : Nat) (hint : Int), a ≤ p → p < b → Mod no w w' → R (.tuple #[.int .i64 p, .int .i64 hint]) w') :
    Ca Tryz.prog 131 #[.slice d l c, .int .i64 a, .int .i64 b] w R := by
  refine ca131 d l c a b w R ?_
  obtain ⟨elen, e4, ei, ej, ek⟩ := piv_eqs a b l (by omega) hb hl
  rw [W131]
  simp only [elen, e4, ei, ej, ek]
  clear elen e4 ei ej ek
  intro w0 e0
  have m0 : Mod no w w0 := by subst e0; exact Mod.alloc _ _
  have hs0 : w0.heap[w.heap.size]? = some (.cells #[.int .i64 0] 3 (0, 0)) := by subst e0; exact new_at _ _
  clear e0
  have hne : ¬ rowB d w.heap.size := by
    intro hk
    obtain ⟨g, rfl, hc⟩ := hd.get (i := 0) (by have := hd.len; omega)
    have : g = w.heap.size := by simpa [rowB] using hk
    subst this
    have := hd.at (i := 0) (by have := hd.len; omega)
    obtain ⟨g', hg', hc'⟩ := this
    injection hg' with hg'; injection hg' with hg'; subst hg'
    rw [World.cell?, Array.getElem?_eq_none (by simp [Addr.add])] at hc'
    cases hc'
  have hd0 := hd.no m0
  have keep : ∀ {w'}, Mod (on w.heap.size) w0 w' → Els Value.string e w' d l c xs := fun hm => hd0.mod hm fun k hk he => hne (by cases he; exact hk)
  refine ⟨by decide, by decide, by decide, fun x w' => ∃ (m : Nat) (n : Int), x = m ∧ a ≤ m ∧ m < b ∧ w'.heap[w.heap.size]? = some (.cells #[.int .i64 n] 3 (0, 0)) ∧ Mod (on w.heap.size) w0 w', ?_, ?_⟩
  · refine ifK_dec (fun _ => ifK_dec (fun h50 => ?_) (fun _ => ?_)) (fun hn => ?_)
    · refine medianAdj_ok e d l c xs w0 hd0 hl _ 3 0 hs0 hne _ (by omega) (by omega) _ fun w1 n1 x1 h1 hs1 m1 => ⟨_, rfl, ?_⟩
      refine medianAdj_ok e d l c xs w1 (keep m1) hl _ 3 n1 hs1 hne _ (by omega) (by omega) _ fun w2 n2 x2 h2 hs2 m2 => ⟨_, rfl, ?_⟩
      refine medianAdj_ok e d l c xs w2 (keep (m1.trans m2)) hl _ 3 n2 hs2 hne _ (by omega) (by omega) _ fun w3 n3 x3 h3 hs3 m3 => ⟨_, rfl, ?_⟩
      refine median_ok e d l c xs w3 (keep ((m1.trans m2).trans m3)) _ 3 n3 hs3 hne _ _ _ (by omega) (by omega) (by omega) _ fun w4 n4 x4 h4 hs4 m4 => ⟨_, rfl, ?_⟩
      have hx : a ≤ x4 ∧ x4 < b := by
        clear hs1 hs2 hs3 hs4 m1 m2 m3 m4 h
        rcases h4 with rfl | rfl | rfl <;> omega
      exact ⟨x4, n4, rfl, hx.1, hx.2, hs4, ((m1.trans m2).trans m3).trans m4⟩
    · refine median_ok e d l c xs w0 hd0 _ 3 0 hs0 hne _ _ _ (by omega) (by omega) (by omega) _ fun w4 n4 x4 h4 hs4 m4 => ⟨_, rfl, ?_⟩
      have hx : a ≤ x4 ∧ x4 < b := by rcases h4 with rfl | rfl | rfl <;> omega
      exact ⟨x4, n4, rfl, hx.1, hx.2, hs4, m4⟩
    · exact absurd hn (by omega)
  · rintro _ _ w1 ⟨m, n, rfl, h1, h2, hs1, m1⟩
    have m01 : Mod no w w1 := m0.new m1 fun k hk => by cases hk; exact Nat.le_refl _
    refine ⟨n, by rw [cl hs1]; rfl, ifK_of (fun _ => ?_) (fun _ => ifK_of (fun _ => ?_) (fun _ => ?_))⟩
    all_goals exact h w1 m _ h1 h2 m01

/-! ### Reversing, scattering -/
theorem reverse_ok (a b : Nat) (hab : a < b) (hb : b ≤ l) (R : Value → World → Prop)
    (h : ∀ w' ys, Els Value.string e w' d l c ys → Seg a b xs ys → Mod (rowB d) w w' → R (.tuple #[]) w') :
    Ca Tryz.prog 132 #[.slice d l c, .int .i64 a, .int .i64 b] w R := by
  refine ca132 d l c a b w R ?_
  refine ⟨fun x y w' => ∃ (i j : Nat) (ys : List ByteArray), x = i ∧ y = j ∧ a ≤ i ∧ i ≤ b ∧ j < b ∧ Els Value.string e w' d l c ys ∧ Seg a b xs ys ∧ Mod (rowB d) w w', fun x y _ => (y - x).toNat,
    ⟨a, b - 1, xs, rfl, (by first | (simp only [IntKind.wrap_i64]; omega) | omega), Nat.le_refl _, by omega, by omega, hd, Seg.refl _ _ _, Mod.refl _ _⟩, ?_⟩
  rintro _ _ _ w1 ⟨i, j, ys, rfl, rfl, hi, hib, hj, hys, hsg, hm⟩
  have hyl := hys.len.1
  refine ifK_dec (fun hij => ?_) (fun _ => h w1 ys hys hsg hm)
  intro w2 e2
  have m2 : Mod no w1 w2 := by subst e2; exact Mod.drew _
  clear e2
  refine (hys.no m2).swp i j rfl rfl (by omega) (by omega) fun w3 h3 m3 => ?_
  exact ⟨⟨i + 1, j - 1, _, (by first | (simp only [IntKind.wrap_i64]; omega) | omega), (by first | (simp only [IntKind.wrap_i64]; omega) | omega), by omega, by omega, by omega, h3, hsg.trans (Seg.swap (by omega) (by omega) (by omega) (by omega) (by omega) (by omega)), (hm.trans_no m2).trans m3⟩, (by first | (simp only [IntKind.wrap_i64]; omega) | omega)⟩

/-! ### Parting -/
omit hd in
/-- As long as the left one is less. -/
theorem part_up (a b : Nat) (hb : b ≤ l) : ∀ (ys : List ByteArray) (w' : World) (i j : Nat) (J : Int) (Q : Int → World → Prop), J = j → Els Value.string e w' d l c ys → Pt ys a b i j →
    (∀ (i' : Nat) w'', Els Value.string e w'' d l c ys → Pt ys a b i' j → (i' ≤ j → at0 ys a ≤ at0 ys i') → i ≤ i' → Mod no w' w'' → Q i' w'') →
    (∃ (z : Int → World → Prop) (m : Int → World → Nat), z i w' ∧ ∀ (_ : Nat → Value) (x : Int) (w1 : World), z x w1 → atW w1.drew fun w2 => ifK (decide (x ≤ J))
      (∃ ad : Addr, d = some ad ∧ (0 : Int) ≤ x ∧ x < (↑l : Int) ∧ ∃ y : ByteArray, w2.cell? (Addr.add ad (Int.toNat x * 1)) = some (Value.string y) ∧
        ∃ ad : Addr, d = some ad ∧ (0 : Int) ≤ (a : Int) ∧ (a : Int) < (↑l : Int) ∧ ∃ y' : ByteArray, w2.cell? (Addr.add ad (Int.toNat (a : Int) * 1)) = some (Value.string y') ∧
        Ca Tryz.prog 134 (Array.mk [Value.string y, Value.string y']) w2 (fun v w' => ∃ b : Bool, v = Value.bool b ∧ ifK b (z (IntKind.wrap .i64 (x + 1)) w' ∧ m (IntKind.wrap .i64 (x + 1)) w' < m x w1) (Q x w')))
      (Q x w2)) := by
  intro ys w' i j J Q hJ hys hpt hQ
  refine ⟨fun x w'' => ∃ i' : Nat, x = i' ∧ Els Value.string e w'' d l c ys ∧ Pt ys a b i' j ∧ i ≤ i' ∧ Mod no w' w'', fun x _ => ((j : Int) + 1 - x).toNat, ⟨i, rfl, hys, hpt, Nat.le_refl _, Mod.refl _ _⟩, ?_⟩
  rintro _ _ w1 ⟨i', rfl, hy1, hp1, hi1, m1⟩ w2 e2
  have m2 : Mod no w1 w2 := by subst e2; exact Mod.drew _
  clear e2
  have hjb := hp1.jb
  have hai := hp1.ai
  refine ifK_dec (fun hle => ?_) (fun hgt => hQ i' w2 (hy1.no m2) hp1 (fun h => by omega) hi1 (m1.trans m2))
  refine lss (hy1.no m2) i' a rfl rfl (by omega) (by omega) (fun hlt => ?_) (fun hge => hQ i' w2 (hy1.no m2) hp1 (fun _ => Lin.nlt hge) hi1 (m1.trans m2))
  exact ⟨⟨i' + 1, (by first | (simp only [IntKind.wrap_i64]; omega) | omega), hy1.no m2, hp1.up (by omega) (Lin.lle hlt), by omega, m1.trans m2⟩, (by first | (simp only [IntKind.wrap_i64]; omega) | omega)⟩
omit hd in
/-- As long as the right one is not less. -/
theorem part_down (a b : Nat) (hb : b ≤ l) : ∀ (ys : List ByteArray) (w' : World) (i j : Nat) (I : Int) (Q : Int → World → Prop), I = i → Els Value.string e w' d l c ys → Pt ys a b i j → (i ≤ j → at0 ys a ≤ at0 ys i) →
    (∀ (j' : Nat) w'', Els Value.string e w'' d l c ys → Pt ys a b i j' → (i ≤ j' → at0 ys a ≤ at0 ys i ∧ at0 ys j' < at0 ys a) → j' ≤ j → Mod no w' w'' → Q j' w'') →
    (∃ (z : Int → World → Prop) (m : Int → World → Nat), z j w' ∧ ∀ (_ : Nat → Value) (x : Int) (w1 : World), z x w1 → atW w1.drew fun w2 => ifK (decide (I ≤ x))
      (∃ ad : Addr, d = some ad ∧ (0 : Int) ≤ x ∧ x < (↑l : Int) ∧ ∃ y : ByteArray, w2.cell? (Addr.add ad (Int.toNat x * 1)) = some (Value.string y) ∧
        ∃ ad : Addr, d = some ad ∧ (0 : Int) ≤ (a : Int) ∧ (a : Int) < (↑l : Int) ∧ ∃ y' : ByteArray, w2.cell? (Addr.add ad (Int.toNat (a : Int) * 1)) = some (Value.string y') ∧
        Ca Tryz.prog 134 (Array.mk [Value.string y, Value.string y']) w2 (fun v w' => ∃ b : Bool, v = Value.bool b ∧ ifK (!b) (z (IntKind.wrap .i64 (x - 1)) w' ∧ m (IntKind.wrap .i64 (x - 1)) w' < m x w1) (Q x w')))
      (Q x w2)) := by
  intro ys w' i j I Q hI hys hpt hi0 hQ
  refine ⟨fun x w'' => ∃ j' : Nat, x = j' ∧ Els Value.string e w'' d l c ys ∧ Pt ys a b i j' ∧ j' ≤ j ∧ Mod no w' w'', fun x _ => (x + 1 - (i : Int)).toNat, ⟨j, rfl, hys, hpt, Nat.le_refl _, Mod.refl _ _⟩, ?_⟩
  rintro _ _ w1 ⟨j', rfl, hy1, hp1, hj1, m1⟩ w2 e2
  have m2 : Mod no w1 w2 := by subst e2; exact Mod.drew _
  clear e2
  have hjb := hp1.jb
  have hai := hp1.ai
  refine ifK_dec (fun hle => ?_) (fun hgt => hQ j' w2 (hy1.no m2) hp1 (fun h => by omega) hj1 (m1.trans m2))
  refine nls (hy1.no m2) j' a rfl rfl (by omega) (by omega) (fun hge => ?_) (fun hlt => hQ j' w2 (hy1.no m2) hp1 (fun _ => ⟨hi0 (by omega), hlt⟩) hj1 (m1.trans m2))
  exact ⟨⟨j' - 1, (by first | (simp only [IntKind.wrap_i64]; omega) | omega), hy1.no m2, hp1.down (by omega) (Lin.nlt hge), by omega, m1.trans m2⟩, (by first | (simp only [IntKind.wrap_i64]; omega) | omega)⟩
theorem partition_ok (a b p : Nat) (hap : a ≤ p) (hpb : p < b) (hb : b ≤ l) (R : Value → World → Prop)
    (h : ∀ w' ys (m : Nat) (q : Bool), Els Value.string e w' d l c ys → Seg a b xs ys → Parted ys a m b → Mod (rowB d) w w' → R (.tuple #[.int .i64 m, .bool q]) w') :
    Ca Tryz.prog 136 #[.slice d l c, .int .i64 a, .int .i64 b, .int .i64 p] w R := by
  have hxl := hd.len.1
  refine ca136 d l c a b p w R ?_
  have ea : IntKind.i64.wrap ((a : Int) + 1) = ((a + 1 : Nat) : Int) := (by first | (simp only [IntKind.wrap_i64]; omega) | omega)
  have eb : IntKind.i64.wrap ((b : Int) - 1) = ((b - 1 : Nat) : Int) := (by first | (simp only [IntKind.wrap_i64]; omega) | omega)
  rw [W136, ea, eb]
  clear ea eb
  intro w0 e0
  have m0 : Mod no w w0 := by subst e0; exact Mod.drew _
  clear e0
  refine (hd.no m0).swp a p rfl rfl (by omega) (by omega) fun w1 h1 m1 => ?_
  have m1 := m0.no_trans m1
  have s1 : Seg a b xs (swapL xs a p) := Seg.swap (by omega) (by omega) (by omega) (by omega) hap hpb
  have fin : ∀ (ys : List ByteArray) (w' : World) (i j : Nat) (q : Bool), Els Value.string e w' d l c ys → Seg a b xs ys → Pt ys a b i j → j < i → Mod (rowB d) w w' →
      ∀ w'', Els Value.string e w'' d l c (swapL ys j a) → Mod (rowB d) w' w'' → R (.tuple #[.int .i64 j, .bool q]) w'' := by
    intro ys w' i j q hys hsg hpt hji hm w'' hy'' m''
    have hyl := hys.len.1
    have h1 := hpt.ai
    have h2 := hpt.ij
    have h3 := hpt.jb
    exact h w'' _ j q hy'' (hsg.trans (Seg.swap (by omega) (by omega) (by omega) (by omega) (by omega) (by omega))) (hpt.done (by omega) hji) (hm.trans m'')
  refine ⟨_, part_up e d l c hl a b hb _ w1 (a + 1) (b - 1) _ (fun x w' => ∃ i : Nat, x = i ∧ Els Value.string e w' d l c (swapL xs a p) ∧ Pt (swapL xs a p) a b i (b - 1) ∧ (i ≤ b - 1 → at0 (swapL xs a p) a ≤ at0 (swapL xs a p) i) ∧ Mod (rowB d) w w') rfl h1
    ⟨Nat.le_refl _, by omega, by omega, fun k h1 h2 => by omega, fun k h1 h2 => by omega⟩ (fun i w' h1 h2 h3 _ h4 => ⟨i, rfl, h1, h2, h3, m1.trans_no h4⟩), ?_⟩
  rintro _ _ w2 ⟨i, rfl, h2, hpt, hi, m2⟩
  refine ⟨_, part_down e d l c hl a b hb _ w2 i (b - 1) _ (fun x w' => ∃ j : Nat, x = j ∧ Els Value.string e w' d l c (swapL xs a p) ∧ Pt (swapL xs a p) a b i j ∧ (i ≤ j → at0 (swapL xs a p) a ≤ at0 (swapL xs a p) i ∧ at0 (swapL xs a p) j < at0 (swapL xs a p) a) ∧ Mod (rowB d) w w') rfl h2 hpt hi
    (fun j w' h1 h2 h3 _ h4 => ⟨j, rfl, h1, h2, h3, m2.trans_no h4⟩), ?_⟩
  rintro _ _ w3 ⟨j, rfl, h3, hpt, hij, m3⟩
  have hjb := hpt.jb
  have hai := hpt.ai
  have hil := hpt.ij
  have step : ∀ (ys : List ByteArray) (w' : World) (i j : Nat), Els Value.string e w' d l c ys → Seg a b xs ys → Pt ys a b i j → (i ≤ j → at0 ys a ≤ at0 ys i ∧ at0 ys j < at0 ys a) → i ≤ j → i < j := by
    intro ys w' i j _ _ hpt hij hle
    refine Nat.lt_of_le_of_ne hle fun e => ?_
    subst e
    have := hij hle
    exact absurd this.2 (Lin.nle this.1)
  refine ifK_dec (fun hgt => ?_) (fun hle => ?_)
  · intro w4 e4
    have m4 : Mod no w3 w4 := by subst e4; exact Mod.drew _
    clear e4
    refine (h3.no m4).swp j a rfl rfl (by omega) (by omega) fun w5 h5 m5 => ?_
    exact fin _ w4 i j true (h3.no m4) s1 hpt (by omega) (m3.trans_no m4) w5 h5 m5
  · intro w4 e4
    have m4 : Mod no w3 w4 := by subst e4; exact Mod.drew _
    clear e4
    have hlt := step _ w3 i j h3 s1 hpt hij (by omega)
    obtain ⟨hx, hy⟩ := hij (by omega)
    refine (h3.no m4).swp i j rfl rfl (by omega) (by omega) fun w5 h5 m5 => ?_
    have hl3 := h3.len.1
    refine ⟨fun x y w' => ∃ (i j : Nat) (ys : List ByteArray), x = i ∧ y = j ∧ Els Value.string e w' d l c ys ∧ Seg a b xs ys ∧ Pt ys a b i j ∧ Mod (rowB d) w w', fun x y _ => (y + 1 - x).toNat,
      ⟨i + 1, j - 1, _, (by first | (simp only [IntKind.wrap_i64]; omega) | omega), (by first | (simp only [IntKind.wrap_i64]; omega) | omega), h5, s1.trans (Seg.swap (by omega) (by omega) (by omega) (by omega) (by omega) (by omega)), hpt.swap (by omega) hlt (Lin.lle hy) hx, (m3.trans_no m4).trans m5⟩, ?_⟩
    rintro _ _ _ w6 ⟨i6, j6, ys, rfl, rfl, h6, s6, hpt6, m6⟩
    refine ⟨_, part_up e d l c hl a b hb _ w6 i6 j6 _ (fun x w' => ∃ i : Nat, x = i ∧ Els Value.string e w' d l c ys ∧ Pt ys a b i j6 ∧ (i ≤ j6 → at0 ys a ≤ at0 ys i) ∧ i6 ≤ i ∧ Mod (rowB d) w w') rfl h6 hpt6
      (fun i w' h1 h2 h3 h5 h4 => ⟨i, rfl, h1, h2, h3, h5, m6.trans_no h4⟩), ?_⟩
    rintro _ _ w7 ⟨i7, rfl, h7, hpt7, hi7, hii, m7⟩
    refine ⟨_, part_down e d l c hl a b hb _ w7 i7 j6 _ (fun x w' => ∃ j : Nat, x = j ∧ Els Value.string e w' d l c ys ∧ Pt ys a b i7 j ∧ (i7 ≤ j → at0 ys a ≤ at0 ys i7 ∧ at0 ys j < at0 ys a) ∧ j ≤ j6 ∧ Mod (rowB d) w w') rfl h7 hpt7 hi7
      (fun j w' h1 h2 h3 h5 h4 => ⟨j, rfl, h1, h2, h3, h5, m7.trans_no h4⟩), ?_⟩
    rintro _ _ w8 ⟨j8, rfl, h8, hpt8, hij8, hjj, m8⟩
    have hjb8 := hpt8.jb
    have hai8 := hpt8.ai
    have hil8 := hpt8.ij
    have hl8 := h8.len.1
    refine ifK_dec (fun hgt => ?_) (fun hle => ?_)
    · intro w9 e9
      have m9 : Mod no w8 w9 := by subst e9; exact Mod.drew _
      clear e9
      refine (h8.no m9).swp j8 a rfl rfl (by omega) (by omega) fun w10 h10 m10 => ?_
      exact fin _ w9 i7 j8 false (h8.no m9) s6 hpt8 (by omega) (m8.trans_no m9) w10 h10 m10
    · intro w9 e9
      have m9 : Mod no w8 w9 := by subst e9; exact Mod.drew _
      clear e9
      have hlt8 := step _ w8 i7 j8 h8 s6 hpt8 hij8 (by omega)
      obtain ⟨hx8, hy8⟩ := hij8 (by omega)
      refine (h8.no m9).swp i7 j8 rfl rfl (by omega) (by omega) fun w10 h10 m10 => ?_
      exact ⟨⟨i7 + 1, j8 - 1, _, (by first | (simp only [IntKind.wrap_i64]; omega) | omega), (by first | (simp only [IntKind.wrap_i64]; omega) | omega), h10, s6.trans (Seg.swap (by omega) (by omega) (by omega) (by omega) (by omega) (by omega)), hpt8.swap (by omega) hlt8 (Lin.lle hy8) hx8, (m8.trans_no m9).trans m10⟩, (by first | (simp only [IntKind.wrap_i64]; omega) | omega)⟩
end
end Go.Proofs.YtehhhkcemmfjpaaGreatDoor.Sortstring

/- The library's general sort, at one type: parting off what is equal, heap sort, scattering, sorting what is nearly sorted. -/
namespace Go.Proofs.YtehhhkcemmfjpaaGreatDoor.Sortstring
open Go Go.Proofs.YtehhhkcemmfjpaaGreatDoor Go.Proofs.YtehhhkcemmfjpaaGreatDoor.St

section
variable (e : TypeId) (d : Option Addr) (l c : Nat) (xs : List ByteArray) (w : World) (hd : Els Value.string e w d l c xs) (hl : l < 4611686018427387904)
include hd hl

theorem partEq_ok (a b p : Nat) (hap : a ≤ p) (hpb : p < b) (hb : b ≤ l) (hmin : ∀ k, a ≤ k → k < b → at0 xs p ≤ at0 xs k) (R : Value → World → Prop)
    (h : ∀ w' ys (m : Nat), Els Value.string e w' d l c ys → Seg a b xs ys → Eqd ys a m b → Mod (rowB d) w w' → R (.int .i64 m) w') :
    Ca Tryz.prog 135 #[.slice d l c, .int .i64 a, .int .i64 b, .int .i64 p] w R := by
  refine ca135 d l c a b p w R ?_
  have ea : IntKind.i64.wrap ((a : Int) + 1) = ((a + 1 : Nat) : Int) := (by first | (simp only [IntKind.wrap_i64]; omega) | omega)
  have eb : IntKind.i64.wrap ((b : Int) - 1) = ((b - 1 : Nat) : Int) := (by first | (simp only [IntKind.wrap_i64]; omega) | omega)
  rw [W135, ea, eb]
  clear ea eb
  intro w0 e0
  have m0 : Mod no w w0 := by subst e0; exact Mod.drew _
  clear e0
  refine (hd.no m0).swp a p rfl rfl (by omega) (by omega) fun w1 h1 m1 => ?_
  have m1 := m0.no_trans m1
  have s1 : Seg a b xs (swapL xs a p) := hd.seg (by omega) (by omega) (by omega) (by omega) hap hpb
  have p1 : AtE (swapL xs a p) a (at0 xs p) := by
    refine ⟨?_⟩
    rw [at0_swapL (hd.lt (by omega)) (hd.lt (by omega))]
    by_cases e : a = p
    · rw [if_pos e, e]
    · rw [if_neg e, if_pos rfl]
  refine ⟨fun x y w' => ∃ (i j : Nat) (ys : List ByteArray), x = i ∧ y = j ∧ Els Value.string e w' d l c ys ∧ Seg a b xs ys ∧ Pt ys a b i j ∧ AtE ys a (at0 xs p) ∧ Mod (rowB d) w w', fun x y _ => (y + 1 - x).toNat,
    ⟨a + 1, b - 1, _, rfl, rfl, h1, s1, ⟨Nat.le_refl _, by omega, by omega, fun k h1 h2 => by omega, fun k h1 h2 => by omega⟩, p1, m1⟩, ?_⟩
  rintro _ _ _ w2 ⟨i, j, ys, rfl, rfl, h2, s2, hpt, hp2, m2⟩
  refine ⟨fun x w' => ∃ i' : Nat, x = i' ∧ Els Value.string e w' d l c ys ∧ Pt ys a b i' j ∧ i ≤ i' ∧ (i' ≤ j → at0 ys a < at0 ys i') ∧ Mod (rowB d) w w', ⟨fun x w' => ∃ i' : Nat, x = i' ∧ Els Value.string e w' d l c ys ∧ Pt ys a b i' j ∧ i ≤ i' ∧ Mod (rowB d) w w',
    fun x _ => ((j : Int) + 1 - x).toNat, ⟨i, rfl, h2, hpt, Nat.le_refl _, m2⟩, ?_⟩, ?_⟩
  · rintro _ _ w3 ⟨i', rfl, h3, hp3, hi3, m3⟩ w4 e4
    have m4 : Mod no w3 w4 := by subst e4; exact Mod.drew _
    clear e4
    have hjb := hp3.jb
    have hai := hp3.ai
    have m4' := m3.trans_no m4
    refine ifK_dec (fun hle => ?_) (fun hgt => ⟨i', rfl, h3.no m4, hp3, hi3, fun h => by omega, m4'⟩)
    refine nls (h3.no m4) a i' rfl rfl (by omega) (by omega) (fun hge => ?_) (fun hlt => ⟨i', rfl, h3.no m4, hp3, hi3, fun _ => hlt, m4'⟩)
    exact ⟨⟨i' + 1, (by first | (simp only [IntKind.wrap_i64]; omega) | omega), h3.no m4, hp3.up (by omega) (Lin.nlt hge), by omega, m4'⟩, (by first | (simp only [IntKind.wrap_i64]; omega) | omega)⟩
  rintro _ _ w5 ⟨i5, rfl, h5, hp5, hi5, hx5, m5⟩
  refine ⟨fun x w' => ∃ j' : Nat, x = j' ∧ Els Value.string e w' d l c ys ∧ Pt ys a b i5 j' ∧ j' ≤ j ∧ (i5 ≤ j' → at0 ys j' ≤ at0 ys a) ∧ Mod (rowB d) w w', ⟨fun x w' => ∃ j' : Nat, x = j' ∧ Els Value.string e w' d l c ys ∧ Pt ys a b i5 j' ∧ j' ≤ j ∧ Mod (rowB d) w w',
    fun x _ => (x + 1 - (i5 : Int)).toNat, ⟨j, rfl, h5, hp5, Nat.le_refl _, m5⟩, ?_⟩, ?_⟩
  · rintro _ _ w3 ⟨j', rfl, h3, hp3, hi3, m3⟩ w4 e4
    have m4 : Mod no w3 w4 := by subst e4; exact Mod.drew _
    clear e4
    have hjb := hp3.jb
    have hai := hp3.ai
    have m4' := m3.trans_no m4
    refine ifK_dec (fun hle => ?_) (fun hgt => ⟨j', rfl, h3.no m4, hp3, hi3, fun h => by omega, m4'⟩)
    refine lss (h3.no m4) a j' rfl rfl (by omega) (by omega) (fun hlt => ?_) (fun hge => ⟨j', rfl, h3.no m4, hp3, hi3, fun _ => Lin.nlt hge, m4'⟩)
    exact ⟨⟨j' - 1, (by first | (simp only [IntKind.wrap_i64]; omega) | omega), h3.no m4, hp3.down (by omega) (Lin.lle hlt), by omega, m4'⟩, (by first | (simp only [IntKind.wrap_i64]; omega) | omega)⟩
  rintro _ _ w6 ⟨j6, rfl, h6, hp6, hj6, hx6, m6⟩
  have hjb := hp6.jb
  have hai := hp6.ai
  have hil := hp6.ij
  refine ifK_dec (fun hgt => ?_) (fun hle => ?_)
  · refine h w6 ys i5 h6 s2 (hp6.eqd (by omega) fun k h7 h8 => ?_) m6
    rw [hp2.eq]
    exact s2.all (hd.le hb) (P := fun v => at0 xs p ≤ v) hmin k h7 h8
  · intro w7 e7
    have m7 : Mod no w6 w7 := by subst e7; exact Mod.drew _
    clear e7
    have hlt : i5 < j6 := by
      refine Nat.lt_of_le_of_ne (by omega) fun e => ?_
      subst e
      have h7 := hx5 (by omega)
      have h8 := hx6 (by omega)
      exact absurd h7 (Lin.nle h8)
    refine (h6.no m7).swp i5 j6 rfl rfl (by omega) (by omega) fun w8 h8 m8 => ?_
    refine ⟨⟨i5 + 1, j6 - 1, _, (by first | (simp only [IntKind.wrap_i64]; omega) | omega), (by first | (simp only [IntKind.wrap_i64]; omega) | omega), h8, s2.trans (h6.seg (by omega) (by omega) (by omega) (by omega) (by omega) (by omega)), hp6.swap (h6.le hb) hlt (hx6 (by omega)) (Lin.lle (hx5 (by omega))), ?_, (m6.trans_no m7).trans m8⟩, (by first | (simp only [IntKind.wrap_i64]; omega) | omega)⟩
    exact ⟨by rw [at0_swapL (h6.lt (by omega)) (h6.lt (by omega)), if_neg (by omega), if_neg (by omega), hp2.eq]⟩

/-! ### Heap sort -/
theorem siftDown_ok (lo hi f : Nat) (hlo : lo ≤ hi) (hf : f + hi ≤ l) (hh : Hp xs f (lo + 1) hi) (R : Value → World → Prop)
    (h : ∀ w' ys, Els Value.string e w' d l c ys → Seg (f + lo) (f + hi) xs ys → Hp ys f lo hi → Mod (rowB d) w w' → R (.tuple #[]) w') :
    Ca Tryz.prog 147 #[.slice d l c, .int .i64 lo, .int .i64 hi, .int .i64 f] w R := by
  refine ca147 d l c lo hi f w R ?_
  refine ⟨fun x w' => ∃ (r : Nat) (ys : List ByteArray), x = r ∧ lo ≤ r ∧ (r < hi ∨ r = lo) ∧ Els Value.string e w' d l c ys ∧ Seg (f + lo) (f + hi) xs ys ∧ Sift ys f lo hi r ∧ Mod (rowB d) w w', fun x _ => ((hi : Int) - x).toNat,
    ⟨lo, xs, rfl, Nat.le_refl _, .inr rfl, hd, Seg.refl _ _ _, Sift.start hh, Mod.refl _ _⟩, ?_⟩
  rintro _ _ w1 ⟨r, ys, rfl, hlr, hr, h1, s1, hs1, m1⟩
  refine ifK_of (fun hb => ?_) (fun hb => ?_)
  · have hb : hi ≤ 2 * r + 1 := by
      have := of_decide_eq_true hb
      clear hb
      simp only [IntKind.wrap_i64] at this
      omega
    exact h w1 ys h1 s1 (hs1.done fun k h2 h3 => by omega) m1
  have hb : 2 * r + 1 < hi := by
    have := of_decide_eq_false hb
    clear hb
    simp only [IntKind.wrap_i64] at this
    omega
  refine ⟨fun x w' => ∃ k : Nat, x = k ∧ (k = 2 * r + 1 ∨ k = 2 * r + 2) ∧ k < hi ∧ (∀ q, (q = 2 * r + 1 ∨ q = 2 * r + 2) → q < hi → at0 ys (f + q) ≤ at0 ys (f + k)) ∧ Els Value.string e w' d l c ys ∧ Mod (rowB d) w w', ?_, ?_⟩
  · intro w2 e2
    have m2 : Mod no w1 w2 := by subst e2; exact Mod.drew _
    clear e2
    refine ifK_of (fun hc => ?_) (fun hc => ?_)
    · have hc : 2 * r + 2 < hi := by
        have := of_decide_eq_true hc
        clear hc
        simp only [IntKind.wrap_i64] at this
        omega
      refine lss (h1.no m2) (f + (2 * r + 1)) (f + (2 * r + 2)) (by first | (simp only [IntKind.wrap_i64]; omega) | omega) (by first | (simp only [IntKind.wrap_i64]; omega) | omega) (by omega) (by omega) (fun hlt => ?_) (fun hge => ?_)
      · refine ⟨2 * r + 2, (by first | (simp only [IntKind.wrap_i64]; omega) | omega), .inr rfl, hc, fun q hq hqh => ?_, h1.no m2, m1.trans_no m2⟩
        rcases hq with rfl | rfl
        · exact Lin.lle hlt
        · exact Lin.refl _
      · refine ⟨2 * r + 1, (by first | (simp only [IntKind.wrap_i64]; omega) | omega), .inl rfl, hb, fun q hq hqh => ?_, h1.no m2, m1.trans_no m2⟩
        rcases hq with rfl | rfl
        · exact Lin.refl _
        · exact Lin.nlt hge
    · have hc : hi ≤ 2 * r + 2 := by
        have := of_decide_eq_false hc
        clear hc
        simp only [IntKind.wrap_i64] at this
        omega
      refine ⟨2 * r + 1, (by first | (simp only [IntKind.wrap_i64]; omega) | omega), .inl rfl, hb, fun q hq hqh => ?_, h1.no m2, m1.trans_no m2⟩
      rcases hq with rfl | rfl
      · exact Lin.refl _
      · omega
  rintro _ _ w3 ⟨k, rfl, hk, hkh, hmax, h3, m3⟩ w4 e4
  have m4 : Mod no w3 w4 := by subst e4; exact Mod.drew _
  clear e4
  refine nls (h3.no m4) (f + r) (f + k) (by first | (simp only [IntKind.wrap_i64]; omega) | omega) (by first | (simp only [IntKind.wrap_i64]; omega) | omega) (by omega) (by omega) (fun hge => ?_) (fun hlt => ?_)
  · exact h w4 ys (h3.no m4) s1 (hs1.done fun q hq hqh => Lin.tr (hmax q hq hqh) (Lin.nlt hge)) (m3.trans_no m4)
  · intro w5 e5
    have m5 : Mod no w4 w5 := by subst e5; exact Mod.drew _
    clear e5
    refine ((h3.no m4).no m5).swp (f + r) (f + k) (by first | (simp only [IntKind.wrap_i64]; omega) | omega) (by first | (simp only [IntKind.wrap_i64]; omega) | omega) (by omega) (by omega) fun w6 h6 m6 => ?_
    refine ⟨⟨k, _, rfl, by omega, .inl hkh, h6, s1.trans (h1.seg (by omega) (by omega) (by omega) (by omega) (by omega) (by omega)), hs1.step hlr (h1.le hf) hk hkh hmax hlt, ((m3.trans_no m4).trans_no m5).trans m6⟩, by simp only; omega⟩

theorem heapSort_ok (a b : Nat) (hab : a < b) (hb : b ≤ l) (R : Value → World → Prop)
    (h : ∀ w' ys, Els Value.string e w' d l c ys → Seg a b xs ys → Srt ys a b → Mod (rowB d) w w' → R (.tuple #[]) w') :
    Ca Tryz.prog 129 #[.slice d l c, .int .i64 a, .int .i64 b] w R := by
  refine ca129 d l c a b w R ?_
  obtain ⟨n, rfl⟩ : ∃ n, b = a + (n + 1) := ⟨b - a - 1, by omega⟩
  have e1 : IntKind.i64.wrap (((a + (n + 1) : Nat) : Int) - a) = ((n + 1 : Nat) : Int) := (by first | (simp only [IntKind.wrap_i64]; omega) | omega)
  have e2 : IntKind.i64.wrap (((n + 1 : Nat) : Int) - 1) = (n : Int) := (by first | (simp only [IntKind.wrap_i64]; omega) | omega)
  have e3 : Int.tdiv (n : Int) 2 = ((n / 2 : Nat) : Int) := by rw [show (2 : Int) = ((2 : Nat) : Int) from rfl, ← Int.ofNat_tdiv]
  have e4 : IntKind.i64.wrap ((n / 2 : Nat) : Int) = ((n / 2 : Nat) : Int) := (by first | (simp only [IntKind.wrap_i64]; omega) | omega)
  rw [W129, e1, e2, e3, e4]
  clear e1 e2 e3 e4
  refine ⟨by decide, ?_⟩
  refine ⟨fun x w' => ∃ (i : Nat) (ys : List ByteArray), x = (i : Int) - 1 ∧ i ≤ n + 1 ∧ Els Value.string e w' d l c ys ∧ Seg a (a + (n + 1)) xs ys ∧ Hp ys a i (n + 1) ∧ Mod (rowB d) w w', fun x _ => (x + 1).toNat,
    ⟨n / 2 + 1, xs, by omega, by omega, hd, Seg.refl _ _ _, fun p k h1 h2 h3 => by omega, Mod.refl _ _⟩, ?_⟩
  rintro _ _ w1 ⟨i, ys, rfl, hi, h1, s1, hp1, m1⟩
  refine ifK_dec (fun hge => ?_) (fun hlt => ?_)
  · obtain ⟨k, rfl⟩ : ∃ k, i = k + 1 := ⟨i - 1, by omega⟩
    rw [show ((k + 1 : Nat) : Int) - 1 = (k : Int) by omega]
    refine siftDown_ok e d l c ys w1 h1 hl k (n + 1) a (by omega) (by omega) hp1 _ fun w2 zs h2 s2 hp2 m2 => ⟨rfl, ⟨k, zs, (by first | (simp only [IntKind.wrap_i64]; omega) | omega), by omega, h2, s1.trans (s2.mono (by omega) (by omega)), hp2, m1.trans m2⟩, (by first | (simp only [IntKind.wrap_i64]; omega) | omega)⟩
  · have : i = 0 := by omega
    subst this
    refine ⟨fun x w' => ∃ (i : Nat) (ys : List ByteArray), x = (i : Int) - 1 ∧ i ≤ n + 1 ∧ Els Value.string e w' d l c ys ∧ Seg a (a + (n + 1)) xs ys ∧ Pop ys a i (n + 1) ∧ Mod (rowB d) w w', fun x _ => (x + 1).toNat,
      ⟨n + 1, ys, by omega, by omega, h1, s1, Pop.start hp1, m1⟩, ?_⟩
    rintro _ _ w2 ⟨i, ys, rfl, hi, h2, s2, hp2, m2⟩
    refine ifK_dec (fun hge => ?_) (fun hlt => ?_)
    · obtain ⟨k, rfl⟩ : ∃ k, i = k + 1 := ⟨i - 1, by omega⟩
      rw [show ((k + 1 : Nat) : Int) - 1 = (k : Int) by omega]
      intro w3 e3
      have m3 : Mod no w2 w3 := by subst e3; exact Mod.drew _
      clear e3
      refine (h2.no m3).swp a (a + k) rfl (by first | (simp only [IntKind.wrap_i64]; omega) | omega) (by omega) (by omega) fun w4 h4 m4 => ?_
      refine siftDown_ok e d l c _ w4 h4 hl 0 k a (by omega) (by omega) (hp2.swap (by omega) (h2.le (by omega))) _ fun w5 zs h5 s5 hp5 m5 => ⟨rfl, ⟨k, zs, (by first | (simp only [IntKind.wrap_i64]; omega) | omega), by omega, h5, ?_, hp2.step (by omega) (h2.le (by omega)) s5 hp5, ((m2.trans_no m3).trans m4).trans m5⟩, (by first | (simp only [IntKind.wrap_i64]; omega) | omega)⟩
      exact (s2.trans (h2.seg (by omega) (by omega) (by omega) (by omega) (by omega) (by omega))).trans (s5.mono (by omega) (by omega))
    · have : i = 0 := by omega
      subst this
      exact h w2 ys h2 s2 hp2.done m2
end

/-! ### Scattering -/
theorem wrapU (x : Int) : IntKind.wrap .u64 x = x % 18446744073709551616 := by simp [IntKind.wrap, IntKind.bits, IntKind.signed]
theorem nextPow_ok (n : Nat) (hn : 0 < n) (hl : n < 4611686018427387904) (w : World) (R : Value → World → Prop) (h : ∀ k : Nat, k ≤ 2 * n → 0 < k → R (.int .u64 k) w) : Ca Tryz.prog 140 #[.int .i64 n] w R := by
  refine ca140 n w R ?_
  have e1 : IntKind.wrap .u64 (n : Int) = n := by rw [wrapU]; omega
  rw [W140, e1]
  clear e1
  refine bitsLen_ok n w _ fun k hk => ⟨_, rfl, by omega, ?_⟩
  obtain ⟨h1, h2⟩ := hk (by omega) (by omega)
  have h3 : ((2 ^ k : Nat) : Int) ≤ 2 * n := by simpa using h2
  have h4 : 0 < 2 ^ k := Nat.pow_pos (by decide)
  have e2 : IntKind.wrap .u64 (1 * 2 ^ min (Int.toNat (k : Int)) 64) = ((2 ^ k : Nat) : Int) := by
    have e3 : min (Int.toNat (k : Int)) 64 = k := by omega
    have e4 : (1 : Int) * 2 ^ k = ((2 ^ k : Nat) : Int) := by simp
    rw [e3, e4, wrapU]
    omega
  rw [e2]
  exact h _ (by omega) h4
theorem xorNext_ok (s : Nat) (t : TypeId) (n : Int) (w : World) (hs : w.heap[s]? = some (.cells #[.int .u64 n] t (0, 0))) (R : Value → World → Prop)
    (h : ∀ w' (n' : Int), w'.heap[s]? = some (.cells #[.int .u64 n'] t (0, 0)) → Mod (on s) w w' → R (.int .u64 n') w') : Ca Tryz.prog 141 #[.pointer (some ⟨s, 0, none⟩)] w R := by
  refine ca141 (some ⟨s, 0, none⟩) w R ?_
  have step : ∀ (w : World) (n m : Int) (K : World → Prop), w.heap[s]? = some (.cells #[.int .u64 n] t (0, 0)) → (∀ w', w'.heap[s]? = some (.cells #[.int .u64 m] t (0, 0)) → Mod (on s) w w' → K w') →
      (∃ v : Value, w.cell? (Addr.add ⟨s, 0, none⟩ 0) = some v) ∧ w.frozen? (Addr.add ⟨s, 0, none⟩ 0) = false ∧ atW (w.setCell (Addr.add ⟨s, 0, none⟩ 0) (.int .u64 m)) K := by
    intro w n m K hs hK
    refine ⟨⟨_, by rw [cl1 hs]; rfl⟩, fz1 hs _, fun w' e => ?_⟩
    subst e
    exact hK _ (set1 hs 0 _) (Mod.set1 _ _ _ _)
  intro w0 e0
  have m0 : Mod no w w0 := by subst e0; exact Mod.drew _
  clear e0
  have hs0 := m0.at' hs
  refine ⟨n, by rw [cl hs0]; rfl, n, by rw [cl hs0]; rfl, by decide, step w0 n _ _ hs0 fun w1 hs1 m1 => ?_⟩
  intro w2 e2
  have m2 : Mod no w1 w2 := by subst e2; exact Mod.drew _
  clear e2
  have hs2 := m2.at' hs1
  refine ⟨_, by rw [cl hs2]; rfl, _, by rw [cl hs2]; rfl, by decide, step w2 _ _ _ hs2 fun w3 hs3 m3 => ?_⟩
  intro w4 e4
  have m4 : Mod no w3 w4 := by subst e4; exact Mod.drew _
  clear e4
  have hs4 := m4.at' hs3
  refine ⟨_, by rw [cl hs4]; rfl, _, by rw [cl hs4]; rfl, by decide, step w4 _ _ _ hs4 fun w5 hs5 m5 => ?_⟩
  exact ⟨_, by rw [cl hs5]; rfl, h w5 _ hs5 (((((m0.no_trans m1).trans_no m2).trans m3).trans_no m4).trans m5)⟩

theorem and_le (x y : Int) (k : Nat) (hy : y = k) (hk : k < 18446744073709551616) : ((BitVec.ofInt 64 x &&& BitVec.ofInt 64 y).toNat) ≤ k := by
  rw [BitVec.toNat_and]
  refine Nat.le_trans Nat.and_le_right ?_
  rw [hy, BitVec.toNat_ofInt]
  omega
theorem breakP_ok (e : TypeId) (d : Option Addr) (l c : Nat) (xs : List ByteArray) (w : World) (hd : Els Value.string e w d l c xs) (hl : l < 4611686018427387904) (a b : Nat) (hab : a + 8 ≤ b) (hb : b ≤ l) (R : Value → World → Prop)
    (h : ∀ w' ys, Els Value.string e w' d l c ys → Seg a b xs ys → Mod (rowB d) w w' → R (.tuple #[]) w') :
    Ca Tryz.prog 130 #[.slice d l c, .int .i64 a, .int .i64 b] w R := by
  refine ca130 d l c a b w R ?_
  obtain ⟨elen, e4, ei, ej, ek⟩ := piv_eqs a b l (by omega) hb hl
  rw [W130]
  simp only [elen, e4, ej]
  clear elen e4 ei ej ek
  have hq : a + (b - a) / 4 * 2 + 1 < b ∧ a + 1 ≤ a + (b - a) / 4 * 2 := by omega
  generalize a + (b - a) / 4 * 2 = mid at hq
  have em : IntKind.i64.wrap ((mid : Int) - 1) = ((mid - 1 : Nat) : Int) := (by first | (simp only [IntKind.wrap_i64]; omega) | omega)
  have ep : IntKind.i64.wrap ((mid : Int) + 1) = ((mid + 1 : Nat) : Int) := (by first | (simp only [IntKind.wrap_i64]; omega) | omega)
  rw [em, ep]
  clear em ep
  refine ifK_of (fun _ => ?_) (fun hn => absurd (of_decide_eq_false hn) (by omega))
  intro w0 e0
  have m0 : Mod no w w0 := by subst e0; exact Mod.alloc _ _
  have hs0 : ∃ t, w0.heap[w.heap.size]? = some (.cells #[.int .u64 0] t (0, 0)) := by subst e0; exact ⟨_, new_at _ _⟩
  clear e0
  obtain ⟨t, hs0⟩ := hs0
  have hne : ¬ rowB d w.heap.size := by
    intro hk
    obtain ⟨g, rfl, hc⟩ := hd.get (i := 0) (by have := hd.len; omega)
    have : g = w.heap.size := by simpa [rowB] using hk
    subst this
    rw [World.cell?, Array.getElem?_eq_none (by simp [Addr.add])] at hc
    cases hc
  refine ⟨⟨_, by rw [cl1 hs0]; rfl⟩, fz1 hs0 _, ?_⟩
  intro w2 e2
  have m2 : Mod (on w.heap.size) w0 w2 := by subst e2; exact Mod.set1 _ _ _ _
  have hs2 : ∃ n : Int, w2.heap[w.heap.size]? = some (.cells #[.int .u64 n] t (0, 0)) := by subst e2; exact ⟨_, set1 hs0 0 _⟩
  clear e2
  have m02 : Mod no w w2 := m0.new m2 fun k hk => by cases hk; exact Nat.le_refl _
  refine nextPow_ok (b - a) (by omega) (by omega) w2 _ fun k hk hk0 => ⟨_, rfl, by decide, ?_⟩
  refine ⟨fun x w' => ∃ (i : Nat) (n : Int) (ys : List ByteArray), x = i ∧ mid - 1 ≤ i ∧ i ≤ mid + 2 ∧ w'.heap[w.heap.size]? = some (.cells #[.int .u64 n] t (0, 0)) ∧ Els Value.string e w' d l c ys ∧ Seg a b xs ys ∧ Mod (fun k => rowB d k ∨ k = w.heap.size) w w', fun x _ => ((mid : Int) + 2 - x).toNat, ?_, ?_⟩
  · obtain ⟨n, hs2⟩ := hs2
    exact ⟨mid - 1, n, xs, rfl, Nat.le_refl _, by omega, hs2, hd.no m02, Seg.refl _ _ _, m02.of_no⟩
  rintro _ _ w3 ⟨i, n, ys, rfl, hi1, hi2, hs3, h3, s3, m3⟩
  have m3' : Mod (rowB d) w w3 := m3.mono fun k hk h => by
    rcases h with h | h
    · exact h
    · omega
  refine ⟨by decide, ifK_dec (fun hle => ?_) (fun hgt => h w3 ys h3 s3 m3')⟩
  refine xorNext_ok _ t n w3 hs3 _ fun w4 n4 hs4 m4 => ⟨_, rfl, ?_⟩
  have h4 : Els Value.string e w4 d l c ys := h3.mod m4 fun k hk he => hne (by cases he; exact hk)
  have hand : IntKind.wrap .u64 ((k : Int) - 1) = ((k - 1 : Nat) : Int) := by rw [wrapU]; omega
  rw [hand]
  have hale := and_le n4 ((k - 1 : Nat) : Int) (k - 1) rfl (by omega)
  generalize ((BitVec.ofInt 64 n4 &&& BitVec.ofInt 64 ((k - 1 : Nat) : Int)).toNat) = o at hale
  have e5 : IntKind.wrap .i64 (IntKind.wrap .u64 (o : Int)) = o := by rw [wrapU, IntKind.wrap_i64]; omega
  rw [e5]
  clear e5
  refine ⟨fun x w' => ∃ q : Nat, x = q ∧ q < b - a ∧ w' = w4, ifK_dec (fun hge => ⟨o - (b - a), (by first | (simp only [IntKind.wrap_i64]; omega) | omega), by omega, rfl⟩) (fun hlt => ⟨o, rfl, by omega, rfl⟩), ?_⟩
  rintro _ _ _ ⟨q, rfl, hq1, rfl⟩ w5 e5
  rename_i w4
  have m5 : Mod no w4 w5 := by subst e5; exact Mod.drew _
  clear e5
  refine (h4.no m5).swp i (a + q) rfl (by first | (simp only [IntKind.wrap_i64]; omega) | omega) (by omega) (by omega) fun w6 h6 m6 => ?_
  have hs6 : w6.heap[w.heap.size]? = some (.cells #[.int .u64 n4] t (0, 0)) := m6.at (m5.at' hs4) hne
  clear hale hk hk0 hand
  have e8 : IntKind.i64.wrap ((i : Int) + 1) = ((i + 1 : Nat) : Int) := (by first | (simp only [IntKind.wrap_i64]; omega) | omega)
  rw [e8]
  clear e8
  exact ⟨⟨i + 1, n4, _, rfl, by omega, by omega, hs6, h6, s3.trans (h4.seg (by omega) (by omega) (by omega) (by omega) (by omega) (by omega)),
    ((m3.trans (m4.mono fun k _ h => .inr h)).trans_no m5).trans (m6.mono fun k _ h => .inl h)⟩, by simp only; omega⟩
end Go.Proofs.YtehhhkcemmfjpaaGreatDoor.Sortstring

/- The formulas of functions, printed by a program of mine (gen.py) out of the translation. -/
namespace Go.Proofs.YtehhhkcemmfjpaaGreatDoor
open Go Go.Proofs.YtehhhkcemmfjpaaGreatDoor.St
open _root_.Go.Value (string int bool slice pointer agg tuple map func nilFunc iface)
open _root_.Go.World (cell? frozen? setCell alloc drew)
open _root_.Go.Addr (add)
open _root_.Go.Obj (cells)
open _root_.Go.IntKind (wrap i64 u64 i32 u32 u8)
set_option maxRecDepth 100000

/-- slices.pdqsortOrdered[string] -/
noncomputable def C104 : Code := (Tryz.f104.body).getD .skip
def pl104 : Nat → Plan
  | 17 => (.quiet 0 (.quiet 1 (.quiet 2 (.quiet 3 (.quiet 4 (.quiet 5 (.quiet 6 (.quiet 7 (.quiet 8 (.quiet 9 (.quiet 10 (.quiet 11 (.eff 12 [] (.quiet 13 (.quiet 14 .done)))))))))))))))
  | _ => .done
def ls104 : Nat → List (Nat × LT)
  | 2 => [(1, (.one (.int .i64))), (2, (.one (.int .i64))), (3, (.one (.int .i64))), (8, (.one .bool)), (9, (.one .bool))]
  | 10 => [(0, .agg []), (3, (.one (.int .i64)))]
  | 14 => [(0, .agg []), (11, (.one (.int .i64))), (12, (.one (.int .i64)))]
  | 18 => [(0, .agg [])]
  | 21 => [(0, .agg []), (1, (.one (.int .i64)))]
  | _ => []
def W104 (dataa : Option Addr) (datal : Nat) (datac : Nat) (a_ : Int) (b : Int) (limit : Int) (w : World) (R : Value → World → Prop) : Prop :=
  (∃ z0 : Int → Int → Int → Bool → Bool → World → Prop, (∃ z1 : Int → Int → Int → Bool → Bool → World → Nat, ((z0 (a_) (b) (limit) (true) (true) (w)) ∧ (∀ (_ : Nat → Value), (∀ (x3 : Int), (∀ (x4 : Int), (∀ (x5 : Int), (∀ (b6 : Bool), (∀ (b7 : Bool), (∀ (w8 : World), ((z0 (x3) (x4) (x5) (b6) (b7) (w8)) → (ifK (decide (wrap i64 (x4 - x3) ≤ 12))
(Ca Tryz.prog (128) (Array.mk [slice dataa datal datac, int i64 x3, int i64 x4]) (w8) (fun v9 => (fun w10 =>
((v9 = tuple (Array.mk (List.reverse []))) ∧ (R (tuple (Array.mk (List.reverse []))) (w10))))))
(ifK (x5 == 0)
(Ca Tryz.prog (129) (Array.mk [slice dataa datal datac, int i64 x3, int i64 x4]) (w8) (fun v11 => (fun w12 =>
((v11 = tuple (Array.mk (List.reverse []))) ∧ (R (tuple (Array.mk (List.reverse []))) (w12))))))
(∃ z13 : Int → World → Prop, ((ifK (!b6)
(Ca Tryz.prog (130) (Array.mk [slice dataa datal datac, int i64 x3, int i64 x4]) (w8) (fun v14 => (fun w15 =>
((v14 = tuple (Array.mk (List.reverse []))) ∧ (z13 (wrap i64 (x5 - 1)) (w15))))))
(z13 (x5) (w8))) ∧ (∀ (_ : Nat → Value), (∀ (x17 : Int), (∀ (w18 : World), ((z13 (x17) (w18)) → (Ca Tryz.prog (131) (Array.mk [slice dataa datal datac, int i64 x3, int i64 x4]) (w18) (fun v19 => (fun w20 =>
(∃ x21 : Int, (∃ x22 : Int, ((v19 = tuple (Array.mk (List.reverse [int i64 x22, int i64 x21]))) ∧ (∃ z23 : Int → Int → World → Prop, ((ifK (x22 == 2)
(Ca Tryz.prog (132) (Array.mk [slice dataa datal datac, int i64 x3, int i64 x4]) (w20) (fun v24 => (fun w25 =>
((v24 = tuple (Array.mk (List.reverse []))) ∧ (z23 (wrap i64 (wrap i64 (x4 - 1) - wrap i64 (x21 - x3))) (1) (w25))))))
(z23 (x21) (x22) (w20))) ∧ (∀ (_ : Nat → Value), (∀ (x27 : Int), (∀ (x28 : Int), (∀ (w29 : World), ((z23 (x27) (x28) (w29)) → (∃ z30 : World → Prop, ((ifK (b6)
(ifK (b7)
(ifK (x28 == 1)
(Ca Tryz.prog (133) (Array.mk [slice dataa datal datac, int i64 x3, int i64 x4]) (w29) (fun v31 => (fun w32 =>
(∃ b33 : Bool, ((v31 = bool b33) ∧ (ifK (b33)
(R (tuple (Array.mk (List.reverse []))) (w32))
(z30 (w32))))))))
(z30 (w29)))
(z30 (w29)))
(z30 (w29))) ∧ (∀ (_ : Nat → Value), (∀ (w35 : World), ((z30 (w35)) → (∃ z36 : Int → World → Prop, ((atW (drew w35) (fun w37 =>
(ifK (decide (x3 > 0))
(∃ a38 : Addr, ((dataa = some a38) ∧ (((0 : Int) ≤ wrap i64 (x3 - 1)) ∧ (((wrap i64 (x3 - 1) : Int) < (↑datal : Int)) ∧ (∃ s39 : ByteArray, ((cell? w37 (add a38 (Int.toNat (wrap i64 (x3 - 1)) * 1)) = some (string s39)) ∧ (∃ a40 : Addr, ((dataa = some a40) ∧ (((0 : Int) ≤ x27) ∧ (((x27 : Int) < (↑datal : Int)) ∧ (∃ s41 : ByteArray, ((cell? w37 (add a40 (Int.toNat x27 * 1)) = some (string s41)) ∧ (Ca Tryz.prog (134) (Array.mk [string s39, string s41]) (w37) (fun v42 => (fun w43 =>
(∃ b44 : Bool, ((v42 = bool b44) ∧ (ifK (!b44)
(Ca Tryz.prog (135) (Array.mk [slice dataa datal datac, int i64 x3, int i64 x4, int i64 x27]) (w43) (fun v45 => (fun w46 =>
(∃ x47 : Int, ((v45 = int i64 x47) ∧ ((z0 (x47) (x4) (x17) (b6) (b7) (w46)) ∧ (z1 x47 x4 x17 b6 b7 w46 < z1 x3 x4 x5 b6 b7 w8)))))))
(z36 (x3) (w43))))))))))))))))))))
(z36 (x3) (w37))))) ∧ (∀ (_ : Nat → Value), (∀ (x49 : Int), (∀ (w50 : World), ((z36 (x49) (w50)) → (Ca Tryz.prog (136) (Array.mk [slice dataa datal datac, int i64 x49, int i64 x4, int i64 x27]) (w50) (fun v51 => (fun w52 =>
(∃ x53 : Int, (∃ b54 : Bool, ((v51 = tuple (Array.mk (List.reverse [bool b54, int i64 x53]))) ∧ (((8 : Int) ≠ 0) ∧ (ifK (decide (wrap i64 (x53 - x49) < wrap i64 (x4 - x53)))
(Ca Tryz.prog (104) (Array.mk [slice dataa datal datac, int i64 x49, int i64 x53, int i64 x17]) (w52) (fun v55 => (fun w56 =>
((v55 = tuple (Array.mk (List.reverse []))) ∧ ((z0 (wrap i64 (x53 + 1)) (x4) (x17) (decide (wrap i64 (x53 - x49) ≥ wrap i64 (Int.tdiv (wrap i64 (x4 - x3)) 8))) (b54) (w56)) ∧ (z1 (wrap i64 (x53 + 1)) x4 x17 (decide (wrap i64 (x53 - x49) ≥ wrap i64 (Int.tdiv (wrap i64 (x4 - x3)) 8))) b54 w56 < z1 x3 x4 x5 b6 b7 w8))))))
(Ca Tryz.prog (104) (Array.mk [slice dataa datal datac, int i64 (wrap i64 (x53 + 1)), int i64 x4, int i64 x17]) (w52) (fun v57 => (fun w58 =>
((v57 = tuple (Array.mk (List.reverse []))) ∧ ((z0 (x49) (x53) (x17) (decide (wrap i64 (x4 - x53) ≥ wrap i64 (Int.tdiv (wrap i64 (x4 - x3)) 8))) (b54) (w58)) ∧ (z1 x49 x53 x17 (decide (wrap i64 (x4 - x53) ≥ wrap i64 (Int.tdiv (wrap i64 (x4 - x3)) 8))) b54 w58 < z1 x3 x4 x5 b6 b7 w8)))))))))))))))))))))))))))))))))))))))))))))))))))))))))
theorem ca104 (dataa : Option Addr) (datal : Nat) (datac : Nat) (a_ : Int) (b : Int) (limit : Int) (w : World) (R : Value → World → Prop) (h : W104 dataa datal datac a_ b limit w R) : Ca Tryz.prog 104 ⟨[(.slice dataa datal datac), (.int .i64 a_), (.int .i64 b), (.int .i64 limit)]⟩ w R :=
  caB (fn := Tryz.f104) (pl := pl104) (ls := ls104) Tryz.func104 (by kernel_rfl) (by kernel_rfl) h

/-- slices.Sort[[]string,string] -/
noncomputable def C87 : Code := (Tryz.f87.body).getD .skip
def pl87 : Nat → Plan := fun _ => .done
def ls87 : Nat → List (Nat × LT) := fun _ => []
def W87 (xa : Option Addr) (xl : Nat) (xc : Nat) (w : World) (R : Value → World → Prop) : Prop :=
  (Ca Tryz.prog (100) (Array.mk [int u64 (wrap u64 (↑xl : Int))]) (w) (fun v0 => (fun w1 =>
(∃ x2 : Int, ((v0 = int i64 x2) ∧ (Ca Tryz.prog (104) (Array.mk [slice xa xl xc, int i64 0, int i64 (↑xl : Int), int i64 x2]) (w1) (fun v3 => (fun w4 =>
((v3 = tuple (Array.mk (List.reverse []))) ∧ (R (tuple (Array.mk (List.reverse []))) (w4)))))))))))
theorem ca87 (xa : Option Addr) (xl : Nat) (xc : Nat) (w : World) (R : Value → World → Prop) (h : W87 xa xl xc w R) : Ca Tryz.prog 87 ⟨[(.slice xa xl xc)]⟩ w R :=
  caB (fn := Tryz.f87) (pl := pl87) (ls := ls87) Tryz.func87 (by kernel_rfl) (by kernel_rfl) h
end Go.Proofs.YtehhhkcemmfjpaaGreatDoor

/- The library's general sort, at one type: sorting what is nearly sorted; the sort itself. -/
namespace Go.Proofs.YtehhhkcemmfjpaaGreatDoor.Sortstring
open Go Go.Proofs.YtehhhkcemmfjpaaGreatDoor Go.Proofs.YtehhhkcemmfjpaaGreatDoor.St

theorem wS {i : Nat} (h : i < 4611686018427387904) : IntKind.i64.wrap ((i : Int) + 1) = ((i + 1 : Nat) : Int) := by rw [wrap64 (by omega) (by omega)]; rfl
theorem wP {i : Nat} (h : i < 4611686018427387904) (h0 : 0 < i) : IntKind.i64.wrap ((i : Int) - 1) = ((i - 1 : Nat) : Int) := by rw [wrap64 (by omega) (by omega)]; omega
theorem wD {i j : Nat} (h : i < 4611686018427387904) (h0 : j ≤ i) : IntKind.i64.wrap ((i : Int) - (j : Int)) = ((i - j : Nat) : Int) := by rw [wrap64 (by omega) (by omega)]; omega

section
variable (e : TypeId) (d : Option Addr) (l c : Nat) (xs : List ByteArray) (w : World) (hd : Els Value.string e w d l c xs) (hl : l < 4611686018427387904)
include hd hl

theorem partial_ok (a b : Nat) (hab : a < b) (hb : b ≤ l) (hbel : Bel xs a b) (R : Value → World → Prop)
    (h : ∀ w' ys (q : Bool), Els Value.string e w' d l c ys → Seg a b xs ys → (q = true → Srt ys a b) → Mod (rowB d) w w' → R (.bool q) w') :
    Ca Tryz.prog 133 #[.slice d l c, .int .i64 a, .int .i64 b] w R := by
  refine ca133 d l c a b w R ?_
  rw [W133, wS (by omega)]
  refine ⟨fun x y w' => ∃ (i j : Nat) (ys : List ByteArray), x = i ∧ y = j ∧ a < i ∧ i ≤ b ∧ j ≤ 5 ∧ Els Value.string e w' d l c ys ∧ Seg a b xs ys ∧ Srt ys a i ∧ Mod (rowB d) w w', fun _ y _ => (5 - y).toNat,
    ⟨a + 1, 0, xs, rfl, rfl, by omega, by omega, by omega, hd, Seg.refl _ _ _, Srt.nil _ _ _ (Nat.le_refl _), Mod.refl _ _⟩, ?_⟩
  rintro _ _ _ w1 ⟨i0, j0, ys, rfl, rfl, hi1, hi2, hj5, h1, s1, srt1, m1⟩
  refine ifK_dec (fun hlt => ?_) (fun _ => h w1 ys false h1 s1 (fun h => by cases h) m1)
  have hj : (j0 : Int) < 5 := hlt
  clear hlt
  -- as long as it rises
  refine ⟨fun x w' => ∃ i : Nat, x = i ∧ a < i ∧ i ≤ b ∧ Els Value.string e w' d l c ys ∧ Srt ys a i ∧ (i < b → at0 ys i < at0 ys (i - 1)) ∧ Mod (rowB d) w w', ⟨fun x w' => ∃ i : Nat, x = i ∧ a < i ∧ i ≤ b ∧ Els Value.string e w' d l c ys ∧ Srt ys a i ∧ Mod (rowB d) w w',
    fun x _ => ((b : Int) - x).toNat, ⟨i0, rfl, hi1, hi2, h1, srt1, m1⟩, ?_⟩, ?_⟩
  · rintro _ _ w2 ⟨i, rfl, h3, h4, h2, srt2, m2⟩ w3 e3
    have m3 : Mod no w2 w3 := by subst e3; exact Mod.drew _
    clear e3
    refine ifK_dec (fun hib => ?_) (fun hib => ⟨i, rfl, h3, h4, h2.no m3, srt2, fun h => by omega, m2.trans_no m3⟩)
    have hib : i < b := by omega
    rw [wS (i := i) (by omega), wP (i := i) (by omega) (by omega)]
    refine nls (h2.no m3) i (i - 1) rfl rfl (by omega) (by omega) (fun hge => ⟨⟨i + 1, rfl, by omega, by omega, h2.no m3, (Ins.start srt2).done (.inr (Lin.nlt hge)), m2.trans_no m3⟩, by simp only; omega⟩)
      (fun hls => ⟨i, rfl, h3, h4, h2.no m3, srt2, fun _ => hls, m2.trans_no m3⟩)
  rintro _ _ w4 ⟨i, rfl, h3, h4, h2, srt2, hls, m2⟩
  refine ifK_eq (fun hib => ?_) (fun hib => ?_)
  · have hib : i = b := by omega
    subst hib
    exact h w4 ys true h2 s1 (fun _ => srt2) m2
  have hib : i < b := by omega
  have hls := hls hib
  rw [wD (i := b) (j := a) (by omega) (by omega), wD (i := i) (j := a) (by omega) (by omega), wD (i := b) (j := i) (by omega) (by omega), wS (i := i) (by omega), wS (i := j0) (by omega), wP (i := i) (by omega) (by omega)]
  refine ifK_of (fun _ => h w4 ys false h2 s1 (fun h => by cases h) m2) (fun _ => ?_)
  intro w5 e5
  have m5 : Mod no w4 w5 := by subst e5; exact Mod.drew _
  clear e5
  refine (h2.no m5).swp i (i - 1) rfl rfl (by omega) (by omega) fun w6 h6 m6 => ?_
  have s6 : Seg a b xs (swapL ys i (i - 1)) := s1.trans (h2.seg (by omega) (by omega) (by omega) (by omega) (by omega) (by omega))
  have m6 := (m2.trans_no m5).trans m6
  have srt6 : Srt (swapL ys i (i - 1)) a (i - 1) := by
    intro p q h7 h8 h9
    rw [at0_swapL (h2.lt (by omega)) (h2.lt (by omega)), at0_swapL (h2.lt (by omega)) (h2.lt (by omega)), if_neg (by omega), if_neg (by omega), if_neg (by omega), if_neg (by omega)]
    exact srt2 p q h7 h8 (by omega)
  -- the smaller one to the left
  refine ⟨fun w' => ∃ zs, Els Value.string e w' d l c zs ∧ Seg a b xs zs ∧ Srt zs a i ∧ Mod (rowB d) w w', ?_, ?_⟩
  · refine ifK_dec (fun hge => ?_) (fun hlt => ⟨_, h6, s6, Srt.nil _ _ _ (by omega), m6⟩)
    refine ⟨fun x w' => ∃ (j : Nat) (zs : List ByteArray), x = j ∧ a ≤ j ∧ j + 1 ≤ i ∧ Els Value.string e w' d l c zs ∧ Seg a b xs zs ∧ Ins zs a (i - 1) j ∧ Mod (rowB d) w w', fun x _ => x.toNat,
      ⟨i - 1, _, rfl, by omega, by omega, h6, s6, Ins.start srt6, m6⟩, ?_⟩
    rintro _ _ w7 ⟨j, zs, rfl, hj1, hj2, h7, s7, ins7, m7⟩
    have fin : (j ≤ a ∨ at0 zs (j - 1) ≤ at0 zs j) → Srt zs a i := fun hh => by
      have := ins7.done hh
      rwa [Nat.sub_add_cancel (by omega)] at this
    refine ifK_dec (fun hj0 => ?_) (fun hj0 => ⟨zs, h7, s7, fin (.inl (by omega)), m7⟩)
    have hj0 : 0 < j := by omega
    intro w8 e8
    have m8 : Mod no w7 w8 := by subst e8; exact Mod.drew _
    clear e8
    rw [wP (i := j) (by omega) hj0]
    refine nls (h7.no m8) j (j - 1) rfl rfl (by omega) (by omega) (fun hge => ⟨zs, h7.no m8, s7, fin (.inr (Lin.nlt hge)), m7.trans_no m8⟩) (fun hlt => ?_)
    have haj : a < j := by
      refine Nat.lt_of_le_of_ne hj1 fun e => ?_
      subst e
      exact absurd hlt (Lin.nle ((hbel.seg s7 (hd.le hb)) hj0 a (Nat.le_refl _) hab))
    intro w9 e9
    have m9 : Mod no w8 w9 := by subst e9; exact Mod.drew _
    clear e9
    refine ((h7.no m8).no m9).swp j (j - 1) rfl rfl (by omega) (by omega) fun w10 h10 m10 => ?_
    exact ⟨⟨j - 1, _, rfl, by omega, by omega, h10, s7.trans (h7.seg (by omega) (by omega) (by omega) (by omega) (by omega) (by omega)), ins7.step (h7.lt (by omega)) haj (by omega) hlt, ((m7.trans_no m8).trans_no m9).trans m10⟩, by simp only; omega⟩
  -- the greater one to the right
  rintro _ w11 ⟨zs, h11, s11, srt11, m11⟩
  have next : ∀ (w' : World) (us : List ByteArray), Els Value.string e w' d l c us → Seg a b xs us → Srt us a i → Mod (rowB d) w w' →
      (∃ (i' j' : Nat) (ys : List ByteArray), (i : Int) = i' ∧ ((j0 + 1 : Nat) : Int) = j' ∧ a < i' ∧ i' ≤ b ∧ j' ≤ 5 ∧ Els Value.string e w' d l c ys ∧ Seg a b xs ys ∧ Srt ys a i' ∧ Mod (rowB d) w w') ∧ (5 - ((j0 + 1 : Nat) : Int)).toNat < (5 - (j0 : Int)).toNat := by
    intro w' us hu su srtu mu
    exact ⟨⟨i, j0 + 1, us, rfl, rfl, h3, h4, by omega, hu, su, srtu, mu⟩, by omega⟩
  refine ifK_of (fun hge => ?_) (fun _ => next w11 zs h11 s11 srt11 m11)
  refine ⟨fun x w' => ∃ (j : Nat) (us : List ByteArray), x = j ∧ i < j ∧ j ≤ b ∧ Els Value.string e w' d l c us ∧ Seg a b xs us ∧ Srt us a i ∧ Mod (rowB d) w w', fun x _ => ((b : Int) - x).toNat,
    ⟨i + 1, zs, rfl, by omega, by omega, h11, s11, srt11, m11⟩, ?_⟩
  rintro _ _ w12 ⟨j, us, rfl, hj1, hj2, h12, s12, srt12, m12⟩
  refine ifK_dec (fun hjb => ?_) (fun _ => next w12 us h12 s12 srt12 m12)
  have hjb : j < b := by omega
  intro w13 e13
  have m13 : Mod no w12 w13 := by subst e13; exact Mod.drew _
  clear e13
  rw [wP (i := j) (by omega) (by omega), wS (i := j) (by omega)]
  refine nls (h12.no m13) j (j - 1) rfl rfl (by omega) (by omega) (fun _ => next w13 us (h12.no m13) s12 srt12 (m12.trans_no m13)) (fun hlt => ?_)
  intro w14 e14
  have m14 : Mod no w13 w14 := by subst e14; exact Mod.drew _
  clear e14
  refine ((h12.no m13).no m14).swp j (j - 1) rfl rfl (by omega) (by omega) fun w15 h15 m15 => ?_
  have s15 : Seg i b us (swapL us j (j - 1)) := h12.seg (by omega) (by omega) (by omega) (by omega) (by omega) (by omega)
  exact ⟨⟨j + 1, _, rfl, by omega, by omega, h15, s12.trans (s15.mono (by omega) (Nat.le_refl _)), srt12.of_out s15 (.inl (Nat.le_refl _)), ((m12.trans_no m13).trans_no m14).trans m15⟩, by simp only; omega⟩
end

/-- The general sort. -/
theorem pdq_ok (e : TypeId) (d : Option Addr) (l c : Nat) (hl : l < 4611686018427387904) : ∀ (n a b : Nat) (lim : Int) (xs : List ByteArray) (w : World), b - a ≤ n → Els Value.string e w d l c xs → a ≤ b → b ≤ l → Bel xs a b → ∀ R : Value → World → Prop,
    (∀ w' ys, Els Value.string e w' d l c ys → Seg a b xs ys → Srt ys a b → Mod (rowB d) w w' → R (.tuple #[]) w') →
    Ca Tryz.prog 104 #[.slice d l c, .int .i64 a, .int .i64 b, .int .i64 lim] w R := by
  intro n
  induction n using Nat.strongRecOn with
  | _ n ih =>
  intro a b lim xs w hn hd hab hb hbel R h
  refine ca104 d l c a b lim w R ?_
  refine ⟨fun x y _ _ _ w' => ∃ (a' b' : Nat) (ys : List ByteArray), x = a' ∧ y = b' ∧ a ≤ a' ∧ a' ≤ b' ∧ b' ≤ b ∧ Els Value.string e w' d l c ys ∧ Seg a b xs ys ∧ Alm ys a b a' b' ∧ Bel ys a' b' ∧ Mod (rowB d) w w', fun x y _ _ _ _ => (y - x).toNat,
    ⟨a, b, xs, rfl, rfl, Nat.le_refl _, hab, Nat.le_refl _, hd, Seg.refl _ _ _, Alm.start _ _ _, hbel, Mod.refl _ _⟩, ?_⟩
  rintro _ _ _ lim' b6 b7 w1 ⟨a', b', ys, rfl, rfl, ha, hab', hb', h1, s1, alm1, bel1, m1⟩
  have sorted : ∀ w' zs, Els Value.string e w' d l c zs → Seg a' b' ys zs → Srt zs a' b' → Mod (rowB d) w1 w' → R (.tuple #[]) w' := fun w' zs hz sz srt mz =>
    h w' zs hz (s1.trans (sz.mono ha hb')) ((alm1.seg sz ha hb' (h1.le hb)).full srt) (m1.trans mz)
  rw [wD (i := b') (j := a') (by omega) hab']
  refine ifK_dec (fun _ => ?_) (fun hlen => ?_)
  · exact insertion_ok e d l c a' b' ys w1 h1 hab' (by omega) hl _ fun w2 zs h2 s2 srt2 m2 => ⟨rfl, sorted w2 zs h2 s2 srt2 m2⟩
  have hlen : a' + 12 < b' := by omega
  refine ifK_of (fun _ => ?_) (fun _ => ?_)
  · exact heapSort_ok e d l c ys w1 h1 hl a' b' (by omega) (by omega) _ fun w2 zs h2 s2 srt2 m2 => ⟨rfl, sorted w2 zs h2 s2 srt2 m2⟩
  -- a part of another order is as good
  refine ⟨fun _ w' => ∃ zs, Els Value.string e w' d l c zs ∧ Seg a' b' ys zs ∧ Mod (rowB d) w1 w', ?_, ?_⟩
  · refine ifK_of (fun _ => ?_) (fun _ => ⟨ys, h1, Seg.refl _ _ _, Mod.refl _ _⟩)
    exact breakP_ok e d l c ys w1 h1 hl a' b' (by omega) (by omega) _ fun w2 zs h2 s2 m2 => ⟨rfl, zs, h2, s2, m2⟩
  rintro _ lim2 w2 ⟨zs, h2, s2, m2⟩
  refine choosePivot_ok e d l c zs w2 h2 hl a' b' (by omega) (by omega) _ fun w3 p hint hp1 hp2 m3 => ⟨_, _, rfl, ?_⟩
  refine ⟨fun x _ w' => ∃ (p : Nat) (us : List ByteArray), x = p ∧ a' ≤ p ∧ p < b' ∧ Els Value.string e w' d l c us ∧ Seg a' b' ys us ∧ Mod (rowB d) w1 w', ?_, ?_⟩
  · refine ifK_of (fun _ => ?_) (fun _ => ⟨p, zs, rfl, hp1, hp2, h2.no m3, s2, m2.trans_no m3⟩)
    refine reverse_ok e d l c zs w3 (h2.no m3) hl a' b' (by omega) (by omega) _ fun w4 us h4 s4 m4 => ⟨rfl, b' - 1 - (p - a'), us, ?_, by omega, by omega, h4, s2.trans s4, (m2.trans_no m3).trans m4⟩
    rw [wP (i := b') (by omega) (by omega), wD (i := p) (j := a') (by omega) hp1, wD (by omega) (by omega)]
  rintro _ _ hint2 w5 ⟨p, us, rfl, hp1, hp2, h5, s5, m5⟩
  refine ⟨fun w' => ∃ vs, Els Value.string e w' d l c vs ∧ Seg a' b' ys vs ∧ Mod (rowB d) w1 w', ?_, ?_⟩
  · refine ifK_of (fun _ => ifK_of (fun _ => ifK_of (fun _ => ?_) (fun _ => ⟨us, h5, s5, m5⟩)) (fun _ => ⟨us, h5, s5, m5⟩)) (fun _ => ⟨us, h5, s5, m5⟩)
    refine partial_ok e d l c us w5 h5 hl a' b' (by omega) (by omega) (bel1.seg s5 (h1.le (by omega))) _ fun w6 vs q h6 s6 srt6 m6 => ⟨q, rfl, ?_⟩
    exact ifK_of (fun hq => sorted w6 vs h6 (s5.trans s6) (srt6 hq) (m5.trans m6)) (fun _ => ⟨vs, h6, s5.trans s6, m5.trans m6⟩)
  rintro _ w7 ⟨vs, h7, s7, m7⟩
  have s7' : Seg a b xs vs := s1.trans (s7.mono ha hb')
  have m7' := m1.trans m7
  have alm7 := alm1.seg s7 ha hb' (h1.le hb)
  have bel7 := bel1.seg s7 (h1.le (by omega))
  -- parted into less and more
  refine ⟨fun x w' => x = (a' : Int) ∧ Els Value.string e w' d l c vs ∧ Mod (rowB d) w w', ?_, ?_⟩
  · intro w8 e8
    have m8 : Mod no w7 w8 := by subst e8; exact Mod.drew _
    clear e8
    refine ifK_dec (fun ha0 => ?_) (fun _ => ⟨rfl, h7.no m8, m7'.trans_no m8⟩)
    have ha0 : 0 < a' := by omega
    rw [wP (i := a') (by omega) ha0]
    refine nls (h7.no m8) (a' - 1) p rfl rfl (by omega) (by omega) (fun hge => ?_) (fun _ => ⟨rfl, h7.no m8, m7'.trans_no m8⟩)
    have hmin : ∀ k, a' ≤ k → k < b' → at0 vs p ≤ at0 vs k := fun k h8 h9 => Lin.tr (Lin.nlt hge) (bel7 ha0 k h8 h9)
    refine partEq_ok e d l c vs w8 (h7.no m8) hl a' b' p hp1 hp2 (by omega) hmin _ fun w9 ts m h9 s9 eq9 m9 => ⟨_, rfl, ?_⟩
    have hm1 := eq9.am
    have hm2 := eq9.mb
    exact ⟨⟨m, b', ts, rfl, rfl, by omega, hm2, hb', h9, s7'.trans (s9.mono ha hb'), (alm7.seg s9 ha hb' (h7.le hb)).eqd eq9, eq9.bel, (m7'.trans_no m8).trans m9⟩, by simp only; omega⟩
  rintro _ _ w10 ⟨rfl, h10, m10⟩
  refine partition_ok e d l c vs w10 h10 hl a' b' p hp1 hp2 (by omega) _ fun w11 ts m q h11 s11 pt11 m11 => ⟨_, _, rfl, by decide, ?_⟩
  have hm1 := pt11.am
  have hm2 := pt11.mb
  have s11' : Seg a b xs ts := s7'.trans (s11.mono ha hb')
  have alm11 := alm7.seg s11 ha hb' (h7.le hb)
  have bel11 := bel7.seg s11 (h7.le (by omega))
  have m11' := m10.trans m11
  rw [wS (i := m) (by omega)]
  refine ifK_of (fun _ => ?_) (fun _ => ?_)
  · refine ih (m - a') (by omega) a' m lim2 ts w11 (Nat.le_refl _) h11 hm1 (by omega) (bel11.mono (by omega)) _ fun w12 rs h12 s12 srt12 m12 => ⟨rfl, ?_⟩
    have pt12 := pt11.left (h11.le (by omega)) s12
    exact ⟨⟨m + 1, b', rs, rfl, rfl, by omega, by omega, hb', h12, s11'.trans (s12.mono (by omega) (by omega)), (alm11.seg (s12.mono (Nat.le_refl _) (by omega)) ha hb' (h11.le hb)).left pt12 srt12, pt12.bel, m11'.trans m12⟩, by simp only; omega⟩
  · refine ih (b' - (m + 1)) (by omega) (m + 1) b' lim2 ts w11 (Nat.le_refl _) h11 (by omega) (by omega) pt11.bel _ fun w12 rs h12 s12 srt12 m12 => ⟨rfl, ?_⟩
    have pt12 := pt11.right (h11.le (by omega)) s12
    exact ⟨⟨a', m, rs, rfl, rfl, ha, hm1, by omega, h12, s11'.trans (s12.mono (by omega) (by omega)), (alm11.seg (s12.mono (by omega) (Nat.le_refl _)) ha hb' (h11.le hb)).right pt12 srt12,
      (bel11.seg (s12.mono (by omega) (Nat.le_refl _)) (h11.le (by omega))).mono (by omega), m11'.trans m12⟩, by simp only; omega⟩

theorem sort_ok (e : TypeId) (d : Option Addr) (l c : Nat) (xs : List ByteArray) (w : World) (hd : Els Value.string e w d l c xs) (hl : l < 4611686018427387904) (R : Value → World → Prop)
    (h : ∀ w' ys, Els Value.string e w' d l c ys → ys.Perm xs → Srt ys 0 l → Mod (rowB d) w w' → R (.tuple #[]) w') :
    Ca Tryz.prog 87 #[.slice d l c] w R := by
  refine ca87 d l c w R ?_
  refine bitsLen_ok _ w _ fun n _ => ⟨n, rfl, ?_⟩
  exact pdq_ok e d l c hl l 0 l n xs w (Nat.le_refl _) hd (Nat.zero_le _) (Nat.le_refl _) (fun h => absurd h (by omega)) _ fun w' ys h1 h2 h3 h4 => ⟨rfl, h w' ys h1 h2.perm h3 h4⟩
end Go.Proofs.YtehhhkcemmfjpaaGreatDoor.Sortstring

/- The table's Bind. -/
namespace Go.Proofs.YtehhhkcemmfjpaaGreatDoor
open Go Go.Proofs.YtehhhkcemmfjpaaGreatDoor Go.Proofs.YtehhhkcemmfjpaaGreatDoor.St

def bindR (b : Bnd) (D : List Exc) (B : List Bnd) : Int := if nameB b.q = false then 2 else if hx b.x D = false then 3 else if mayB (fx b.x D) b.p = false then 2 else if b ∈ B then 0 else if B.length ≥ 32 then 5 else 0
def bindB (b : Bnd) (D : List Exc) (B : List Bnd) : List Bnd := if nameB b.q = true ∧ hx b.x D = true ∧ mayB (fx b.x D) b.p = true ∧ b ∉ B ∧ B.length < 32 then B ++ [b] else B
theorem setB (b : Bnd) : ∀ {B : List Bnd}, b ∈ B → setG b (.agg ⟨[]⟩) (bnL B) = bnL B
  | [], h => by cases h
  | x :: B, h => by
    simp only [bnL, List.map_cons, setG]
    by_cases he : b = x
    · subst he
      rw [if_pos (beq_self_eq_true _)]
    · rw [if_neg (fun h' => he (eq_of_beq h'))]
      congr 1
      exact setB b ((List.mem_cons.1 h).resolve_left he)
theorem put_b {w : World} {m : Nat} {B : List Bnd} (h : BMap w m B) (b : Bnd) :
    ∃ w', Sem.run Tryz.prog (Instr.mapUpdate 68 (.map (some m)) (.agg ⟨b.cs⟩) (.agg ⟨[]⟩)) w = Result.ok () w' ∧ Mod (on m) w w' ∧ BMap w' m (if b ∈ B then B else B ++ [b]) := by
  obtain ⟨w', h1, h2, h3⟩ := update_k (keys_bnd bnd_s) Tryz.underlying68 h b trivial (fun _ _ => trivial) (.agg ⟨[]⟩)
  refine ⟨w', h1, h2, ?_⟩
  by_cases hb : b ∈ B
  · rw [if_pos hb]
    rw [setB b hb] at h3
    exact h3
  · rw [if_neg hb]
    rw [setG_none (by rw [bnL_fst]; exact hb)] at h3
    have : bnL (B ++ [b]) = bnL B ++ [(b, .agg ⟨[]⟩)] := by rw [bnL, List.map_append]; rfl
    rw [BMap, this]
    exact h3

theorem bind_ok {w : World} {t m1 m2 : Nat} {D : List Exc} {B : List Bnd} (hT : Tbl w t m1 m2 D B) (b : Bnd) (hs : b.p.size < 1000000000) (R : Value → World → Prop) (h : ∀ w', Tbl w' t m1 m2 D (bindB b D B) → Mod (on m2) w w' → R (.int .i64 (bindR b D B)) w') :
    Ca Tryz.prog 21 #[.pointer (some ⟨t, 0, none⟩), .agg ⟨b.cs⟩] w R := by
  refine (ca21 (some ⟨t, 0, none⟩) b.x b.q b.p w R ?_ : Ca _ _ _ _ _)
  intro w0 e0
  have n0 : Mod no w w0 := by subst e0; exact Mod.alloc _ _
  have b0 : Bc w0 w.heap.size b := by subst e0; exact new_at _ _
  clear e0
  have hT0 := hT.no n0
  refine made_ok hT0 _ ⟨true, rfl, ifK_of (fun h => by cases h) fun _ => ?_⟩
  refine ⟨fun p o w' => ∃ k, p = some ⟨k, 0, none⟩ ∧ Xc w' k (fx b.x D) ∧ o = hx b.x D ∧ Bc w' w.heap.size b ∧ Tbl w' t m1 m2 D B ∧ Mod no w w', ?_, ?_⟩
  · intro w11 e11
    have n11 : Mod no w0 w11 := by subst e11; exact Mod.drew _
    clear e11
    have b11 := n11.at' b0
    have n011 := n0.trans n11
    have hT11 := hT.no n011
    refine ⟨some m1, by rw [cl1 hT11.cell]; rfl, _, by rw [cl1 b11]; rfl, ⟨_, _, look_x hT11.x b.x, _, _, _, _, rfl, ?_⟩, ?_⟩
    · intro w21 e21
      have n21 : Mod no w11 w21 := by subst e21; exact Mod.alloc _ _
      have b21 : Xc w21 w11.heap.size exc0 := by subst e21; exact new_at _ _
      clear e21
      have hT21 := hT11.no n21
      have bx := n21.at' b11
      refine ⟨by rw [cl2 hT21.cell]; rfl, by rw [cl2 bx]; rfl, put3 b21 fun w27 n27 b27 => ?_⟩
      have n1127 : Mod no w11 w27 := n21.new n27 fun k hk => by cases hk; exact Nat.le_refl _
      exact ⟨_, rfl, b27, rfl, n1127.at' b11, hT11.no n1127, n011.trans n1127⟩
    · intro w21 e21
      have n21 : Mod no w11 w21 := by subst e21; exact Mod.alloc _ _
      have b21 : Xc w21 w11.heap.size exc0 := by subst e21; exact new_at _ _
      clear e21
      have hT21 := hT11.no n21
      have bx := n21.at' b11
      refine ⟨by rw [cl2 hT21.cell]; rfl, by rw [cl2 bx]; rfl, _, _, look_x hT21.x b.x, _, _, _, _, rfl, put3 b21 fun w27 n27 b27 => ?_⟩
      have n1127 : Mod no w11 w27 := n21.new n27 fun k hk => by cases hk; exact Nat.le_refl _
      exact ⟨_, rfl, b27, rfl, n1127.at' b11, hT11.no n1127, n011.trans n1127⟩
  rintro _ _ _ w38 ⟨k, rfl, bk, rfl, bx, hT38, n38⟩
  refine ⟨fun o w' => o = decide (b ∈ B) ∧ Xc w' k (fx b.x D) ∧ Bc w' w.heap.size b ∧ Tbl w' t m1 m2 D B ∧ Mod no w w', ?_, ?_⟩
  · intro w40 e40
    have n40 : Mod no w38 w40 := by subst e40; exact Mod.drew _
    clear e40
    have hT40 := hT38.no n40
    have b40 := n40.at' bx
    have k40 := n40.at' bk
    have n040 := n38.trans n40
    refine ⟨some m2, by rw [cl1 hT40.cell]; rfl, _, by rw [cl1 b40]; rfl, _, by rw [cl1 b40]; rfl, _, by rw [cl1 b40]; rfl, ⟨_, _, look_b hT40.b b, _, rfl, ?_⟩, ?_⟩
    · intro w49 e49
      have n49 : Mod no w40 w49 := by subst e49; exact Mod.alloc _ _
      clear e49
      have hT49 := hT40.no n49
      have b49 := n49.at' b40
      exact ⟨by rw [cl2 hT49.cell]; rfl, by rw [cl1 b49]; rfl, by rw [cl1 b49]; rfl, by rw [cl1 b49]; rfl, rfl, n49.at' k40, b49, hT49, n040.trans n49⟩
    · intro w49 e49
      have n49 : Mod no w40 w49 := by subst e49; exact Mod.alloc _ _
      clear e49
      have hT49 := hT40.no n49
      have b49 := n49.at' b40
      exact ⟨by rw [cl2 hT49.cell]; rfl, by rw [cl1 b49]; rfl, by rw [cl1 b49]; rfl, by rw [cl1 b49]; rfl, _, _, look_b hT49.b b, _, rfl, rfl, n49.at' k40, b49, hT49, n040.trans n49⟩
  rintro _ _ w56 ⟨rfl, bk, bx, hT56, n56⟩
  refine ⟨_, by rw [cl1 bx]; rfl, name_ok _ _ _ fun w59 n59 => ⟨_, rfl, ?_⟩⟩
  have n059 := n56.trans n59
  have hT59 := hT56.no n59
  have bk := n59.at' bk
  have bx := n59.at' bx
  refine ifK_of (fun hn => ?_) fun hn => ?_
  · have hn : nameB b.q = false := by simpa using hn
    have h' := h w59 (by rw [bindB, if_neg (fun hh => by rw [hn] at hh; cases hh.1)]; exact hT59) n059.of_no
    rw [bindR, if_pos hn] at h'
    exact h'
  have hn : nameB b.q = true := by simpa using hn
  refine ifK_of (fun hh => ?_) fun hh => ?_
  · have hh : hx b.x D = false := by simpa using hh
    have h' := h w59 (by rw [bindB, if_neg (fun hc => by rw [hh] at hc; cases hc.2.1)]; exact hT59) n059.of_no
    rw [bindR, if_neg (by rw [hn]; decide), if_pos hh] at h'
    exact h'
  have hh : hx b.x D = true := by simpa using hh
  refine ⟨_, by rw [cl1 bk]; rfl, _, by rw [cl1 bk]; rfl, _, by rw [cl1 bk]; rfl, _, by rw [cl1 bx]; rfl, ?_⟩
  refine (may_ok (fx b.x D) b.p w59 hs _ fun w67 n67 => ?_ : Ca _ _ _ _ _)
  refine ⟨_, rfl, ?_⟩
  have n067 := n059.trans n67
  have hT67 := hT59.no n67
  have bx := n67.at' bx
  refine ifK_of (fun hm => ?_) fun hm => ?_
  · have hm : mayB (fx b.x D) b.p = false := by simpa using hm
    have h' := h w67 (by rw [bindB, if_neg (fun hc => by rw [hm] at hc; cases hc.2.2.1)]; exact hT67) n067.of_no
    rw [bindR, if_neg (by rw [hn]; decide), if_neg (by rw [hh]; decide), if_pos hm] at h'
    exact h'
  have hm : mayB (fx b.x D) b.p = true := by simpa using hm
  have put : ∀ w', Mod no w w' → Tbl w' t m1 m2 D B → Bc w' w.heap.size b → (b ∈ B ∨ B.length < 32) →
      atW w'.drew fun w72 => ∃ p74 : Option Nat, w72.cell? (Addr.add ⟨t, 0, none⟩ 1) = some (.map p74) ∧ ∃ s75 : ByteArray, w72.cell? (Addr.add ⟨w.heap.size, 0, none⟩ 0) = some (.string s75) ∧ ∃ s76 : ByteArray, w72.cell? (Addr.add ⟨w.heap.size, 0, none⟩ 1) = some (.string s76) ∧
        ∃ s77 : ByteArray, w72.cell? (Addr.add ⟨w.heap.size, 0, none⟩ 2) = some (.string s77) ∧ ∃ w78 : World, Sem.run Tryz.prog (Instr.mapUpdate 68 (.map p74) (.agg ⟨[.string s75, .string s76, .string s77]⟩) (.agg ⟨[]⟩)) w72 = Result.ok () w78 ∧ R (.int .i64 0) w78 := by
    intro w' nw hTw bw hor w72 e72
    have n72 : Mod no w' w72 := by subst e72; exact Mod.drew _
    clear e72
    have hT72 := hTw.no n72
    have b72 := n72.at' bw
    obtain ⟨w78, hr, n78, hb78⟩ := put_b hT72.b b
    refine ⟨some m2, by rw [cl1 hT72.cell]; rfl, _, by rw [cl1 b72]; rfl, _, by rw [cl1 b72]; rfl, _, by rw [cl1 b72]; rfl, w78, hr, ?_⟩
    have hT78 : ∀ B' : List Bnd, B'.Nodup → BMap w78 m2 B' → Tbl w78 t m1 m2 D B' := fun B' h1 h2 => ⟨n78.at hT72.cell hT.t2, hT72.x.mod n78 hT.ne, h2, hT.ne, hT.dn, h1⟩
    by_cases hb : b ∈ B
    · rw [if_pos hb] at hb78
      have h' := h w78 (by rw [bindB, if_neg (fun hc => hc.2.2.2.1 hb)]; exact hT78 B hT.bn hb78) ((nw.trans n72).no_trans n78)
      rw [bindR, if_neg (by rw [hn]; decide), if_neg (by rw [hh]; decide), if_neg (by rw [hm]; decide), if_pos hb] at h'
      exact h'
    · rw [if_neg hb] at hb78
      have hl : B.length < 32 := hor.resolve_left hb
      have h' := h w78 (by
        rw [bindB, if_pos ⟨hn, hh, hm, hb, hl⟩]
        refine hT78 (B ++ [b]) ?_ hb78
        rw [List.nodup_append]
        refine ⟨hT.bn, by simp, fun x hx y hy => ?_⟩
        simp only [List.mem_singleton] at hy
        rintro rfl
        exact hb (hy ▸ hx)) ((nw.trans n72).no_trans n78)
      rw [bindR, if_neg (by rw [hn]; decide), if_neg (by rw [hh]; decide), if_neg (by rw [hm]; decide), if_neg hb, if_neg (by omega)] at h'
      exact h'
  refine ifK_not (fun hb => ?_) (fun hb => put w67 n067 hT67 bx (.inl (of_decide_eq_true hb)))
  have hb : b ∉ B := of_decide_eq_false hb
  obtain ⟨es, clock, hes, hlen⟩ := bmap_len hT67.b
  refine ⟨some m2, by rw [cl1 hT67.cell]; rfl, es, clock, hes, ifK_dec (fun hge => ?_) (fun hlt => put w67 n067 hT67 bx (.inr (by omega)))⟩
  have h' := h w67 (by rw [bindB, if_neg (fun hc => by have := hc.2.2.2.2; omega)]; exact hT67) n067.of_no
  rw [bindR, if_neg (by rw [hn]; decide), if_neg (by rw [hh]; decide), if_neg (by rw [hm]; decide), if_neg hb, if_pos (by omega)] at h'
  exact h'
end Go.Proofs.YtehhhkcemmfjpaaGreatDoor

/- The formulas of functions, printed by a program of mine (gen.py) out of the translation. -/
namespace Go.Proofs.YtehhhkcemmfjpaaGreatDoor
open Go Go.Proofs.YtehhhkcemmfjpaaGreatDoor.St
open _root_.Go.Value (string int bool slice pointer agg tuple map func nilFunc iface)
open _root_.Go.World (cell? frozen? setCell alloc drew)
open _root_.Go.Addr (add)
open _root_.Go.Obj (cells)
open _root_.Go.IntKind (wrap i64 u64 i32 u32 u8)
set_option maxRecDepth 100000

/-- (*staith/bind.Table).Exchanges -/
noncomputable def C15 : Code := (Tryz.f15.body).getD .skip
def pl15 : Nat → Plan := fun _ => .done
def ls15 : Nat → List (Nat × LT) := fun _ => []
def W15 (t : Option Addr) (w : World) (R : Value → World → Prop) : Prop :=
  (Ca Tryz.prog (44) (Array.mk [pointer t]) (w) (fun v0 => (fun w1 =>
(∃ b2 : Bool, ((v0 = bool b2) ∧ (ifK (!b2)
(R (slice none 0 0) (w1))
(onP (t) (fun a3 =>
(∃ p4 : Option Nat, ((cell? w1 (add a3 0) = some (map p4)) ∧ (Ca Tryz.prog (46) (Array.mk [map p4]) (w1) (fun v5 => (fun w6 =>
(∃ v7 : Value, ((v5 = v7) ∧ (Ca Tryz.prog (45) (Array.mk [v7, func (Fn.func 47) #[] #[]]) (w6) (fun v8 => (fun w9 =>
(∃ p10 : Option Addr, (∃ n11 : Nat, (∃ n12 : Nat, ((v8 = slice p10 n11 n12) ∧ (R (slice p10 n11 n12) (w9))))))))))))))))))))))))
theorem ca15 (t : Option Addr) (w : World) (R : Value → World → Prop) (h : W15 t w R) : Ca Tryz.prog 15 ⟨[(.pointer t)]⟩ w R :=
  caB (fn := Tryz.f15) (pl := pl15) (ls := ls15) Tryz.func15 (by kernel_rfl) (by kernel_rfl) h

/-- (*staith/bind.Table).Bindings -/
noncomputable def C16 : Code := (Tryz.f16.body).getD .skip
def pl16 : Nat → Plan := fun _ => .done
def ls16 : Nat → List (Nat × LT) := fun _ => []
def W16 (t : Option Addr) (w : World) (R : Value → World → Prop) : Prop :=
  (Ca Tryz.prog (44) (Array.mk [pointer t]) (w) (fun v0 => (fun w1 =>
(∃ b2 : Bool, ((v0 = bool b2) ∧ (ifK (!b2)
(R (slice none 0 0) (w1))
(onP (t) (fun a3 =>
(∃ p4 : Option Nat, ((cell? w1 (add a3 1) = some (map p4)) ∧ (Ca Tryz.prog (50) (Array.mk [map p4]) (w1) (fun v5 => (fun w6 =>
(∃ v7 : Value, ((v5 = v7) ∧ (Ca Tryz.prog (49) (Array.mk [v7, func (Fn.func 51) #[] #[]]) (w6) (fun v8 => (fun w9 =>
(∃ p10 : Option Addr, (∃ n11 : Nat, (∃ n12 : Nat, ((v8 = slice p10 n11 n12) ∧ (R (slice p10 n11 n12) (w9))))))))))))))))))))))))
theorem ca16 (t : Option Addr) (w : World) (R : Value → World → Prop) (h : W16 t w R) : Ca Tryz.prog 16 ⟨[(.pointer t)]⟩ w R :=
  caB (fn := Tryz.f16) (pl := pl16) (ls := ls16) Tryz.func16 (by kernel_rfl) (by kernel_rfl) h

/-- slices.SortedFunc[staith/api.Exchange] -/
noncomputable def C45 : Code := (Tryz.f45.body).getD .skip
def pl45 : Nat → Plan := fun _ => .done
def ls45 : Nat → List (Nat × LT) := fun _ => []
def W45 (seq : Value) (cmp : Value) (w : World) (R : Value → World → Prop) : Prop :=
  (Ca Tryz.prog (75) (Array.mk [seq]) (w) (fun v0 => (fun w1 =>
(∃ p2 : Option Addr, (∃ n3 : Nat, (∃ n4 : Nat, ((v0 = slice p2 n3 n4) ∧ (Ca Tryz.prog (76) (Array.mk [slice p2 n3 n4, cmp]) (w1) (fun v5 => (fun w6 =>
((v5 = tuple (Array.mk (List.reverse []))) ∧ (R (slice p2 n3 n4) (w6)))))))))))))
theorem ca45 (seq : Value) (cmp : Value) (w : World) (R : Value → World → Prop) (h : W45 seq cmp w R) : Ca Tryz.prog 45 ⟨[seq, cmp]⟩ w R :=
  caB (fn := Tryz.f45) (pl := pl45) (ls := ls45) Tryz.func45 (by kernel_rfl) (by kernel_rfl) h

/-- maps.Values[map[string]staith/api.Exchange,string,staith/api.Exchange] -/
noncomputable def C46 : Code := (Tryz.f46.body).getD .skip
def pl46 : Nat → Plan := fun _ => .done
def ls46 : Nat → List (Nat × LT) := fun _ => []
def W46 (m : Option Nat) (w : World) (R : Value → World → Prop) : Prop :=
  (atW (alloc w (cells (Array.mk [map m]) 67 (0, 0))) (fun w0 =>
(R (func (Fn.func 77) (Array.mk []) (Array.mk [pointer (some (nw w))])) (w0))))
theorem ca46 (m : Option Nat) (w : World) (R : Value → World → Prop) (h : W46 m w R) : Ca Tryz.prog 46 ⟨[(.map m)]⟩ w R :=
  caB (fn := Tryz.f46) (pl := pl46) (ls := ls46) Tryz.func46 (by kernel_rfl) (by kernel_rfl) h

/-- slices.SortedFunc[staith/api.Binding] -/
noncomputable def C49 : Code := (Tryz.f49.body).getD .skip
def pl49 : Nat → Plan := fun _ => .done
def ls49 : Nat → List (Nat × LT) := fun _ => []
def W49 (seq : Value) (cmp : Value) (w : World) (R : Value → World → Prop) : Prop :=
  (Ca Tryz.prog (79) (Array.mk [seq]) (w) (fun v0 => (fun w1 =>
(∃ p2 : Option Addr, (∃ n3 : Nat, (∃ n4 : Nat, ((v0 = slice p2 n3 n4) ∧ (Ca Tryz.prog (80) (Array.mk [slice p2 n3 n4, cmp]) (w1) (fun v5 => (fun w6 =>
((v5 = tuple (Array.mk (List.reverse []))) ∧ (R (slice p2 n3 n4) (w6)))))))))))))
theorem ca49 (seq : Value) (cmp : Value) (w : World) (R : Value → World → Prop) (h : W49 seq cmp w R) : Ca Tryz.prog 49 ⟨[seq, cmp]⟩ w R :=
  caB (fn := Tryz.f49) (pl := pl49) (ls := ls49) Tryz.func49 (by kernel_rfl) (by kernel_rfl) h

/-- maps.Keys[map[staith/api.Binding]struct{},staith/api.Binding,struct{}] -/
noncomputable def C50 : Code := (Tryz.f50.body).getD .skip
def pl50 : Nat → Plan := fun _ => .done
def ls50 : Nat → List (Nat × LT) := fun _ => []
def W50 (m : Option Nat) (w : World) (R : Value → World → Prop) : Prop :=
  (atW (alloc w (cells (Array.mk [map m]) 68 (0, 0))) (fun w0 =>
(R (func (Fn.func 81) (Array.mk []) (Array.mk [pointer (some (nw w))])) (w0))))
theorem ca50 (m : Option Nat) (w : World) (R : Value → World → Prop) (h : W50 m w R) : Ca Tryz.prog 50 ⟨[(.map m)]⟩ w R :=
  caB (fn := Tryz.f50) (pl := pl50) (ls := ls50) Tryz.func50 (by kernel_rfl) (by kernel_rfl) h

/-- slices.Collect[staith/api.Exchange] -/
noncomputable def C75 : Code := (Tryz.f75.body).getD .skip
def pl75 : Nat → Plan := fun _ => .done
def ls75 : Nat → List (Nat × LT) := fun _ => []
def W75 (seq : Value) (w : World) (R : Value → World → Prop) : Prop :=
  (Ca Tryz.prog (98) (Array.mk [slice none 0 0, seq]) (w) (fun v0 => (fun w1 =>
(∃ p2 : Option Addr, (∃ n3 : Nat, (∃ n4 : Nat, ((v0 = slice p2 n3 n4) ∧ (R (slice p2 n3 n4) (w1)))))))))
theorem ca75 (seq : Value) (w : World) (R : Value → World → Prop) (h : W75 seq w R) : Ca Tryz.prog 75 ⟨[seq]⟩ w R :=
  caB (fn := Tryz.f75) (pl := pl75) (ls := ls75) Tryz.func75 (by kernel_rfl) (by kernel_rfl) h

/-- maps.Values[map[string]staith/api.Exchange,string,staith/api.Exchange]$1 -/
noncomputable def C77 : Code := (Tryz.f77.body).getD .skip
def pl77 : Nat → Plan := fun _ => .done
def ls77 : Nat → List (Nat × LT)
  | 1 => []
  | _ => []
def W77 (yield : Value) (c0 : Option Addr) (w : World) (R : Value → World → Prop) : Prop :=
  (onP (c0) (fun a0 =>
(∃ p1 : Option Nat, ((cell? w a0 = some (map p1)) ∧ (rngM (p1) (w) (fun v2 => (fun w3 =>
(∃ z4 : World → Prop, (∃ z5 : World → Nat, ((z4 (w3)) ∧ (∀ (_ : Nat → Value), (∀ (w7 : World), ((z4 (w7)) → (nxtM Tryz.prog (0) (v2) (w7) (fun _ => (fun _ => (fun w10 =>
(∃ v11 : Value, (∃ v12 : Value, ((Sem.run Tryz.prog (Instr.entry v2) w10 = Result.ok (tuple #[v11, v12]) w10) ∧ (atW (alloc w10 (cells (Array.mk [string (ByteArray.mk #[]), int i64 0, bool false]) 33 (0, 0))) (fun w13 =>
(bif Nat.beq (Array.size (Value.cells v12)) 3 then
(stCells (Array.toList (Value.cells v12)) (nw w10) 0 w13 fun x => ∃ s, cell? x (add (nw w10) 0) = some (string s) ∧ ∃ x_1, cell? x (add (nw w10) 1) = some (int i64 x_1) ∧ ∃ b, cell? x (add (nw w10) 2) = some (bool b) ∧ CaV Tryz.prog yield (Array.mk [agg (Array.mk (List.reverse [bool b, int i64 x_1, string s]))]) x fun v w' => ∃ b, v = bool b ∧ ifK (!b) (R (tuple (Array.mk (List.reverse []))) w') (z4 w' ∧ z5 w' < z5 w7))
else
False))))))))) (fun w14 =>
(R (tuple (Array.mk (List.reverse []))) (w14)))))))))))))))))
theorem ca77 (yield : Value) (c0 : Option Addr) (w : World) (R : Value → World → Prop) (h : W77 yield c0 w R) : Ca Tryz.prog 77 ⟨[yield, (.pointer c0)]⟩ w R :=
  caB (fn := Tryz.f77) (pl := pl77) (ls := ls77) Tryz.func77 (by kernel_rfl) (by kernel_rfl) h

/-- slices.Collect[staith/api.Binding] -/
noncomputable def C79 : Code := (Tryz.f79.body).getD .skip
def pl79 : Nat → Plan := fun _ => .done
def ls79 : Nat → List (Nat × LT) := fun _ => []
def W79 (seq : Value) (w : World) (R : Value → World → Prop) : Prop :=
  (Ca Tryz.prog (101) (Array.mk [slice none 0 0, seq]) (w) (fun v0 => (fun w1 =>
(∃ p2 : Option Addr, (∃ n3 : Nat, (∃ n4 : Nat, ((v0 = slice p2 n3 n4) ∧ (R (slice p2 n3 n4) (w1)))))))))
theorem ca79 (seq : Value) (w : World) (R : Value → World → Prop) (h : W79 seq w R) : Ca Tryz.prog 79 ⟨[seq]⟩ w R :=
  caB (fn := Tryz.f79) (pl := pl79) (ls := ls79) Tryz.func79 (by kernel_rfl) (by kernel_rfl) h

/-- maps.Keys[map[staith/api.Binding]struct{},staith/api.Binding,struct{}]$1 -/
noncomputable def C81 : Code := (Tryz.f81.body).getD .skip
def pl81 : Nat → Plan := fun _ => .done
def ls81 : Nat → List (Nat × LT)
  | 1 => []
  | _ => []
def W81 (yield : Value) (c0 : Option Addr) (w : World) (R : Value → World → Prop) : Prop :=
  (onP (c0) (fun a0 =>
(∃ p1 : Option Nat, ((cell? w a0 = some (map p1)) ∧ (rngM (p1) (w) (fun v2 => (fun w3 =>
(∃ z4 : World → Prop, (∃ z5 : World → Nat, ((z4 (w3)) ∧ (∀ (_ : Nat → Value), (∀ (w7 : World), ((z4 (w7)) → (nxtM Tryz.prog (0) (v2) (w7) (fun _ => (fun _ => (fun w10 =>
(∃ v11 : Value, (∃ v12 : Value, ((Sem.run Tryz.prog (Instr.entry v2) w10 = Result.ok (tuple #[v11, v12]) w10) ∧ (atW (alloc w10 (cells (Array.mk [string (ByteArray.mk #[]), string (ByteArray.mk #[]), string (ByteArray.mk #[])]) 35 (0, 0))) (fun w13 =>
(bif Nat.beq (Array.size (Value.cells v11)) 3 then
(stCells (Array.toList (Value.cells v11)) (nw w10) 0 w13 fun x => ∃ s, cell? x (add (nw w10) 0) = some (string s) ∧ ∃ s_1, cell? x (add (nw w10) 1) = some (string s_1) ∧ ∃ s_2, cell? x (add (nw w10) 2) = some (string s_2) ∧ CaV Tryz.prog yield (Array.mk [agg (Array.mk (List.reverse [string s_2, string s_1, string s]))]) x fun v w' => ∃ b, v = bool b ∧ ifK (!b) (R (tuple (Array.mk (List.reverse []))) w') (z4 w' ∧ z5 w' < z5 w7))
else
False))))))))) (fun w14 =>
(R (tuple (Array.mk (List.reverse []))) (w14)))))))))))))))))
theorem ca81 (yield : Value) (c0 : Option Addr) (w : World) (R : Value → World → Prop) (h : W81 yield c0 w R) : Ca Tryz.prog 81 ⟨[yield, (.pointer c0)]⟩ w R :=
  caB (fn := Tryz.f81) (pl := pl81) (ls := ls81) Tryz.func81 (by kernel_rfl) (by kernel_rfl) h

/-- slices.AppendSeq[[]staith/api.Exchange,staith/api.Exchange] -/
noncomputable def C98 : Code := (Tryz.f98.body).getD .skip
def pl98 : Nat → Plan := fun _ => .done
def ls98 : Nat → List (Nat × LT) := fun _ => []
def W98 (sa : Option Addr) (sl : Nat) (sc : Nat) (seq : Value) (w : World) (R : Value → World → Prop) : Prop :=
  (atW (alloc w (cells (Array.mk [slice sa sl sc]) 26 (0, 0))) (fun w0 =>
(rfW Tryz.prog (seq) (w0) (fun v1 => (fun w2 => (fun z3 => (fun z4 =>
(atW (alloc w2 (cells (Array.mk [string (ByteArray.mk #[]), int i64 0, bool false]) 33 (0, 0))) (fun w5 =>
(bif Nat.beq (Array.size (Value.cells v1)) 3 then
(stCells (Array.toList (Value.cells v1)) (nw w2) 0 w5 fun x => z3 (fun x => ∃ a l c, cell? x (nw w) = some (slice a l c) ∧ (fun v w' => ∃ s, cell? w' (add (nw w2) 0) = some (string s) ∧ ∃ x, cell? w' (add (nw w2) 1) = some (int i64 x) ∧ ∃ b, cell? w' (add (nw w2) 2) = some (bool b) ∧ atW (alloc w' (cells (Array.mk [string s, int i64 x, bool b]) 33 (0, 0))) fun w'_1 => ∃ v_1 w'_2, Sem.run Tryz.prog (Builtin.append_ (Array.mk [26, 26]) 26 (Array.mk [v, slice (some (Addr.mk (Array.size (World.heap w')) 0 none)) 1 1])) w'_1 = Result.ok v_1 w'_2 ∧ ∃ a l c, v_1 = slice a l c ∧ (∃ old, cell? w'_2 (add (nw w) 0) = some old) ∧ frozen? w'_2 (add (nw w) 0) = false ∧ atW (setCell w'_2 (add (nw w) 0) (slice a l c)) fun w' => z4 w') (slice a l c) x) x)
else
False))))))) (fun w6 =>
(∃ p7 : Option Addr, (∃ n8 : Nat, (∃ n9 : Nat, ((cell? w6 (nw w) = some (slice p7 n8 n9)) ∧ (((World.heap w6)[Array.size (World.heap w0)]? = some (Obj.deferred (some []))) ∧ (atW (World.putObj w6 (Array.size (World.heap w0)) (Obj.deferred none)) (fun w10 =>
(R (slice p7 n8 n9) (w10)))))))))))))
theorem ca98 (sa : Option Addr) (sl : Nat) (sc : Nat) (seq : Value) (w : World) (R : Value → World → Prop) (h : W98 sa sl sc seq w R) : Ca Tryz.prog 98 ⟨[(.slice sa sl sc), seq]⟩ w R :=
  caB (fn := Tryz.f98) (pl := pl98) (ls := ls98) Tryz.func98 (by kernel_rfl) (by kernel_rfl) h

/-- slices.AppendSeq[[]staith/api.Binding,staith/api.Binding] -/
noncomputable def C101 : Code := (Tryz.f101.body).getD .skip
def pl101 : Nat → Plan := fun _ => .done
def ls101 : Nat → List (Nat × LT) := fun _ => []
def W101 (sa : Option Addr) (sl : Nat) (sc : Nat) (seq : Value) (w : World) (R : Value → World → Prop) : Prop :=
  (atW (alloc w (cells (Array.mk [slice sa sl sc]) 27 (0, 0))) (fun w0 =>
(rfW Tryz.prog (seq) (w0) (fun v1 => (fun w2 => (fun z3 => (fun z4 =>
(atW (alloc w2 (cells (Array.mk [string (ByteArray.mk #[]), string (ByteArray.mk #[]), string (ByteArray.mk #[])]) 35 (0, 0))) (fun w5 =>
(bif Nat.beq (Array.size (Value.cells v1)) 3 then
(stCells (Array.toList (Value.cells v1)) (nw w2) 0 w5 fun x => z3 (fun x => ∃ a l c, cell? x (nw w) = some (slice a l c) ∧ (fun v w' => ∃ s, cell? w' (add (nw w2) 0) = some (string s) ∧ ∃ s_1, cell? w' (add (nw w2) 1) = some (string s_1) ∧ ∃ s_2, cell? w' (add (nw w2) 2) = some (string s_2) ∧ atW (alloc w' (cells (Array.mk [string s, string s_1, string s_2]) 35 (0, 0))) fun w'_1 => ∃ v_1 w'_2, Sem.run Tryz.prog (Builtin.append_ (Array.mk [27, 27]) 27 (Array.mk [v, slice (some (Addr.mk (Array.size (World.heap w')) 0 none)) 1 1])) w'_1 = Result.ok v_1 w'_2 ∧ ∃ a l c, v_1 = slice a l c ∧ (∃ old, cell? w'_2 (add (nw w) 0) = some old) ∧ frozen? w'_2 (add (nw w) 0) = false ∧ atW (setCell w'_2 (add (nw w) 0) (slice a l c)) fun w' => z4 w') (slice a l c) x) x)
else
False))))))) (fun w6 =>
(∃ p7 : Option Addr, (∃ n8 : Nat, (∃ n9 : Nat, ((cell? w6 (nw w) = some (slice p7 n8 n9)) ∧ (((World.heap w6)[Array.size (World.heap w0)]? = some (Obj.deferred (some []))) ∧ (atW (World.putObj w6 (Array.size (World.heap w0)) (Obj.deferred none)) (fun w10 =>
(R (slice p7 n8 n9) (w10)))))))))))))
theorem ca101 (sa : Option Addr) (sl : Nat) (sc : Nat) (seq : Value) (w : World) (R : Value → World → Prop) (h : W101 sa sl sc seq w R) : Ca Tryz.prog 101 ⟨[(.slice sa sl sc), seq]⟩ w R :=
  caB (fn := Tryz.f101) (pl := pl101) (ls := ls101) Tryz.func101 (by kernel_rfl) (by kernel_rfl) h
end Go.Proofs.YtehhhkcemmfjpaaGreatDoor

/- The library's AppendSeq, Collect: of structs of three cells. Exc, excL: their values; 33, 26: their type, and their row's. -/
namespace Go.Proofs.YtehhhkcemmfjpaaGreatDoor.SeqX
open Go Go.Proofs.YtehhhkcemmfjpaaGreatDoor Go.Proofs.YtehhhkcemmfjpaaGreatDoor.St

abbrev aggs (xs : List Exc) : List Value := xs.map fun x => .agg ⟨(excL).cs x⟩
/-- What AppendSeq has gathered: in a box that is the block w.heap.size, in a row of its own. -/
def Got (w : World) (Rdy : World → Prop) (vs : List Value) (w' : World) : Prop :=
  Rdy w' ∧ ∃ (xs : List Exc) (a : Option Addr) (l c : Nat), vs = aggs xs ∧ w'.heap[w.heap.size]? = some (.cells #[.slice a l c] 26 (0, 0)) ∧ Rx excL 33 w' a l c xs ∧ (∀ k, rowB a k → w.heap.size + 3 ≤ k) ∧ w.heap.size + 3 ≤ w'.heap.size
theorem appendSeq_ok (seq : Value) (N : Nat) (S : List Value → Prop) (w : World) (hN : N ≤ 1099511627775) (hseq : SeqOf Tryz.prog seq w.heap.size w N (fun v => ∃ x : Exc, v = .agg ⟨(excL).cs x⟩) S) (R : Value → World → Prop)
    (h : ∀ w' a l c xs, S (aggs xs) → Rx excL 33 w' a l c xs → Mod no w w' → (∀ k, rowB a k → w.heap.size < k) → R (.slice a l c) w') :
    Ca Tryz.prog 98 #[.slice none 0 0, seq] w R := by
  refine ca98 none 0 0 seq w R ?_
  intro w0 e0
  have m0 : Mod no w w0 := by subst e0; exact Mod.alloc _ _
  have b0 : w0.heap[w.heap.size]? = some (.cells #[.slice none 0 0] 26 (0, 0)) := by subst e0; exact new_at _ _
  have s0 : w0.heap.size = w.heap.size + 1 := by subst e0; simp
  clear e0
  refine ⟨hseq.1, ?_⟩
  intro Rdy Bsy hrs hbs hrb w1 m1 s1 hr1 hy
  have b1 := Mod.at' m1 b0
  have hstab : Stab (Got w Rdy) := by
    constructor
    · rintro vs w1 w2 ⟨hr, xs, a, l, c, rfl, hb, hx, hn, hz⟩ hm
      obtain ⟨h1, r, h2⟩ := hrb w1 (.inl hr)
      exact ⟨hrs w1 w2 hr (by rw [hm.at' h1, h1]) (by rw [hm.at' h2, h2]), xs, a, l, c, rfl, hm.at' hb, hx.no hm, hn, Nat.le_trans hz hm.size⟩
    · rintro vs w1 w2 b o ⟨hr, xs, a, l, c, rfl, hb, hx, hn, hz⟩ hbo hit hm
      obtain ⟨h1, r, h2⟩ := hrb w1 (.inl hr)
      have hne : ∀ k o', w1.heap[k]? = some o' → isIt o' = false → ¬ on b k := by
        intro k o' hk hf e
        cases e
        rw [hbo] at hk
        cases hk
        rw [hit] at hf
        cases hf
      refine ⟨hrs w1 w2 hr (by rw [hm.at h1 (hne _ _ h1 rfl), h1]) (by rw [hm.at h2 (hne _ _ h2 rfl), h2]), xs, a, l, c, rfl, hm.at hb (hne _ _ hb rfl), hx.mod hm ?_, hn, Nat.le_trans hz hm.size⟩
      intro k hk2
      rcases Row.block hx with ⟨h0, _⟩ | ⟨g, cur, h0, hg, _⟩
      · subst h0; cases hk2
      · subst h0; cases hk2; exact hne _ _ hg rfl
  refine hseq.2 (Got w Rdy) _ w1 _ (Kp.of_no (m0.trans m1)) hstab ⟨hr1, [], none, 0, 0, rfl, b1, Row.empty _ _ _, (fun k hk => by cases hk), by omega⟩ ?_ ?_
  · rintro pre v w2 hk2 ⟨hr2, xs, a, l, c, rfl, hb2, hx2, hn2, hz2⟩ hlen ⟨x, rfl⟩ R' hR'
    refine (hy (.agg ⟨(excL).cs x⟩) w2 (fun w3 => R' (.bool true) w3) hr2 ?_).mono fun v w3 ⟨hv, hR⟩ => by rw [hv]; exact hR
    intro w5 e5
    have n5 : Mod no w2 w5 := by subst e5; exact Mod.alloc _ _
    have b5 : w5.heap[w2.heap.size]? = some (.cells ([Value.string (ByteArray.mk #[]), Value.int .i64 0, Value.bool false]).toArray 33 (0, 0)) := by subst e5; exact new_at _ _
    clear e5
    refine (stCells_var (vs := (excL).cs x) b5 rfl (fun v hv => (excL).one x v hv) fun wx nx bx => ?_ : stCells _ _ _ _ _)
    have n2x : Mod no w2 wx := n5.new nx fun k hk => by cases hk; exact Nat.le_refl _
    obtain ⟨g1, r, g2⟩ := hrb w2 (.inl hr2)
    refine ⟨hrs w2 wx hr2 (by rw [n2x.at' g1, g1]) (by rw [n2x.at' g2, g2]), fun w6 hbz m6 s6 => ?_⟩
    have hz5 := lt_of_heap bx
    have m26 : Mod (on (w0.heap.size + 1)) w2 w6 := n2x.no_trans m6
    have b6 := m26.at hb2 (show ¬ w.heap.size = w0.heap.size + 1 by omega)
    have v6 := m6.at bx (show ¬ w2.heap.size = w0.heap.size + 1 by omega)
    have x6 : Rx excL 33 w6 a l c xs := hx2.mod m26 fun k hk hS => by cases hS; have := hn2 _ hk; omega
    have hxl := x6.len.1
    have hpl : (aggs xs).length = xs.length := List.length_map ..
    refine ⟨a, l, c, by rw [cl b6]; rfl, _, by rw [cl1 v6]; rfl, _, by rw [cl1 v6]; rfl, _, by rw [cl1 v6]; rfl, ?_⟩
    intro w10 e10
    have m10 : Mod no w6 w10 := by subst e10; exact Mod.alloc _ _
    have b10 : w10.heap[w6.heap.size]? = some (.cells ((excL).cs x).toArray 33 (0, 0)) := by subst e10; exact new_at _ _
    clear e10
    obtain ⟨a', c', w12, hrun, x12, m12, hnew⟩ := Row.push (P := Tryz.prog) (t := 26) (ty := 26) (by kernel_rfl) (x6.no m10) (b := some ⟨w6.heap.size, 0, none⟩) (m := 1) (cc := 1) (ys := [x]) rfl
      (fun ad had j v hj => by cases had; rw [cl1 b10]; simpa using hj) (fun h => by cases h) (by omega)
    have hbox : ¬ rowB a w.heap.size := fun hk => by have := hn2 _ hk; omega
    have b12 := m12.at (m10.at' b6) hbox
    refine ⟨_, w12, hrun, _, _, _, rfl, ⟨_, by rw [cl1 b12]; rfl⟩, fz1 b12 _, ?_⟩
    intro w17 e17
    have m17 : Mod (on w.heap.size) w12 w17 := by subst e17; exact Mod.set1 _ _ _ _
    have b17 : w17.heap[w.heap.size]? = some (.cells #[.slice a' (l + 1) c'] 26 (0, 0)) := by subst e17; rw [set1 b12]; rfl
    clear e17
    have hs6 := m26.size
    have hs10 := m10.size
    have hnew' : ∀ k, rowB a' k → w.heap.size + 3 ≤ k := fun k hk => (hnew k hk).elim (hn2 k) fun h => by omega
    have x17 : Rx excL 33 w17 a' (l + 1) c' (xs ++ [x]) := Rx.mod x12 m17 fun k hk e => by cases e; have := hnew' _ hk; omega
    have mA : Mod (fun k => rowB a k ∨ k = w.heap.size) w6 w17 := (m10.no_trans (m12.mono fun k _ hk => .inl hk)).trans' m17 fun k _ hk => .inr hk
    obtain ⟨h1, r', h2⟩ := hrb w6 (.inr hbz)
    have k1 : ¬ (rowB a w0.heap.size ∨ w0.heap.size = w.heap.size) := fun h => h.elim (fun h => by have := hn2 _ h; omega) (by omega)
    have k2 : ¬ (rowB a (w0.heap.size + 1) ∨ w0.heap.size + 1 = w.heap.size) := fun h => h.elim (fun h => by have := hn2 _ h; omega) (by omega)
    refine ⟨hbs w6 w17 hbz (by rw [mA.at h1 k1, h1]) (by rw [mA.at h2 k2, h2]), fun w3 hr3 m3 s3 => hR' w3 ?_ ?_⟩
    · have mB : Mod (fun k => k = w0.heap.size + 1 ∨ (rowB a k ∨ k = w.heap.size)) w2 w3 := ((m26.mono fun k _ hk => .inl hk).trans' mA fun k _ hk => .inr hk).trans' m3 fun k _ hk => .inl hk
      refine Kp.of_mod mB fun k o ho hk hS => ?_
      rcases hS with rfl | hS | rfl
      · rw [g2] at ho
        cases ho
        rcases hk with hk | hk
        · omega
        · cases hk
      · have := hn2 _ hS
        rcases hk with hk | hk
        · omega
        rcases Row.block hx2 with ⟨h0, _⟩ | ⟨g, cur, h0, hg, _⟩
        · subst h0; cases hS
        · subst h0
          cases hS
          rw [hg] at ho
          cases ho
          cases hk
      · rw [hb2] at ho
        cases ho
        rcases hk with hk | hk
        · omega
        · cases hk
    · refine ⟨hr3, xs ++ [x], a', l + 1, c', by simp [aggs], m3.at b17 (show ¬ w.heap.size = w0.heap.size + 1 by omega), x17.mod m3 fun k hk hS => by cases hS; have := hnew' _ hk; omega, hnew', ?_⟩
      have := mA.size
      omega
  · rintro w2 vs hS ⟨hr2, xs, a, l, c, rfl, hb2, hx2, hn2, hz2⟩ hk2
    refine ⟨hr2, fun w3 m3 s3 hd3 => ?_⟩
    have b3 := m3.at hb2 (by omega)
    have x3 : Rx excL 33 w3 a l c xs := hx2.mod m3 fun k hk hS => by have := hn2 _ hk; omega
    refine ⟨a, l, c, by rw [cl b3]; rfl, hd3, ?_⟩
    intro w4 e4
    have m4 : Mod (on w0.heap.size) w3 w4 := by subst e4; exact Mod.putObj _ _ _
    refine h w4 a l c xs hS (x3.mod m4 fun k hk hS => by cases hS; have := hn2 _ hk; omega) ?_ fun k hk => by have := hn2 _ hk; omega
    exact (hk2.mod.new m3 fun k hS => by omega).new m4 fun k hS => by cases hS; omega
end Go.Proofs.YtehhhkcemmfjpaaGreatDoor.SeqX

/- The library's AppendSeq, Collect: of structs of three cells. Bnd, bndL: their values; 35, 27: their type, and their row's. -/
namespace Go.Proofs.YtehhhkcemmfjpaaGreatDoor.SeqB
open Go Go.Proofs.YtehhhkcemmfjpaaGreatDoor Go.Proofs.YtehhhkcemmfjpaaGreatDoor.St

abbrev aggs (xs : List Bnd) : List Value := xs.map fun x => .agg ⟨(bndL).cs x⟩
/-- What AppendSeq has gathered: in a box that is the block w.heap.size, in a row of its own. -/
def Got (w : World) (Rdy : World → Prop) (vs : List Value) (w' : World) : Prop :=
  Rdy w' ∧ ∃ (xs : List Bnd) (a : Option Addr) (l c : Nat), vs = aggs xs ∧ w'.heap[w.heap.size]? = some (.cells #[.slice a l c] 27 (0, 0)) ∧ Rx bndL 35 w' a l c xs ∧ (∀ k, rowB a k → w.heap.size + 3 ≤ k) ∧ w.heap.size + 3 ≤ w'.heap.size
theorem appendSeq_ok (seq : Value) (N : Nat) (S : List Value → Prop) (w : World) (hN : N ≤ 1099511627775) (hseq : SeqOf Tryz.prog seq w.heap.size w N (fun v => ∃ x : Bnd, v = .agg ⟨(bndL).cs x⟩) S) (R : Value → World → Prop)
    (h : ∀ w' a l c xs, S (aggs xs) → Rx bndL 35 w' a l c xs → Mod no w w' → (∀ k, rowB a k → w.heap.size < k) → R (.slice a l c) w') :
    Ca Tryz.prog 101 #[.slice none 0 0, seq] w R := by
  refine ca101 none 0 0 seq w R ?_
  intro w0 e0
  have m0 : Mod no w w0 := by subst e0; exact Mod.alloc _ _
  have b0 : w0.heap[w.heap.size]? = some (.cells #[.slice none 0 0] 27 (0, 0)) := by subst e0; exact new_at _ _
  have s0 : w0.heap.size = w.heap.size + 1 := by subst e0; simp
  clear e0
  refine ⟨hseq.1, ?_⟩
  intro Rdy Bsy hrs hbs hrb w1 m1 s1 hr1 hy
  have b1 := Mod.at' m1 b0
  have hstab : Stab (Got w Rdy) := by
    constructor
    · rintro vs w1 w2 ⟨hr, xs, a, l, c, rfl, hb, hx, hn, hz⟩ hm
      obtain ⟨h1, r, h2⟩ := hrb w1 (.inl hr)
      exact ⟨hrs w1 w2 hr (by rw [hm.at' h1, h1]) (by rw [hm.at' h2, h2]), xs, a, l, c, rfl, hm.at' hb, hx.no hm, hn, Nat.le_trans hz hm.size⟩
    · rintro vs w1 w2 b o ⟨hr, xs, a, l, c, rfl, hb, hx, hn, hz⟩ hbo hit hm
      obtain ⟨h1, r, h2⟩ := hrb w1 (.inl hr)
      have hne : ∀ k o', w1.heap[k]? = some o' → isIt o' = false → ¬ on b k := by
        intro k o' hk hf e
        cases e
        rw [hbo] at hk
        cases hk
        rw [hit] at hf
        cases hf
      refine ⟨hrs w1 w2 hr (by rw [hm.at h1 (hne _ _ h1 rfl), h1]) (by rw [hm.at h2 (hne _ _ h2 rfl), h2]), xs, a, l, c, rfl, hm.at hb (hne _ _ hb rfl), hx.mod hm ?_, hn, Nat.le_trans hz hm.size⟩
      intro k hk2
      rcases Row.block hx with ⟨h0, _⟩ | ⟨g, cur, h0, hg, _⟩
      · subst h0; cases hk2
      · subst h0; cases hk2; exact hne _ _ hg rfl
  refine hseq.2 (Got w Rdy) _ w1 _ (Kp.of_no (m0.trans m1)) hstab ⟨hr1, [], none, 0, 0, rfl, b1, Row.empty _ _ _, (fun k hk => by cases hk), by omega⟩ ?_ ?_
  · rintro pre v w2 hk2 ⟨hr2, xs, a, l, c, rfl, hb2, hx2, hn2, hz2⟩ hlen ⟨x, rfl⟩ R' hR'
    refine (hy (.agg ⟨(bndL).cs x⟩) w2 (fun w3 => R' (.bool true) w3) hr2 ?_).mono fun v w3 ⟨hv, hR⟩ => by rw [hv]; exact hR
    intro w5 e5
    have n5 : Mod no w2 w5 := by subst e5; exact Mod.alloc _ _
    have b5 : w5.heap[w2.heap.size]? = some (.cells ([Value.string (ByteArray.mk #[]), Value.string (ByteArray.mk #[]), Value.string (ByteArray.mk #[])]).toArray 35 (0, 0)) := by subst e5; exact new_at _ _
    clear e5
    refine (stCells_var (vs := (bndL).cs x) b5 rfl (fun v hv => (bndL).one x v hv) fun wx nx bx => ?_ : stCells _ _ _ _ _)
    have n2x : Mod no w2 wx := n5.new nx fun k hk => by cases hk; exact Nat.le_refl _
    obtain ⟨g1, r, g2⟩ := hrb w2 (.inl hr2)
    refine ⟨hrs w2 wx hr2 (by rw [n2x.at' g1, g1]) (by rw [n2x.at' g2, g2]), fun w6 hbz m6 s6 => ?_⟩
    have hz5 := lt_of_heap bx
    have m26 : Mod (on (w0.heap.size + 1)) w2 w6 := n2x.no_trans m6
    have b6 := m26.at hb2 (show ¬ w.heap.size = w0.heap.size + 1 by omega)
    have v6 := m6.at bx (show ¬ w2.heap.size = w0.heap.size + 1 by omega)
    have x6 : Rx bndL 35 w6 a l c xs := hx2.mod m26 fun k hk hS => by cases hS; have := hn2 _ hk; omega
    have hxl := x6.len.1
    have hpl : (aggs xs).length = xs.length := List.length_map ..
    refine ⟨a, l, c, by rw [cl b6]; rfl, _, by rw [cl1 v6]; rfl, _, by rw [cl1 v6]; rfl, _, by rw [cl1 v6]; rfl, ?_⟩
    intro w10 e10
    have m10 : Mod no w6 w10 := by subst e10; exact Mod.alloc _ _
    have b10 : w10.heap[w6.heap.size]? = some (.cells ((bndL).cs x).toArray 35 (0, 0)) := by subst e10; exact new_at _ _
    clear e10
    obtain ⟨a', c', w12, hrun, x12, m12, hnew⟩ := Row.push (P := Tryz.prog) (t := 27) (ty := 27) (by kernel_rfl) (x6.no m10) (b := some ⟨w6.heap.size, 0, none⟩) (m := 1) (cc := 1) (ys := [x]) rfl
      (fun ad had j v hj => by cases had; rw [cl1 b10]; simpa using hj) (fun h => by cases h) (by omega)
    have hbox : ¬ rowB a w.heap.size := fun hk => by have := hn2 _ hk; omega
    have b12 := m12.at (m10.at' b6) hbox
    refine ⟨_, w12, hrun, _, _, _, rfl, ⟨_, by rw [cl1 b12]; rfl⟩, fz1 b12 _, ?_⟩
    intro w17 e17
    have m17 : Mod (on w.heap.size) w12 w17 := by subst e17; exact Mod.set1 _ _ _ _
    have b17 : w17.heap[w.heap.size]? = some (.cells #[.slice a' (l + 1) c'] 27 (0, 0)) := by subst e17; rw [set1 b12]; rfl
    clear e17
    have hs6 := m26.size
    have hs10 := m10.size
    have hnew' : ∀ k, rowB a' k → w.heap.size + 3 ≤ k := fun k hk => (hnew k hk).elim (hn2 k) fun h => by omega
    have x17 : Rx bndL 35 w17 a' (l + 1) c' (xs ++ [x]) := Rx.mod x12 m17 fun k hk e => by cases e; have := hnew' _ hk; omega
    have mA : Mod (fun k => rowB a k ∨ k = w.heap.size) w6 w17 := (m10.no_trans (m12.mono fun k _ hk => .inl hk)).trans' m17 fun k _ hk => .inr hk
    obtain ⟨h1, r', h2⟩ := hrb w6 (.inr hbz)
    have k1 : ¬ (rowB a w0.heap.size ∨ w0.heap.size = w.heap.size) := fun h => h.elim (fun h => by have := hn2 _ h; omega) (by omega)
    have k2 : ¬ (rowB a (w0.heap.size + 1) ∨ w0.heap.size + 1 = w.heap.size) := fun h => h.elim (fun h => by have := hn2 _ h; omega) (by omega)
    refine ⟨hbs w6 w17 hbz (by rw [mA.at h1 k1, h1]) (by rw [mA.at h2 k2, h2]), fun w3 hr3 m3 s3 => hR' w3 ?_ ?_⟩
    · have mB : Mod (fun k => k = w0.heap.size + 1 ∨ (rowB a k ∨ k = w.heap.size)) w2 w3 := ((m26.mono fun k _ hk => .inl hk).trans' mA fun k _ hk => .inr hk).trans' m3 fun k _ hk => .inl hk
      refine Kp.of_mod mB fun k o ho hk hS => ?_
      rcases hS with rfl | hS | rfl
      · rw [g2] at ho
        cases ho
        rcases hk with hk | hk
        · omega
        · cases hk
      · have := hn2 _ hS
        rcases hk with hk | hk
        · omega
        rcases Row.block hx2 with ⟨h0, _⟩ | ⟨g, cur, h0, hg, _⟩
        · subst h0; cases hS
        · subst h0
          cases hS
          rw [hg] at ho
          cases ho
          cases hk
      · rw [hb2] at ho
        cases ho
        rcases hk with hk | hk
        · omega
        · cases hk
    · refine ⟨hr3, xs ++ [x], a', l + 1, c', by simp [aggs], m3.at b17 (show ¬ w.heap.size = w0.heap.size + 1 by omega), x17.mod m3 fun k hk hS => by cases hS; have := hnew' _ hk; omega, hnew', ?_⟩
      have := mA.size
      omega
  · rintro w2 vs hS ⟨hr2, xs, a, l, c, rfl, hb2, hx2, hn2, hz2⟩ hk2
    refine ⟨hr2, fun w3 m3 s3 hd3 => ?_⟩
    have b3 := m3.at hb2 (by omega)
    have x3 : Rx bndL 35 w3 a l c xs := hx2.mod m3 fun k hk hS => by have := hn2 _ hk; omega
    refine ⟨a, l, c, by rw [cl b3]; rfl, hd3, ?_⟩
    intro w4 e4
    have m4 : Mod (on w0.heap.size) w3 w4 := by subst e4; exact Mod.putObj _ _ _
    refine h w4 a l c xs hS (x3.mod m4 fun k hk hS => by cases hS; have := hn2 _ hk; omega) ?_ fun k hk => by have := hn2 _ hk; omega
    exact (hk2.mod.new m3 fun k hS => by omega).new m4 fun k hS => by cases hS; omega
end Go.Proofs.YtehhhkcemmfjpaaGreatDoor.SeqB

/- The table's Exchanges and Bindings: sorted. -/
namespace Go.Proofs.YtehhhkcemmfjpaaGreatDoor
open Go Go.Proofs.YtehhhkcemmfjpaaGreatDoor Go.Proofs.YtehhhkcemmfjpaaGreatDoor.St

/-- The entries of a map, handed out one by one. -/
theorem values_seq (B : Nat) (w0 : World) (bx m : Nat) (t : TypeId) (D : List Exc) (hbx : w0.heap[bx]? = some (.cells #[.map (some m)] t (0, 0))) (hB : bx < B) (hm : XMap w0 m D) (hmB : m < B) (N : Nat) (hN : D.length ≤ N) :
    SeqOf Tryz.prog (.func (.func 77) #[] #[.pointer (some ⟨bx, 0, none⟩)]) B w0 N (fun v => ∃ x : Exc, v = .agg ⟨excL.cs x⟩) (fun xs => xs.Perm (SeqX.aggs D)) := by
  refine ⟨⟨_, _, _, rfl⟩, ?_⟩
  intro J y w R hk hst hJ hy hend
  refine (ca77 y (some ⟨bx, 0, none⟩) w R ?_ : Ca _ _ _ _ _)
  obtain ⟨es, clock, hes, hkv, hn, hc⟩ := hm
  have hes' := hk.old m _ hes (.inl hmB)
  refine ⟨some m, by rw [cl (hk.old bx _ hbx (.inl hB))]; rfl, es, clock, hes', ?_⟩
  intro w3 e3
  have m3 : Mod no w w3 := by subst e3; exact Mod.alloc _ _
  have b3 : w3.heap[w.heap.size]? = some (.mapIter (some m) clock #[] clock) := by subst e3; exact new_at _ _
  clear e3
  have hlen : D.length = es.toList.length := by
    have := congrArg List.length hkv
    simpa [kvL, exL] using this.symm
  have hkeys : es.toList.map (·.val) = SeqX.aggs D := by
    have := congrArg (List.map Prod.snd) hkv
    rw [List.map_map, kvL, exL, List.map_map, List.map_map] at this
    exact this
  have hkey : ∀ e ∈ es.toList, ∃ x : Exc, e.val = .agg ⟨excL.cs x⟩ := by
    intro e he
    have : e.val ∈ SeqX.aggs D := by rw [← hkeys]; exact List.mem_map_of_mem he
    obtain ⟨p, _, hp⟩ := List.mem_map.1 this
    exact ⟨p, hp.symm⟩
  refine ⟨fun w' => ∃ (seen : Array Nat) (c0 : Nat) (got : List MapEntry), w'.heap[w.heap.size]? = some (.mapIter (some m) clock seen c0) ∧ clock ≤ c0 ∧ (got ++ (leftOf es seen).toList).Perm es.toList ∧ J (got.map (·.val)) w' ∧ Kp B w0 w',
    fun w' => match w'.heap[w.heap.size]? with | some (.mapIter _ _ seen _) => (leftOf es seen).size | _ => 0, ⟨#[], clock, [], b3, Nat.le_refl _, by simp only [leftOf, Array.toList_filter, List.nil_append]; exact .of_eq (List.filter_eq_self.2 (by simp)), hst.1 _ _ _ hJ m3, hk.trans (Kp.of_no m3)⟩, ?_⟩
  rintro _ w7 ⟨seen, c0, got, hit, hcc, hperm, hJ7, hk7⟩
  have hm7 := hk7.old m _ hes (.inl hmB)
  rcases next_at (P := Tryz.prog) (ty := 0) hit hm7 hc hcc with ⟨h0, hrun⟩ | ⟨e, he, w8, hrun, m8, hit8⟩
  · refine ⟨_, w7, hrun, .inl ⟨rfl, hend w7 _ ?_ hJ7 hk7⟩⟩
    have : (leftOf es seen).toList = [] := List.eq_nil_of_length_eq_zero (by simpa using h0)
    rw [this, List.append_nil] at hperm
    rw [← hkeys]
    exact hperm.map _
  · refine ⟨_, w8, hrun, .inr ⟨_, _, rfl, ?_⟩⟩
    have hmem := (mem_left he).1
    have hk8 : Kp B w0 w8 := by
      refine ⟨m8.os.trans hk7.os, m8.tape.trans hk7.tape, m8.output.trans hk7.output, Nat.le_trans hk7.size m8.size, fun k o ho hko => m8.at (hk7.old k o ho hko) fun hS => ?_⟩
      cases hS
      have := lt_of_heap ho
      have := hk.size
      omega
    have hm8 := hk8.old m _ hes (.inl hmB)
    refine ⟨e.key, e.val, entry_at hit8 hm8 hmem hn, ?_⟩
    obtain ⟨x, hkk⟩ := hkey e hmem
    rw [hkk]
    have hJ8 := hst.2 _ _ _ _ _ hJ7 hit rfl m8
    have hll : got.length < D.length := by
      have h1 := hperm.length_eq
      have h2 : 0 < (leftOf es seen).toList.length := List.length_pos_of_mem he
      rw [List.length_append] at h1
      omega
    intro w11 e11
    have m11 : Mod no w8 w11 := by subst e11; exact Mod.alloc _ _
    have b11 : w11.heap[w8.heap.size]? = some (.cells [Value.string (ByteArray.mk #[]), Value.int .i64 0, Value.bool false].toArray 33 (0, 0)) := by subst e11; exact new_at _ _
    clear e11
    refine (stCells_var (vs := excL.cs x) b11 rfl (fun v hv => excL.one x v hv) fun w13 m13 b13 => ?_ : stCells _ _ _ _ _)
    have m813 : Mod no w8 w13 := m11.new m13 fun k hk => by cases hk; exact Nat.le_refl _
    refine ⟨_, by rw [cl1 b13]; rfl, _, by rw [cl1 b13]; rfl, _, by rw [cl1 b13]; rfl, ?_⟩
    refine hy _ (.agg ⟨excL.cs x⟩) w13 (hk8.trans (Kp.of_no m813)) (hst.1 _ _ _ hJ8 m813) (by simpa using (by omega : got.length < N)) ⟨x, rfl⟩ _ fun w15 hk15 hJ15 => ⟨true, rfl, ?_⟩
    refine ifK_of (fun h => by cases h) fun _ => ?_
    have hit15 := hk15.old _ _ (m813.at' hit8) (.inr rfl)
    refine ⟨⟨seen.push e.born, clock, got ++ [e], hit15, Nat.le_refl _, ?_, by rw [List.map_append]; simpa [hkk] using hJ15, (hk8.trans (Kp.of_no m813)).trans hk15⟩, ?_⟩
    · rw [List.append_assoc]
      exact ((List.Perm.append_left got (left_perm hn he)).symm).trans hperm
    · simp only [hit15, hit]
      exact left_shrinks es seen e he
/-- The entries of a map, handed out one by one. -/
theorem bkeys_seq (B : Nat) (w0 : World) (bx m : Nat) (t : TypeId) (D : List Bnd) (hbx : w0.heap[bx]? = some (.cells #[.map (some m)] t (0, 0))) (hB : bx < B) (hm : BMap w0 m D) (hmB : m < B) (N : Nat) (hN : D.length ≤ N) :
    SeqOf Tryz.prog (.func (.func 81) #[] #[.pointer (some ⟨bx, 0, none⟩)]) B w0 N (fun v => ∃ x : Bnd, v = .agg ⟨bndL.cs x⟩) (fun xs => xs.Perm (SeqB.aggs D)) := by
  refine ⟨⟨_, _, _, rfl⟩, ?_⟩
  intro J y w R hk hst hJ hy hend
  refine (ca81 y (some ⟨bx, 0, none⟩) w R ?_ : Ca _ _ _ _ _)
  obtain ⟨es, clock, hes, hkv, hn, hc⟩ := hm
  have hes' := hk.old m _ hes (.inl hmB)
  refine ⟨some m, by rw [cl (hk.old bx _ hbx (.inl hB))]; rfl, es, clock, hes', ?_⟩
  intro w3 e3
  have m3 : Mod no w w3 := by subst e3; exact Mod.alloc _ _
  have b3 : w3.heap[w.heap.size]? = some (.mapIter (some m) clock #[] clock) := by subst e3; exact new_at _ _
  clear e3
  have hlen : D.length = es.toList.length := by
    have := congrArg List.length hkv
    simpa [kvL, bnL] using this.symm
  have hkeys : es.toList.map (·.key) = SeqB.aggs D := by
    have := congrArg (List.map Prod.fst) hkv
    rw [List.map_map, kvL, bnL, List.map_map, List.map_map] at this
    exact this
  have hkey : ∀ e ∈ es.toList, ∃ x : Bnd, e.key = .agg ⟨bndL.cs x⟩ := by
    intro e he
    have : e.key ∈ SeqB.aggs D := by rw [← hkeys]; exact List.mem_map_of_mem he
    obtain ⟨p, _, hp⟩ := List.mem_map.1 this
    exact ⟨p, hp.symm⟩
  refine ⟨fun w' => ∃ (seen : Array Nat) (c0 : Nat) (got : List MapEntry), w'.heap[w.heap.size]? = some (.mapIter (some m) clock seen c0) ∧ clock ≤ c0 ∧ (got ++ (leftOf es seen).toList).Perm es.toList ∧ J (got.map (·.key)) w' ∧ Kp B w0 w',
    fun w' => match w'.heap[w.heap.size]? with | some (.mapIter _ _ seen _) => (leftOf es seen).size | _ => 0, ⟨#[], clock, [], b3, Nat.le_refl _, by simp only [leftOf, Array.toList_filter, List.nil_append]; exact .of_eq (List.filter_eq_self.2 (by simp)), hst.1 _ _ _ hJ m3, hk.trans (Kp.of_no m3)⟩, ?_⟩
  rintro _ w7 ⟨seen, c0, got, hit, hcc, hperm, hJ7, hk7⟩
  have hm7 := hk7.old m _ hes (.inl hmB)
  rcases next_at (P := Tryz.prog) (ty := 0) hit hm7 hc hcc with ⟨h0, hrun⟩ | ⟨e, he, w8, hrun, m8, hit8⟩
  · refine ⟨_, w7, hrun, .inl ⟨rfl, hend w7 _ ?_ hJ7 hk7⟩⟩
    have : (leftOf es seen).toList = [] := List.eq_nil_of_length_eq_zero (by simpa using h0)
    rw [this, List.append_nil] at hperm
    rw [← hkeys]
    exact hperm.map _
  · refine ⟨_, w8, hrun, .inr ⟨_, _, rfl, ?_⟩⟩
    have hmem := (mem_left he).1
    have hk8 : Kp B w0 w8 := by
      refine ⟨m8.os.trans hk7.os, m8.tape.trans hk7.tape, m8.output.trans hk7.output, Nat.le_trans hk7.size m8.size, fun k o ho hko => m8.at (hk7.old k o ho hko) fun hS => ?_⟩
      cases hS
      have := lt_of_heap ho
      have := hk.size
      omega
    have hm8 := hk8.old m _ hes (.inl hmB)
    refine ⟨e.key, e.val, entry_at hit8 hm8 hmem hn, ?_⟩
    obtain ⟨x, hkk⟩ := hkey e hmem
    rw [hkk]
    have hJ8 := hst.2 _ _ _ _ _ hJ7 hit rfl m8
    have hll : got.length < D.length := by
      have h1 := hperm.length_eq
      have h2 : 0 < (leftOf es seen).toList.length := List.length_pos_of_mem he
      rw [List.length_append] at h1
      omega
    intro w11 e11
    have m11 : Mod no w8 w11 := by subst e11; exact Mod.alloc _ _
    have b11 : w11.heap[w8.heap.size]? = some (.cells [Value.string (ByteArray.mk #[]), Value.string (ByteArray.mk #[]), Value.string (ByteArray.mk #[])].toArray 35 (0, 0)) := by subst e11; exact new_at _ _
    clear e11
    refine (stCells_var (vs := bndL.cs x) b11 rfl (fun v hv => bndL.one x v hv) fun w13 m13 b13 => ?_ : stCells _ _ _ _ _)
    have m813 : Mod no w8 w13 := m11.new m13 fun k hk => by cases hk; exact Nat.le_refl _
    refine ⟨_, by rw [cl1 b13]; rfl, _, by rw [cl1 b13]; rfl, _, by rw [cl1 b13]; rfl, ?_⟩
    refine hy _ (.agg ⟨bndL.cs x⟩) w13 (hk8.trans (Kp.of_no m813)) (hst.1 _ _ _ hJ8 m813) (by simpa using (by omega : got.length < N)) ⟨x, rfl⟩ _ fun w15 hk15 hJ15 => ⟨true, rfl, ?_⟩
    refine ifK_of (fun h => by cases h) fun _ => ?_
    have hit15 := hk15.old _ _ (m813.at' hit8) (.inr rfl)
    refine ⟨⟨seen.push e.born, clock, got ++ [e], hit15, Nat.le_refl _, ?_, by rw [List.map_append]; simpa [hkk] using hJ15, (hk8.trans (Kp.of_no m813)).trans hk15⟩, ?_⟩
    · rw [List.append_assoc]
      exact ((List.Perm.append_left got (left_perm hn he)).symm).trans hperm
    · simp only [hit15, hit]
      exact left_shrinks es seen e he

theorem perm_of {α β : Type} (f : α → β) (g : β → α) (hg : ∀ x, g (f x) = x) {xs ys : List α} (h : (xs.map f).Perm (ys.map f)) : xs.Perm ys := by
  have := h.map g
  rw [List.map_map, List.map_map, show g ∘ f = id from funext hg, List.map_id, List.map_id] at this
  exact this
def ke : Value → Exc
  | .agg ⟨[.string a, .int .i64 b, .bool c]⟩ => ⟨a, b, c⟩
  | _ => default
section
variable {w : World} {t m1 m2 : Nat} {D : List Exc} {B : List Bnd} (hT : Tbl w t m1 m2 D B)
include hT
theorem exchanges_ok (hl : D.length < 1000000000) (R : Value → World → Prop) (h : ∀ w' a l c xs, Rx excL 33 w' a l c xs → xs.Perm D → Srt xs 0 l → Mod no w w' → (∀ k, rowB a k → w.heap.size ≤ k) → R (.slice a l c) w') :
    Ca Tryz.prog 15 #[.pointer (some ⟨t, 0, none⟩)] w R := by
  refine ca15 (some ⟨t, 0, none⟩) w R ?_
  refine made_ok hT _ ⟨true, rfl, ifK_of (fun h => by cases h) fun _ => ?_⟩
  refine ⟨some m1, by rw [cl1 hT.cell]; rfl, ?_⟩
  refine ca46 (some m1) w _ ?_
  intro w1 e1
  have n1 : Mod no w w1 := by subst e1; exact Mod.alloc _ _
  have b1 : ∃ t, w1.heap[w.heap.size]? = some (.cells #[.map (some m1)] t (0, 0)) := by subst e1; exact ⟨_, new_at _ _⟩
  have s1 : w1.heap.size = w.heap.size + 1 := by subst e1; simp
  clear e1
  obtain ⟨t1, b1⟩ := b1
  have hT1 := hT.no n1
  have hm1 : m1 < w.heap.size := by obtain ⟨_, _, hh, _⟩ := hT.x; exact lt_of_heap hh
  refine ⟨_, rfl, ?_⟩
  refine ca45 _ _ w1 _ ?_
  refine ca75 _ w1 _ ?_
  refine SeqX.appendSeq_ok _ D.length _ w1 (by omega) (values_seq w1.heap.size w1 w.heap.size m1 t1 D b1 (by omega) hT1.x (by omega) D.length (Nat.le_refl _)) _ ?_
  intro w2 a l c xs hp hx n2 hn
  have hp : xs.Perm D := perm_of _ ke (fun _ => rfl) hp
  have hxl := hx.len.1
  have hpl := hp.length_eq
  refine ⟨a, l, c, rfl, a, l, c, rfl, ?_⟩
  refine SrtX.sort_ok _ cmpX a l c xs w2 hx (by omega) _ fun w3 ys hy hyp hsrt n3 => ⟨rfl, a, l, c, rfl, ?_⟩
  exact h w3 a l c ys hy (hyp.trans hp) hsrt (n1.trans (n2.new n3 fun k hk => by have := hn k hk; omega)) fun k hk => by have := hn k hk; omega
theorem bindings_ok (hl : B.length < 1000000000) (R : Value → World → Prop) (h : ∀ w' a l c xs, Rx bndL 35 w' a l c xs → xs.Perm B → Srt xs 0 l → Mod no w w' → (∀ k, rowB a k → w.heap.size ≤ k) → R (.slice a l c) w') :
    Ca Tryz.prog 16 #[.pointer (some ⟨t, 0, none⟩)] w R := by
  refine ca16 (some ⟨t, 0, none⟩) w R ?_
  refine made_ok hT _ ⟨true, rfl, ifK_of (fun h => by cases h) fun _ => ?_⟩
  refine ⟨some m2, by rw [cl1 hT.cell]; rfl, ?_⟩
  refine ca50 (some m2) w _ ?_
  intro w1 e1
  have n1 : Mod no w w1 := by subst e1; exact Mod.alloc _ _
  have b1 : ∃ t, w1.heap[w.heap.size]? = some (.cells #[.map (some m2)] t (0, 0)) := by subst e1; exact ⟨_, new_at _ _⟩
  have s1 : w1.heap.size = w.heap.size + 1 := by subst e1; simp
  clear e1
  obtain ⟨t1, b1⟩ := b1
  have hT1 := hT.no n1
  have hm1 : m2 < w.heap.size := by obtain ⟨_, _, hh, _⟩ := hT.b; exact lt_of_heap hh
  refine ⟨_, rfl, ?_⟩
  refine ca49 _ _ w1 _ ?_
  refine ca79 _ w1 _ ?_
  refine SeqB.appendSeq_ok _ B.length _ w1 (by omega) (bkeys_seq w1.heap.size w1 w.heap.size m2 t1 B b1 (by omega) hT1.b (by omega) B.length (Nat.le_refl _)) _ ?_
  intro w2 a l c xs hp hx n2 hn
  have hp : xs.Perm B := perm_of _ kb (fun _ => rfl) hp
  have hxl := hx.len.1
  have hpl := hp.length_eq
  refine ⟨a, l, c, rfl, a, l, c, rfl, ?_⟩
  refine SrtB.sort_ok _ cmpB a l c xs w2 hx (by omega) _ fun w3 ys hy hyp hsrt n3 => ⟨rfl, a, l, c, rfl, ?_⟩
  exact h w3 a l c ys hy (hyp.trans hp) hsrt (n1.trans (n2.new n3 fun k hk => by have := hn k hk; omega)) fun k hk => by have := hn k hk; omega
end
end Go.Proofs.YtehhhkcemmfjpaaGreatDoor

/- The three cells of an exchange, of a binding, in a row. -/
namespace Go.Proofs.YtehhhkcemmfjpaaGreatDoor
open Go Go.Proofs.YtehhhkcemmfjpaaGreatDoor Go.Proofs.YtehhhkcemmfjpaaGreatDoor.St

theorem St.Rx.cellX {w : World} {a : Option Addr} {l c : Nat} {X : List Exc} (h : Rx excL 33 w a l c X) {i : Nat} (hi : i < l) {K : ByteArray → Int → Bool → Prop} (hk : K (at0 X i).n (at0 X i).k (at0 X i).f) :
    ∃ ad : Addr, a = some ad ∧ (0 : Int) ≤ (i : Int) ∧ (i : Int) < (↑l : Int) ∧ ∃ s : ByteArray, w.cell? (Addr.add (Addr.add ad (Int.toNat (i : Int) * 3)) 0) = some (.string s) ∧ ∃ k : Int, w.cell? (Addr.add (Addr.add ad (Int.toNat (i : Int) * 3)) 1) = some (.int .i64 k) ∧
      ∃ f : Bool, w.cell? (Addr.add (Addr.add ad (Int.toNat (i : Int) * 3)) 2) = some (.bool f) ∧ K s k f := by
  have hil := h.lt hi
  obtain ⟨g, rfl, hc⟩ := Row.getS h hil (s := 3) rfl
  rw [at0_eq hil] at hk
  rw [Int.toNat_natCast]
  exact ⟨_, rfl, by omega, by omega, _, hc 0 _ rfl, _, hc 1 _ rfl, _, hc 2 _ rfl, hk⟩
theorem St.Rx.cellB {w : World} {a : Option Addr} {l c : Nat} {B : List Bnd} (h : Rx bndL 35 w a l c B) {i : Nat} (hi : i < l) {K : ByteArray → ByteArray → ByteArray → Prop} (hk : K (at0 B i).x (at0 B i).q (at0 B i).p) :
    ∃ ad : Addr, a = some ad ∧ (0 : Int) ≤ (i : Int) ∧ (i : Int) < (↑l : Int) ∧ ∃ s : ByteArray, w.cell? (Addr.add (Addr.add ad (Int.toNat (i : Int) * 3)) 0) = some (.string s) ∧ ∃ k : ByteArray, w.cell? (Addr.add (Addr.add ad (Int.toNat (i : Int) * 3)) 1) = some (.string k) ∧
      ∃ f : ByteArray, w.cell? (Addr.add (Addr.add ad (Int.toNat (i : Int) * 3)) 2) = some (.string f) ∧ K s k f := by
  have hil := h.lt hi
  obtain ⟨g, rfl, hc⟩ := Row.getS h hil (s := 3) rfl
  rw [at0_eq hil] at hk
  rw [Int.toNat_natCast]
  exact ⟨_, rfl, by omega, by omega, _, hc 0 _ rfl, _, hc 1 _ rfl, _, hc 2 _ rfl, hk⟩
end Go.Proofs.YtehhhkcemmfjpaaGreatDoor

/- The program's route: rule, Fits, names. -/
namespace Go.Proofs.YtehhhkcemmfjpaaGreatDoor
open Go Go.Proofs.YtehhhkcemmfjpaaGreatDoor Go.Proofs.YtehhhkcemmfjpaaGreatDoor.St

abbrev Strs (w : World) (a : Option Addr) (l c : Nat) (xs : List ByteArray) : Prop := Els Value.string 9 w a l c xs
theorem str_row : strRow Tryz.prog 55 9 = true := by kernel_rfl
theorem compact_ok {w : World} {a : Option Addr} {l c : Nat} {xs : List ByteArray} (h : Strs w a l c xs) (hl : l < 1000000000) (R : Value → World → Prop) (hR : ∀ w' k, Strs w' a k c (cmpL xs xs.length) → Mod (rowB a) w w' → R (.slice a k c) w') :
    Ca Tryz.prog 88 #[.slice a l c] w R := by
  refine ca88 a l c w R ?_
  have hx := h.len
  have whole : ∀ (_ : ∀ j, j < xs.length → stays xs j = true) w', Mod St.no w w' → R (.slice a l c) w' := by
    intro hall w' m
    have := cmpL_all (Nat.le_refl _) hall
    exact hR w' l (by rw [this, List.take_length]; exact h.no m) m.of_no
  have stay0 : ∀ j, j < 1 → stays xs j = true := fun j hj => by
    have : j = 0 := by omega
    subst this; simp [stays]
  refine ifK_dec (fun hlt => whole (fun j hj => stay0 j (by omega)) w (Mod.refl _ _)) (fun hge => ?_)
  refine ⟨fun x w' => ∃ i : Nat, x = i ∧ 1 ≤ i ∧ i ≤ l ∧ Mod St.no w w' ∧ ∀ j, j < i → stays xs j = true, fun x _ => ((l : Int) - x).toNat, ⟨1, rfl, by omega, by omega, Mod.refl _ _, stay0⟩, ?_⟩
  rintro _ _ w4 ⟨i, rfl, h1, hi, n4, hall⟩
  refine ifK_dec (fun hlt => ?_) (fun hge' => whole (fun j hj => hall j (by omega)) w4 n4)
  intro w5 e0
  have n5 : Mod no w4 w5 := by subst e0; exact Mod.drew _
  clear e0
  have n05 := n4.trans n5
  have h5 := h.no n05
  have ej : IntKind.i64.wrap ((i : Int) - 1) = ((i - 1 : Nat) : Int) := by rw [wrap64 (by omega) (by omega)]; omega
  rw [ej]
  clear ej
  refine h5.rd i rfl (by omega) (h5.rd (i - 1) rfl (by omega) ?_)
  rw [byte_eq]
  refine ifK_dec (fun he => ?_) (fun he => ?_)
  · have hno : stays xs i = false := by simp [stays, he]; omega
    have ci := CI.start (by omega : i < xs.length) hall hno
    refine ⟨by omega, by omega, by omega, ?_⟩
    rw [Int.toNat_natCast]
    refine ⟨fun k m w' => ∃ (k' m' : Nat) (ys : List ByteArray), k = k' ∧ m = m' ∧ 1 ≤ m' ∧ m' ≤ l - i ∧ CI xs (i + m') k' ys ∧ Strs w' a l c ys ∧ Mod (rowB a) w w', fun _ m _ => ((l : Int) - i - m).toNat, ⟨i, 1, xs, rfl, rfl, by omega, by omega, ci, h5, n05.of_no⟩, ?_⟩
    rintro _ _ _ w15 ⟨k, m, ys, rfl, rfl, hm1, hm, ci, hy, n15⟩
    have hyl := hy.len
    have hsz := ci.size
    have hklt := ci.lt
    rw [Int.toNat_natCast]
    refine ifK_dec (fun hmlt => ?_) (fun hmge => ?_)
    · intro w16 e0
      have n16 : Mod no w15 w16 := by subst e0; exact Mod.drew _
      clear e0
      have hy16 := hy.no n16
      have hkl : k < l := by omega
      -- an element of s[i:]
      have rdT : ∀ {x : Int} (q : Nat), x = q → q < l - i → ∀ {K : ByteArray → Prop}, K (at0 ys (i + q)) → ∃ ad : Addr, (if c = i then a else Option.map (fun x => Addr.add x (i * 1)) a) = some ad ∧ (0 : Int) ≤ x ∧ x < (↑(l - i) : Int) ∧ ∃ s : ByteArray, w16.cell? (Addr.add ad (Int.toNat x * 1)) = some (.string s) ∧ K s := by
        rintro _ q rfl hq K hK
        obtain ⟨g, rfl, hg⟩ := hy16.get (i := i + q) (by omega)
        rw [if_neg (by omega), Option.map_some]
        refine ⟨_, rfl, by omega, by omega, _, ?_, hK⟩
        rw [add_lit, add_lit]
        rw [add_lit] at hg
        rw [Int.toNat_natCast, show 0 + i * 1 + q * 1 = 0 + (i + q) * 1 by omega]
        exact hg
      have em : IntKind.i64.wrap ((m : Int) - 1) = ((m - 1 : Nat) : Int) := by rw [wrap64 (by omega) (by omega)]; omega
      have e1 : IntKind.i64.wrap ((m : Int) + 1) = ((m + 1 : Nat) : Int) := (by first | (simp only [IntKind.wrap_i64]; omega) | omega)
      have e2 : IntKind.i64.wrap ((k : Int) + 1) = ((k + 1 : Nat) : Int) := (by first | (simp only [IntKind.wrap_i64]; omega) | omega)
      rw [em, e1, e2]
      clear em e1 e2
      have a1 : at0 ys (i + m) = at0 xs (i + m) := ci.high _ (by omega)
      have a2 : at0 ys (i + (m - 1)) = at0 xs (i + m - 1) := by rw [ci.high _ (by omega), show i + (m - 1) = i + m - 1 by omega]
      refine rdT m rfl (by omega) (rdT (m - 1) rfl (by omega) ?_)
      rw [a1, a2, byte_eq]
      refine ifK_not (fun hne => ?_) (fun heq => ?_)
      · have hs : stays xs (i + m) = true := by
          have := of_decide_eq_false hne
          simp [stays, this]
        refine rdT m rfl (by omega) ?_
        rw [a1]
        refine hy16.wr k rfl hkl _ fun w25 m25 hy25 => ?_
        exact ⟨⟨k + 1, m + 1, _, rfl, rfl, by omega, by omega, ci.keep (by omega) hs, hy25, (n15.trans_no n16).trans m25⟩, by simp only; omega⟩
      · have hs : stays xs (i + m) = false := by
          have := of_decide_eq_true heq
          simp [stays, this]; omega
        exact ⟨⟨k, m + 1, ys, rfl, rfl, by omega, by omega, ci.skip hs, hy16, n15.trans_no n16⟩, by simp only; omega⟩
    · have hkl : k ≤ l := by omega
      obtain ⟨w27, hrun, m27, h27⟩ := row_clear (P := Tryz.prog) (ty := 0) str_row hy hkl
      have hd := ci.done (by omega)
      rw [show i + m = xs.length by omega] at hd
      rw [hd] at h27
      refine ⟨by omega, by omega, by omega, _, w27, hrun, rfl, by decide, by omega, by omega, ?_⟩
      rw [add0_eq, Nat.sub_zero, Nat.sub_zero]
      exact hR w27 k h27 (n15.trans m27)
  · have e1 : IntKind.i64.wrap ((i : Int) + 1) = ((i + 1 : Nat) : Int) := (by first | (simp only [IntKind.wrap_i64]; omega) | omega)
    rw [e1]
    clear e1
    refine ⟨⟨i + 1, rfl, by omega, by omega, n05, fun j hj => ?_⟩, by simp only; omega⟩
    by_cases e : j = i
    · subst e; simp [stays, he]
    · exact hall j (by omega)

/-- What a test of bindings does: those of B. -/
abbrev TestB (f : Value) (φ : Bnd → Bool) (B : List Bnd) (w : World) : Prop := ∀ b ∈ B, ∀ w', Mod St.no w w' → ∀ R : Value → World → Prop, (∀ w'', Mod St.no w' w'' → R (.bool (φ b)) w'') → CaV Tryz.prog f #[.agg ⟨b.cs⟩] w' R
abbrev NameB (f : Value) (ν : Bnd → ByteArray) (w : World) : Prop := ∀ b w', Mod St.no w w' → ∀ R : Value → World → Prop, (∀ w'', Mod St.no w' w'' → R (.string (ν b)) w'') → CaV Tryz.prog f #[.agg ⟨b.cs⟩] w' R
/-- The names of those that are so. -/
def SomeB (φ : Bnd → Bool) (ν : Bnd → ByteArray) (B : List Bnd) (n : ByteArray) : Prop := ∃ b ∈ B, φ b = true ∧ ν b = n
theorem names_ok (f g : Fn) (fa fc ga gc : Array Value) (φ : Bnd → Bool) (ν : Bnd → ByteArray) {w : World} {t m1 m2 : Nat} {D : List Exc} {B : List Bnd} (hT : Tbl w t m1 m2 D B) (hl : B.length < 1000000000) (hf : TestB (.func f fa fc) φ B w) (hg : NameB (.func g ga gc) ν w)
    (R : Value → World → Prop) (hR : ∀ w' a l c ys, Strs w' a l c ys → NamesOf (SomeB φ ν B) ys → ys.length ≤ B.length → Mod St.no w w' → R (.slice a l c) w') :
    Ca Tryz.prog 61 #[.pointer (some ⟨t, 0, none⟩), .func f fa fc, .func g ga gc] w R := by
  refine ca61 (some ⟨t, 0, none⟩) (.func f fa fc) (.func g ga gc) w R ?_
  refine bindings_ok hT hl _ fun w1 p l c bs hbs hpb _ n1 _ => ⟨_, _, _, rfl, ?_⟩
  have e1 := hbs.len.1
  have e2 := hpb.length_eq
  refine ⟨fun a q d x w' => ∃ (i : Nat), x = i ∧ i ≤ l ∧ Strs w' a q d (((bs.take i).filter φ).map ν) ∧ (∀ k, rowB a k → w1.heap.size ≤ k) ∧ Mod St.no w1 w', fun _ _ _ x _ => ((l : Int) - x).toNat, ⟨0, rfl, Nat.zero_le _, Els.nil _ _, (fun k hk => by cases hk), Mod.refl _ _⟩, ?_⟩
  rintro _ a q d _ w12 ⟨i, rfl, hi, hx, hnew, n12⟩
  have hxl := hx.len
  have hqi : q ≤ i := by
    have h1 := List.length_filter_le φ (bs.take i)
    rw [← hxl.1, List.length_map]
    rw [List.length_take] at h1
    omega
  refine ifK_dec (fun hlt => ?_) (fun hge => ?_)
  · have hil : i < bs.length := by omega
    have htk : bs.take (i + 1) = bs.take i ++ [at0 bs i] := by rw [List.take_succ_eq_append_getElem hil, at0_eq hil]
    have hmem : at0 bs i ∈ B := by rw [at0_eq hil]; exact hpb.mem_iff.1 (List.getElem_mem hil)
    have e1 : IntKind.i64.wrap ((i : Int) + 1) = ((i + 1 : Nat) : Int) := (by first | (simp only [IntKind.wrap_i64]; omega) | omega)
    rw [e1]
    clear e1
    refine (hbs.no n12).cellB (by omega) ?_
    intro w17 e0
    have n17 : Mod no w12 w17 := by subst e0; exact Mod.alloc _ _
    have b17 : w17.heap[w12.heap.size]? = some (.cells #[.string (ByteArray.mk #[]), .string (ByteArray.mk #[]), .string (ByteArray.mk #[])] 35 (0, 0)) := by subst e0; exact new_at _ _
    clear e0
    refine put3 b17 fun w23 n23 b23 => ?_
    have n1223 : Mod St.no w12 w23 := n17.new n23 fun k hk => by cases hk; exact Nat.le_refl _
    refine ⟨_, by rw [cl1 b23]; rfl, _, by rw [cl1 b23]; rfl, _, by rw [cl1 b23]; rfl, (hf (at0 bs i) hmem w23 ((n1.trans n12).trans n1223) _ fun w28 n28 => ?_ : CaV _ _ _ _ _)⟩
    refine ⟨_, rfl, ?_⟩
    have b28 := n28.at' b23
    have n1228 := n1223.trans n28
    refine ifK_of (fun hb => ?_) (fun hb => ?_)
    · refine ⟨_, by rw [cl1 b28]; rfl, _, by rw [cl1 b28]; rfl, _, by rw [cl1 b28]; rfl, (hg (at0 bs i) w28 ((n1.trans n12).trans n1228) _ fun w34 n34 => ?_ : CaV _ _ _ _ _)⟩
      refine ⟨_, rfl, ?_⟩
      intro w36 e0
      have n36 : Mod no w34 w36 := by subst e0; exact Mod.alloc _ _
      have b36 : w36.heap[w34.heap.size]? = some (.cells #[.string (ν (at0 bs i))] 9 (0, 0)) := by subst e0; exact new_at _ _
      clear e0
      have n1236 := (n1228.trans n34).trans n36
      obtain ⟨a', d', w38, hrun, x38, m38, k38⟩ := Els.push1 (P := Tryz.prog) (t := 55) (ty := 55) (fun _ => rfl) (by kernel_rfl) (hx.no n1236) b36 (by omega)
      have g12 := n12.size
      have g1236 := n1236.size
      refine ⟨_, w38, hrun, _, _, _, rfl, ⟨i + 1, rfl, by omega, ?_, fun k hk => (k38 k hk).elim (hnew k) fun h => by omega, (n12.trans n1236).new m38 hnew⟩, by simp only; omega⟩
      rw [htk, List.filter_append, List.filter_cons_of_pos hb, List.map_append]
      exact x38
    · refine ⟨⟨i + 1, rfl, by omega, ?_, hnew, n12.trans n1228⟩, by simp only; omega⟩
      rw [htk, List.filter_append, List.filter_cons_of_neg (by rw [hb]; decide), List.filter_nil, List.append_nil]
      exact hx.no n1228
  · have hti : bs.take i = bs := List.take_of_length_le (by omega)
    rw [hti] at hx
    refine Sortstring.sort_ok 9 a q d _ w12 hx (by omega) _ fun w43 zs hz hzp hsrt m43 => ⟨rfl, ?_⟩
    have hzl := hz.len.1
    have n43 := n12.new m43 hnew
    refine compact_ok hz (by omega) _ fun w45 k hk m45 => ⟨_, _, _, rfl, ?_⟩
    refine hR w45 a k d _ hk (names_of_sorted hzp (by rw [hzl]; exact hsrt) fun n => ?_) ?_ (n1.trans (n43.new m45 hnew))
    · rw [List.mem_map]
      constructor
      · rintro ⟨b, hb, rfl⟩
        obtain ⟨h1, h2⟩ := List.mem_filter.1 hb
        exact ⟨b, hpb.mem_iff.1 h1, h2, rfl⟩
      · rintro ⟨b, hb, h2, rfl⟩
        exact ⟨b, List.mem_filter.2 ⟨hpb.mem_iff.2 hb, h2⟩, rfl⟩
    · have := cmpL_len zs zs.length
      omega
end Go.Proofs.YtehhhkcemmfjpaaGreatDoor

/- The program's route: Fits, Queues, Who, Same. -/
namespace Go.Proofs.YtehhhkcemmfjpaaGreatDoor
open Go Go.Proofs.YtehhhkcemmfjpaaGreatDoor Go.Proofs.YtehhhkcemmfjpaaGreatDoor.St

/-- Does a pattern fit, by a kind's rule? -/
noncomputable def ruleB (k : Int) (p key : ByteArray) : Bool := if k = 1 then decide (p = key) else if k = 2 then decide (p = ByteArray.mk #[]) else matchB p key
noncomputable def goesB (x : Exc) (p key : ByteArray) : Bool := goodX x && (keyB key && ruleB x.k p key)
theorem fitsP_ok (x : Exc) (p key : ByteArray) (w : World) (hp : p.size < 1000000000) (hk : key.size < 1000000000) (R : Value → World → Prop) (h : ∀ w', Mod St.no w w' → R (.bool (goesB x p key)) w') : Ca Tryz.prog 32 #[.agg ⟨x.cs⟩, .string p, .string key] w R := by
  refine (ca32 x.n x.k x.f p key w R ?_ : Ca _ _ _ _ _)
  intro w0 e0
  have n0 : Mod no w w0 := by subst e0; exact Mod.alloc _ _
  have b0 : Xc w0 w.heap.size x := by subst e0; exact new_at _ _
  clear e0
  refine ⟨_, by rw [cl1 b0]; rfl, _, by rw [cl1 b0]; rfl, _, by rw [cl1 b0]; rfl, (good_ok x w0 _ fun w5 n5 => ?_ : Ca _ _ _ _ _)⟩
  refine ⟨_, rfl, ifK_of (fun hg => ?_) (fun hg => ?_)⟩
  · have b5 := n5.at' b0
    refine key_ok key w5 hk _ fun w8 n8 => ⟨_, rfl, ifK_of (fun hc => ?_) (fun hc => ?_)⟩
    · have b8 := n8.at' b5
      have n08 := (n0.trans n5).trans n8
      have fin : ∀ w', Mod St.no w w' → R (.bool (ruleB x.k p key)) w' := by
        intro w' m
        have h' := h w' m
        rw [goesB, hg, hc, Bool.true_and, Bool.true_and] at h'
        exact h'
      refine ⟨_, by rw [cl1 b8]; rfl, ca67 x.k w8 _ (ifK_eq (fun h1 => ?_) (fun h1 => ifK_eq (fun h2 => ?_) (fun h2 => ?_)))⟩
      · refine ⟨_, rfl, ?_⟩
        refine (ca90 p key w8 _ ?_ : Ca _ _ _ _ _)
        refine ⟨_, rfl, ?_⟩
        have h' := fin w8 n08
        rw [ruleB, if_pos h1] at h'
        rw [byte_eq]
        exact h'
      · refine ⟨_, rfl, ?_⟩
        refine (ca91 p key w8 _ ?_ : Ca _ _ _ _ _)
        refine ⟨_, rfl, ?_⟩
        have h' := fin w8 n08
        rw [ruleB, if_neg h1, if_pos h2] at h'
        rw [byte_eq]
        exact h'
      · refine ⟨_, rfl, ?_⟩
        refine (match_ok p key w8 hp hk _ fun w15 n15 => ?_ : Ca _ _ _ _ _)
        refine ⟨_, rfl, ?_⟩
        have h' := fin w15 (n08.trans n15)
        rw [ruleB, if_neg h1, if_neg h2] at h'
        exact h'
    · have h' := h w8 ((n0.trans n5).trans n8)
      rw [goesB, hc, Bool.false_and, Bool.and_false] at h'
      exact h'
  · have h' := h w5 (n0.trans n5)
    rw [goesB, hg, Bool.false_and] at h'
    exact h'

/-! ### Queues, Who -/
theorem queueN (w : World) : NameB (.func (.func 62) #[] #[]) (fun b => b.q) w := by
  intro b w' _ R hR
  refine (ca62 b.x b.q b.p w' R ?_ : Ca _ _ _ _ _)
  intro u0 e0
  have n0 : Mod no w' u0 := by subst e0; exact Mod.alloc _ _
  have b0 : Bc u0 w'.heap.size b := by subst e0; exact new_at _ _
  clear e0
  exact ⟨_, by rw [cl1 b0]; rfl, hR u0 n0⟩
theorem whoN (w : World) : NameB (.func (.func 65) #[] #[]) (fun b => b.x) w := by
  intro b w' _ R hR
  refine (ca65 b.x b.q b.p w' R ?_ : Ca _ _ _ _ _)
  intro u0 e0
  have n0 : Mod no w' u0 := by subst e0; exact Mod.alloc _ _
  have b0 : Bc u0 w'.heap.size b := by subst e0; exact new_at _ _
  clear e0
  exact ⟨_, by rw [cl1 b0]; rfl, hR u0 n0⟩
/-- The queues of an exchange and a key. -/
def QueuesS (D : List Exc) (B : List Bnd) (ex key : ByteArray) (n : ByteArray) : Prop := hx ex D = true ∧ SomeB (fun b => decide (b.x = ex) && goesB (fx ex D) b.p key) (fun b => b.q) B n
def WhoS (B : List Bnd) (q : ByteArray) (n : ByteArray) : Prop := SomeB (fun b => decide (b.q = q)) (fun b => b.x) B n
section
variable {w : World} {t m1 m2 : Nat} {D : List Exc} {B : List Bnd} (hT : Tbl w t m1 m2 D B)
include hT
theorem queues_ok (hl : B.length < 1000000000) (hB : ∀ b ∈ B, b.p.size < 1000000000) (ex key : ByteArray) (hk : key.size < 1000000000) (R : Value → World → Prop) (hR : ∀ w' a l c ys, Strs w' a l c ys → NamesOf (QueuesS D B ex key) ys → ys.length ≤ B.length → Mod St.no w w' → R (.slice a l c) w') :
    Ca Tryz.prog 28 #[.pointer (some ⟨t, 0, none⟩), .string ex, .string key] w R := by
  refine ca28 (some ⟨t, 0, none⟩) ex key w R ?_
  intro w0 e0
  have n0 : Mod no w w0 := by subst e0; exact Mod.alloc _ _
  have b0 : w0.heap[w.heap.size]? = some (.cells #[.string ex] 9 (0, 0)) := by subst e0; exact new_at _ _
  clear e0
  intro w1 e0
  have n1 : Mod no w0 w1 := by subst e0; exact Mod.alloc _ _
  have b1 : w1.heap[w0.heap.size]? = some (.cells #[.string key] 9 (0, 0)) := by subst e0; exact new_at _ _
  clear e0
  have b0 := n1.at' b0
  have n01 := n0.trans n1
  refine ⟨_, by rw [cl b0]; rfl, find_ok (hT.no n01) ex _ fun w4 n4 => ⟨_, _, _, _, rfl, ?_⟩⟩
  intro w9 e0
  have n9 : Mod no w4 w9 := by subst e0; exact Mod.alloc _ _
  have b9 : Xc w9 w4.heap.size exc0 := by subst e0; exact new_at _ _
  clear e0
  refine put3 b9 fun w15 n15 b15 => ?_
  have n415 : Mod St.no w4 w15 := n9.new n15 fun k hk => by cases hk; exact Nat.le_refl _
  have n15' := (n01.trans n4).trans n415
  have b0 := (n4.trans n415).at' b0
  have b1 := (n4.trans n415).at' b1
  refine ifK_of (fun hh => ?_) (fun hh => ?_)
  · have hh : hx ex D = false := by simpa using hh
    refine hR w15 none 0 0 [] (Els.nil _ _) ⟨.nil, fun n => ⟨fun h => (by cases h), fun h => ?_⟩⟩ (Nat.zero_le _) n15'
    rw [h.1] at hh; cases hh
  have hh : hx ex D = true := by simpa using hh
  refine names_ok _ _ _ _ _ _ (fun b => decide (b.x = ex) && goesB (fx ex D) b.p key) (fun b => b.q) (hT.no n15') hl (fun b hb w' n K hK => ?_) (queueN w15) _ fun w17 a l c ys hy hn hyl n17 => ⟨_, _, _, rfl, ?_⟩
  · refine (ca60 b.x b.q b.p (some ⟨w.heap.size, 0, none⟩) (some ⟨w4.heap.size, 0, none⟩) (some ⟨w0.heap.size, 0, none⟩) w' K ?_ : Ca _ _ _ _ _)
    intro u0 e0
    have m0 : Mod no w' u0 := by subst e0; exact Mod.alloc _ _
    have c0 : Bc u0 w'.heap.size b := by subst e0; exact new_at _ _
    clear e0
    have nn := n.trans m0
    have b0 := nn.at' b0
    have b1 := nn.at' b1
    have b15 := nn.at' b15
    refine ⟨_, by rw [cl1 c0]; rfl, _, by rw [cl b0]; rfl, ?_⟩
    rw [byte_eq]
    refine ifK_dec (fun he => ?_) (fun he => ?_)
    · refine ⟨_, by rw [cl1 b15]; rfl, _, by rw [cl1 b15]; rfl, _, by rw [cl1 b15]; rfl, _, by rw [cl1 c0]; rfl, _, by rw [cl b1]; rfl, (fitsP_ok (fx ex D) b.p key u0 (hB b hb) hk _ fun u12 m12 => ?_ : Ca _ _ _ _ _)⟩
      refine ⟨_, rfl, ?_⟩
      have h' : K (.bool (decide (b.x = ex) && goesB (fx ex D) b.p key)) u12 := hK u12 (m0.trans m12)
      rw [decide_eq_true he, Bool.true_and] at h'
      exact h'
    · have h' : K (.bool (decide (b.x = ex) && goesB (fx ex D) b.p key)) u0 := hK u0 m0
      rw [decide_eq_false he, Bool.false_and] at h'
      exact h'
  · exact hR w17 a l c ys hy ⟨hn.rise, fun n => by rw [hn.mem]; exact ⟨fun h => ⟨hh, h⟩, fun h => h.2⟩⟩ hyl (n15'.trans n17)
theorem who_ok (hl : B.length < 1000000000) (q : ByteArray) (R : Value → World → Prop) (hR : ∀ w' a l c ys, Strs w' a l c ys → NamesOf (WhoS B q) ys → ys.length ≤ B.length → Mod St.no w w' → R (.slice a l c) w') :
    Ca Tryz.prog 30 #[.pointer (some ⟨t, 0, none⟩), .string q] w R := by
  refine ca30 (some ⟨t, 0, none⟩) q w R ?_
  intro w0 e0
  have n0 : Mod no w w0 := by subst e0; exact Mod.alloc _ _
  have b0 : w0.heap[w.heap.size]? = some (.cells #[.string q] 9 (0, 0)) := by subst e0; exact new_at _ _
  clear e0
  refine names_ok _ _ _ _ _ _ (fun b => decide (b.q = q)) (fun b => b.x) (hT.no n0) hl (fun b hb w' n K hK => ?_) (whoN w0) _ fun w17 a l c ys hy hn hyl n17 => ⟨_, _, _, rfl, hR w17 a l c ys hy hn hyl (n0.trans n17)⟩
  refine (ca64 b.x b.q b.p (some ⟨w.heap.size, 0, none⟩) w' K ?_ : Ca _ _ _ _ _)
  intro u0 e0
  have m0 : Mod no w' u0 := by subst e0; exact Mod.alloc _ _
  have c0 : Bc u0 w'.heap.size b := by subst e0; exact new_at _ _
  clear e0
  have b0 := (n.trans m0).at' b0
  refine ⟨_, by rw [cl1 c0]; rfl, _, by rw [cl b0]; rfl, ?_⟩
  rw [byte_eq]
  exact hK u0 m0
end
theorem equal_ok {w : World} {a : Option Addr} {l c : Nat} {xs : List ByteArray} (hx : Strs w a l c xs) {a' : Option Addr} {l' c' : Nat} {ys : List ByteArray} (hy : Strs w a' l' c' ys) (hl : l < 1000000000) (R : Value → World → Prop) (h : ∀ w', Mod St.no w w' → R (.bool (decide (xs = ys))) w') :
    Ca Tryz.prog 70 #[.slice a l c, .slice a' l' c'] w R := by
  refine ca70 a l c a' l' c' w R ?_
  have e1 := hx.len.1
  have e2 := hy.len.1
  refine ifK_of (fun hne => ?_) (fun he => ?_)
  · have h' := h w (Mod.refl _ _)
    rw [decide_eq_false (fun e => by
      have : l = l' := by rw [← e1, ← e2, e]
      subst this
      simp at hne)] at h'
    exact h'
  have he : l = l' := by have : (l : Int) = l' := by simpa using he
                         omega
  subst he
  refine ⟨fun x w' => ∃ i : Nat, x = i ∧ i ≤ l ∧ Mod St.no w w' ∧ (xs = ys ↔ xs.drop i = ys.drop i), fun x _ => ((l : Int) - x).toNat, ⟨0, rfl, Nat.zero_le _, Mod.refl _ _, Iff.rfl⟩, ?_⟩
  rintro _ _ w4 ⟨i, rfl, hi, n4, hd⟩
  refine ifK_dec (fun hlt => ?_) (fun hge => ?_)
  · intro w5 e0
    have n5 : Mod no w4 w5 := by subst e0; exact Mod.drew _
    clear e0
    have n05 := n4.trans n5
    refine (hx.no n05).rd i rfl (by omega) ((hy.no n05).rd i rfl (by omega) ?_)
    have e1 : IntKind.i64.wrap ((i : Int) + 1) = ((i + 1 : Nat) : Int) := (by first | (simp only [IntKind.wrap_i64]; omega) | omega)
    rw [e1]
    clear e1
    rw [byte_eq]
    have st : xs.drop i = ys.drop i ↔ (at0 xs i = at0 ys i ∧ xs.drop (i + 1) = ys.drop (i + 1)) := by
      rw [List.drop_eq_getElem_cons (show i < xs.length by omega), List.drop_eq_getElem_cons (show i < ys.length by omega), List.cons.injEq, at0_eq, at0_eq]
    refine ifK_not (fun hne => ?_) (fun heq => ?_)
    · have h' := h w5 n05
      rw [decide_eq_false (fun e => of_decide_eq_false hne (st.1 (hd.1 e)).1)] at h'
      exact h'
    · exact ⟨⟨i + 1, rfl, by omega, n05, hd.trans (st.trans ⟨fun h => h.2, fun h => ⟨of_decide_eq_true heq, h⟩⟩)⟩, by simp only; omega⟩
  · have h' := h w4 n4
    rw [decide_eq_true (hd.2 (by rw [List.drop_eq_nil_of_le (by omega), List.drop_eq_nil_of_le (by omega)]))] at h'
    exact h'
end Go.Proofs.YtehhhkcemmfjpaaGreatDoor

/- Arguments that are structs, opened field by field. It names no program. -/
namespace Go.Proofs.YtehhhkcemmfjpaaGreatDoor.St
open Go Go.ChangeShapes Go.WideShapes Go.Deep

section
variable {H : Type} {enc : TypeId × Value → H} {P : Program} {w : World} {base : Nat} {spare : Nat → Bool} {held : Bool}
theorem open_agg {r : Reach} {b0 : Nat} {t : TypeId} {fs : Array Field} {v : Value} {d : DataW H} {p : List MemPlace} (hs : P.underlying t = some (.struct fs)) (hone : oneCellFields P fs = true) (hC : P.cellsOf t = fs.size)
    (hv : Value.okWide P w r b0 t v) (h : DataW.Trod enc P w base spare held t v d p) :
    ∃ (cs : Array Value) (ys : List (DataW H × List MemPlace)) (n : Nat), v = .agg cs ∧ cs.size = fs.size ∧ d = .agg (ys.map (·.1)) ∧ ys.length = fs.size ∧
      ∀ (j : Nat) (f : Field), fs[j]? = some f → ∃ c y, cs[j]? = some c ∧ ys[j]? = some y ∧ DataW.trod enc P w base spare held n f.type [c] = some y := by
  obtain ⟨cs, rfl, hsz⟩ := okWide_struct hs hv
  obtain ⟨fuel, hf⟩ := h
  obtain ⟨ys, n, _, hy, _, hlen, hg⟩ := DataW.trod_struct hs hf
  simp only [Prod.mk.injEq] at hy
  refine ⟨cs, ys, n, rfl, hsz.trans hC, hy.1, hlen, fun j f hj => ?_⟩
  obtain ⟨ho, hk⟩ := hone_of hone j f hj
  have hjl : j < fs.size := (Array.getElem?_eq_some_iff.1 hj).1
  have hjc : j < cs.size := by rw [hsz, hC]; exact hjl
  have hg := hg j f hj
  rw [ho, hk] at hg
  have hone' : ((Value.agg cs).cells.toList.drop j).take 1 = [cs[j]] := by
    show (cs.toList.drop j).take 1 = _
    rw [List.drop_eq_getElem_cons (by simpa using hjc)]
    simp
  rw [hone'] at hg
  have hys : ys[j]? = some (ys[j]'(by omega)) := List.getElem?_eq_getElem (by omega)
  exact ⟨cs[j], _, Array.getElem?_eq_getElem hjc, hys, hg.trans hys⟩
theorem agg_weights {t : TypeId} {fs : Array Field} {ys : List (DataW H × List MemPlace)} (hs : P.underlying t = some (.struct fs)) {j : Nat} {f : Field} (hj : fs[j]? = some f) {y : DataW H × List MemPlace} (hy : ys[j]? = some y)
    {B : Nat} (h : ∀ n ∈ (DataW.agg (ys.map (·.1))).weights P t, n ≤ B) : ∀ n ∈ y.1.weights P f.type, n ≤ B := by
  intro n hn
  refine h n ?_
  rw [DataW.weights, hs]
  refine DataW.weights_mem_each (j := j) (t := f.type) (d := y.1) ?_ ?_ n hn
  · rw [List.getElem?_map, Array.getElem?_toList, hj]; rfl
  · rw [List.getElem?_map, hy]; rfl
theorem slice_weights {t e : TypeId} {elems spare' : List (DataW H)} (hs : P.underlying t = some (.slice e)) {x : DataW H} (hx : x ∈ elems ++ spare') {B : Nat} (h : ∀ n ∈ (DataW.slice elems spare').weights P t, n ≤ B) : ∀ n ∈ x.weights P e, n ≤ B := by
  have all : ∀ (l : List (DataW H)), x ∈ l → ∀ n ∈ x.weights P e, n ∈ DataW.weightsAll P e l := by
    intro l
    induction l with
    | nil => intro h; cases h
    | cons y r ih =>
      intro h n hn
      rw [DataW.weightsAll, List.mem_append]
      rcases List.mem_cons.1 h with rfl | h
      · exact .inl hn
      · exact .inr (ih h n hn)
  intro n hn
  refine h n ?_
  rw [DataW.weights, hs]
  rcases List.mem_append.1 hx with hx | hx
  · exact List.mem_cons_of_mem _ (List.mem_append_left _ (all _ hx n hn))
  · exact List.mem_cons_of_mem _ (List.mem_append_right _ (all _ hx n hn))
theorem slice_size {t e : TypeId} {elems spare' : List (DataW H)} (hs : P.underlying t = some (.slice e)) {B : Nat} (h : ∀ n ∈ (DataW.slice elems spare').weights P t, n ≤ B) : (elems.length + spare'.length) * P.bytesOf e ≤ B := by
  refine h _ ?_
  rw [DataW.weights, hs]
  exact List.mem_cons_self
end
end Go.Proofs.YtehhhkcemmfjpaaGreatDoor.St

/- Arguments that are rows of structs: they are read, never written. It names no program. -/
namespace Go.Proofs.YtehhhkcemmfjpaaGreatDoor.St
open Go Go.ChangeShapes Go.WideShapes Go.Deep

/-- An argument's row. -/
structure ArgRow {α : Type} (L : Lay α) (w : World) (a : Option Addr) (l c : Nat) (xs : List α) : Prop where
  len : xs.length = l
  lc : l ≤ c
  cm : c ≤ 9223372036854775807
  blk : ∀ ad, a = some ad → 0 < l → ad.block < w.heap.size
  get : ∀ (i : Nat) (h : i < xs.length), ∃ ad, a = some ad ∧ ∀ j v, (L.cs xs[i])[j]? = some v → w.cell? (Addr.add (Addr.add ad (i * L.s)) j) = some v
theorem cell_no {w w' : World} (h : Mod no w w') {ad : Addr} (hb : ad.block < w.heap.size) : w'.cell? ad = w.cell? ad := by
  have := h.keep ad.block hb id
  unfold World.cell?
  rw [this]
theorem add_block (ad : Addr) (n : Nat) : (Addr.add ad n).block = ad.block := by unfold Addr.add; split <;> rfl
theorem ArgRow.no {α : Type} {L : Lay α} {w w' : World} {a : Option Addr} {l c : Nat} {xs : List α} (h : ArgRow L w a l c xs) (hm : Mod no w w') : ArgRow L w' a l c xs := by
  refine ⟨h.len, h.lc, h.cm, fun ad had hl => Nat.lt_of_lt_of_le (h.blk ad had hl) hm.size, fun i hi => ?_⟩
  obtain ⟨ad, had, hg⟩ := h.get i hi
  refine ⟨ad, had, fun j v hj => ?_⟩
  rw [cell_no hm (by rw [add_block, add_block]; exact h.blk ad had (by have := h.len; omega))]
  exact hg j v hj
theorem cell_lt {w : World} {ad : Addr} {v : Value} (h : w.cell? ad = some v) : ad.block < w.heap.size := by
  unfold World.cell? at h
  cases hh : w.heap[ad.block]? with
  | none => rw [hh] at h; cases h
  | some o => exact lt_of_heap hh

section
variable {H : Type} {enc : TypeId × Value → H} {P : Program} {w : World} {base : Nat} {spare : Nat → Bool} {held : Bool}
theorem open_slice_fields {t e : TypeId} {fs : Array Field} {fuel : Nat} {cs : List Value} {x : DataW H × List MemPlace} (ht : P.underlying t = some (.slice e)) (he : P.underlying e = some (.struct fs))
    (hone : oneCellFields P fs = true) (hC : P.cellsOf e = fs.size) (h : DataW.trod enc P w base spare held fuel t cs = some x) :
    (cs = [.slice none 0 0] ∧ x = (.nil, [])) ∨
    ∃ (a : Addr) (len cap m : Nat) (D : Nat → DataW H) (Pl : Nat → List MemPlace), cs = [.slice (some a) len cap] ∧ base ≤ a.block ∧ len ≤ cap ∧ cap ≤ maxLen ∧ m = (if spare a.block then cap else len) ∧
      x = (.slice ((List.range len).map D) ((List.range (m - len)).map fun j => D (len + j)), MemPlace.row a (m * fs.size) ++ (List.range m).flatMap Pl) ∧
      ∀ i, i < m → ∃ (ys : List (DataW H × List MemPlace)) (n : Nat), D i = .agg (ys.map (·.1)) ∧ Pl i = ys.flatMap (·.2) ∧ ys.length = fs.size ∧
        ∀ (j : Nat) (f : Field), fs[j]? = some f → ∃ (v : Value) (y : DataW H × List MemPlace), w.cell? (a.add (i * fs.size + j)) = some v ∧ ys[j]? = some y ∧ DataW.trod enc P w base spare held n f.type [v] = some y := by
  rcases open_slice ht h with h0 | ⟨a, len, cap, m, n, D, Pl, hcs, hb, hl, hm, hmm, hx, hi⟩
  · exact .inl h0
  · refine .inr ⟨a, len, cap, m, D, Pl, hcs, hb, hl, hm, hmm, by rw [hC] at hx; exact hx, fun i him => ?_⟩
    obtain ⟨cs', hc, ht'⟩ := hi i him
    rw [hC] at hc
    obtain ⟨ys, n', hn', hy, hlen, hyl, hf⟩ := DataW.trod_struct he ht'
    obtain ⟨_, hcl, hat⟩ := World.cells?_some hc
    simp only [Prod.mk.injEq] at hy
    refine ⟨ys, n', hy.1, hy.2, hyl, fun j f hj => ?_⟩
    obtain ⟨ho, hk⟩ := hone_of hone j f hj
    have hjl : j < fs.size := (Array.getElem?_eq_some_iff.1 hj).1
    have hcell := hat j hjl
    have hv : cs'[j]? = some (cs'[j]'(by omega)) := List.getElem?_eq_getElem (by omega)
    have h1 := hf j f hj
    rw [ho, hk] at h1
    have hone' : (cs'.drop j).take 1 = [cs'[j]'(by omega)] := by
      rw [List.drop_eq_getElem_cons (by omega)]
      rfl
    rw [hone'] at h1
    have hys : ys[j]? = some (ys[j]'(by omega)) := List.getElem?_eq_getElem (by omega)
    refine ⟨_, _, ?_, hys, h1.trans hys⟩
    rw [← Go.Deep.add_add, hcell, hv]
end

/-- An argument of a slice type whose elements are such structs: each is read as Q says. -/
theorem args_row {H : Type} {enc : TypeId × Value → H} {P : Program} {w : World} {v : Value} {d : DataW H} {p : List MemPlace} {base : Nat} {r : Reach} {b0 : Nat} {t e : TypeId} {fs : Array Field} {α : Type} [Inhabited α] {L : Lay α} (Q : α → Prop) {B : Nat}
    (ht : P.underlying t = some (.slice e)) (he : P.underlying e = some (.struct fs)) (hone : oneCellFields P fs = true) (hC : P.cellsOf e = fs.size) (hs : L.s = fs.size)
    (hv : Value.okWide P w r b0 t v) (h : DataW.Trod enc P w base (fun _ => true) true t v d p) (hz : ∀ n ∈ d.weights P t, n ≤ B)
    (hx : ∀ (ys : List (DataW H × List MemPlace)) (n : Nat) (V : Nat → Value), (∀ (j : Nat) (f : Field), fs[j]? = some f → ∃ y, ys[j]? = some y ∧ DataW.trod enc P w base (fun _ => true) true n f.type [V j] = some y ∧ ∀ m ∈ y.1.weights P f.type, m ≤ B) →
      ∃ x : α, (∀ j u, (L.cs x)[j]? = some u → V j = u) ∧ Q x) :
    ∃ a l c xs, v = .slice a l c ∧ ArgRow L w a l c xs ∧ (∀ x ∈ xs, Q x) ∧ c * P.bytesOf e ≤ B := by
  obtain ⟨a, l, c, rfl⟩ := okWide_slice ht hv
  obtain ⟨fuel, hf⟩ := h
  rcases open_slice_fields ht he hone hC hf with ⟨hcs, _⟩ | ⟨ad, len, cap, m, D, Pl, hcs, _, hl, hm, hmm, hxx, hi⟩
  · simp only [Value.cells, List.cons.injEq, and_true] at hcs
    injection hcs with h1 h2 h3
    subst h1; subst h2; subst h3
    exact ⟨none, 0, 0, [], rfl, ⟨rfl, Nat.le_refl _, by decide, fun ad h => (by cases h), fun i h => (by simp at h)⟩, fun x h => (by cases h), by rw [Nat.zero_mul]; exact Nat.zero_le _⟩
  · simp only [Value.cells, List.cons.injEq, and_true] at hcs
    injection hcs with h1 h2 h3
    subst h1; subst h2; subst h3
    have hmc : m = c := by rw [hmm]; rfl
    have hd : d = .slice ((List.range l).map D) ((List.range (m - l)).map fun j => D (l + j)) := congrArg Prod.fst hxx
    have hone : ∀ i, i < l → ∃ x : α, (∀ j u, (L.cs x)[j]? = some u → w.cell? (Addr.add ad (i * L.s + j)) = some u) ∧ Q x := by
      intro i hil
      obtain ⟨ys, n, hD, _, _, hg⟩ := hi i (by omega)
      have hDz : ∀ n ∈ (D i).weights P e, n ≤ B := by
        rw [hd] at hz
        exact slice_weights ht (List.mem_append_left _ (List.mem_map.2 ⟨i, List.mem_range.2 hil, rfl⟩)) hz
      have hch : ∀ j, ∃ v : Value, ∀ f, fs[j]? = some f → w.cell? (ad.add (i * fs.size + j)) = some v ∧ ∃ y, ys[j]? = some y ∧ DataW.trod enc P w base (fun _ => true) true n f.type [v] = some y := by
        intro j
        cases hj : fs[j]? with
        | none => exact ⟨.tuple #[], fun f hf => by cases hf⟩
        | some f =>
          obtain ⟨v, y, q1, q2, q3⟩ := hg j f hj
          exact ⟨v, fun f' hf' => by cases hf'; exact ⟨q1, y, q2, q3⟩⟩
      obtain ⟨V, hV⟩ := Classical.axiomOfChoice hch
      obtain ⟨x, hx1, hx2⟩ := hx ys n V fun j f hj => by
        obtain ⟨_, y, q2, q3⟩ := hV j f hj
        rw [hD] at hDz
        exact ⟨y, q2, q3, agg_weights he hj q2 hDz⟩
      refine ⟨x, fun j u hj => ?_, hx2⟩
      have hjs : j < fs.size := by
        have := (List.getElem?_eq_some_iff.1 hj).1
        rw [L.len] at this
        omega
      have := (hV j _ (Array.getElem?_eq_getElem hjs)).1
      rw [hs, this, hx1 j u hj]
    have hall : ∀ i, ∃ x : α, i < l → (∀ j u, (L.cs x)[j]? = some u → w.cell? (Addr.add ad (i * L.s + j)) = some u) ∧ Q x := by
      intro i
      by_cases h : i < l
      · obtain ⟨x, hx⟩ := hone i h
        exact ⟨x, fun _ => hx⟩
      · exact ⟨default, fun h' => absurd h' h⟩
    obtain ⟨f, hf⟩ := Classical.axiomOfChoice hall
    refine ⟨some ad, l, c, (List.range l).map f, rfl, ⟨by simp, hl, by simpa [maxLen] using hm, fun ad' had hl0 => ?_, fun i h => ?_⟩, fun x hx => ?_, ?_⟩
    · cases had
      have hp := (hf 0 hl0).1 0 ((L.cs (f 0))[0]'(by rw [L.len]; exact L.pos)) (List.getElem?_eq_getElem _)
      have := cell_lt hp
      rwa [add_block] at this
    · refine ⟨ad, rfl, fun j v hj => ?_⟩
      rw [List.getElem_map, List.getElem_range] at hj
      have := (hf i (by simpa using h)).1 j v hj
      rwa [← Go.Deep.add_add] at this
    · obtain ⟨i, hi, rfl⟩ := List.mem_map.1 hx
      exact (hf i (List.mem_range.1 hi)).2
    · rw [hd] at hz
      have := slice_size ht hz
      rw [List.length_map, List.length_map, List.length_range, List.length_range, show l + (m - l) = c by omega] at this
      exact this
end Go.Proofs.YtehhhkcemmfjpaaGreatDoor.St

/- Arguments, whatever they are made of, told by their leaves. It names no program. -/
namespace Go.Proofs.YtehhhkcemmfjpaaGreatDoor.St
open Go Go.ChangeShapes Go.WideShapes Go.Deep

/-- These cells are a value of type t, as far as n steps go. -/
def Leaf (P : Program) (w : World) (B : Nat) : Nat → TypeId → List Value → Prop
  | 0, _, _ => True
  | n + 1, t, cs => match P.underlying t with
    | some (.struct fs) => cs.length = P.cellsOf t ∧ ∀ (i : Nat) (f : Field), fs[i]? = some f → Leaf P w B n f.type ((cs.drop f.offset).take (P.cellsOf f.type))
    | some (.int k) => ∃ x, cs = [.int k x] ∧ (Lit.int k x).wf = true
    | some .string => ∃ s : ByteArray, cs = [.string s] ∧ s.size ≤ B
    | some .bool => ∃ b, cs = [.bool b]
    | some (.slice e) => ∃ (a : Option Addr) (l c : Nat), cs = [.slice a l c] ∧ l ≤ c ∧ c ≤ 9223372036854775807 ∧ c * P.bytesOf e ≤ B ∧ (a = none → c = 0) ∧
        ∀ i, i < l → ∃ ad, a = some ad ∧ ∃ cs', cs'.length = P.cellsOf e ∧ (∀ j v, cs'[j]? = some v → w.cell? (Addr.add (Addr.add ad (i * P.cellsOf e)) j) = some v) ∧ Leaf P w B n e cs'
    | _ => True
section
variable {H : Type} {enc : TypeId × Value → H} {P : Program} {w : World} {base : Nat} {B : Nat}
theorem leaf_of : ∀ (m : Nat) {t : TypeId} {cs : List Value} {x : DataW H × List MemPlace} {fuel : Nat}, DataW.trod enc P w base (fun _ => true) true fuel t cs = some x → (∀ n ∈ x.1.weights P t, n ≤ B) → Leaf P w B m t cs
  | 0, _, _, _, _, _, _ => trivial
  | m + 1, t, cs, x, fuel, h, hz => by
    unfold Leaf
    split
    · rename_i fs ht
      obtain ⟨ys, n, _, rfl, hl, hlen, hf⟩ := DataW.trod_struct ht h
      refine ⟨hl, fun i f hi => ?_⟩
      have h1 := hf i f hi
      have hil : i < fs.size := (Array.getElem?_eq_some_iff.1 hi).1
      have hys : ys[i]? = some (ys[i]'(by omega)) := List.getElem?_eq_getElem (by omega)
      rw [hys] at h1
      exact leaf_of m h1 (agg_weights ht hi hys hz)
    · rename_i k ht
      obtain ⟨n, h1, _, h2⟩ := DataW.trod_int ht h
      exact ⟨n, h1, h2⟩
    · rename_i ht
      obtain ⟨s, h1, rfl, _⟩ := DataW.trod_string ht h
      exact ⟨s, h1, hz _ (by simp [DataW.weights])⟩
    · rename_i ht
      obtain ⟨b, h1, _⟩ := DataW.trod_bool ht h
      exact ⟨b, h1⟩
    · rename_i e ht
      rcases DataW.trod_slice ht h with ⟨h1, _⟩ | ⟨a, len, cap, elems, rest, n, _, h1, rfl, _, hl, hm, hel, hget, hsp, _⟩
      · exact ⟨none, 0, 0, h1, Nat.le_refl _, by decide, by rw [Nat.zero_mul]; exact Nat.zero_le _, fun _ => rfl, fun i hi => by omega⟩
      · refine ⟨some a, len, cap, h1, hl, by simpa [maxLen] using hm, ?_, (fun h => by cases h), fun i hi => ⟨a, rfl, ?_⟩⟩
        · have := slice_size ht hz
          rw [List.length_map, List.length_map, hel, (hsp rfl).1, show len + (cap - len) = cap by omega] at this
          exact this
        · have h2 := hget i hi
          have hys : elems[i]? = some (elems[i]'(by omega)) := List.getElem?_eq_getElem (by omega)
          rw [hys] at h2
          obtain ⟨cs', h3, h4⟩ := Option.bind_eq_some_iff.1 h2
          obtain ⟨_, hcl, hat⟩ := World.cells?_some h3
          refine ⟨cs', hcl, fun j v hj => ?_, leaf_of m h4 ?_⟩
          · have hjl : j < P.cellsOf e := by have := (List.getElem?_eq_some_iff.1 hj).1; omega
            rw [hat j hjl, hj]
          · exact slice_weights ht (List.mem_append_left _ (List.mem_map.2 ⟨_, List.getElem_mem (by omega), rfl⟩)) hz
    · trivial
/-- A row whose elements are told by their leaves. -/
theorem leaf_row {α : Type} [Inhabited α] {L : Lay α} (Q : α → Prop) {e : TypeId} {a : Option Addr} {l c n : Nat} (hs : L.s = P.cellsOf e) (hx : ∀ cs, cs.length = L.s → Leaf P w B n e cs → ∃ x, L.cs x = cs ∧ Q x) (hl : l ≤ c) (hc : c ≤ 9223372036854775807)
    (h : ∀ i, i < l → ∃ ad, a = some ad ∧ ∃ cs', cs'.length = P.cellsOf e ∧ (∀ j v, cs'[j]? = some v → w.cell? (Addr.add (Addr.add ad (i * P.cellsOf e)) j) = some v) ∧ Leaf P w B n e cs') : ∃ xs, ArgRow L w a l c xs ∧ ∀ x ∈ xs, Q x := by
  have hall : ∀ i, ∃ x : α, i < l → (∃ ad, a = some ad ∧ ∀ j u, (L.cs x)[j]? = some u → w.cell? (Addr.add (Addr.add ad (i * L.s)) j) = some u) ∧ Q x := by
    intro i
    by_cases hi : i < l
    · obtain ⟨ad, had, cs', h1, h2, h3⟩ := h i hi
      obtain ⟨x, rfl, hq⟩ := hx cs' (by rw [h1, hs]) h3
      exact ⟨x, fun _ => ⟨⟨ad, had, fun j u hj => by rw [hs]; exact h2 j u hj⟩, hq⟩⟩
    · exact ⟨default, fun h' => absurd h' hi⟩
  obtain ⟨f, hf⟩ := Classical.axiomOfChoice hall
  refine ⟨(List.range l).map f, ⟨by simp, hl, hc, fun ad had hl0 => ?_, fun i hi => ?_⟩, fun x hx => ?_⟩
  · obtain ⟨⟨ad', had', hg⟩, _⟩ := hf 0 hl0
    rw [had] at had'
    cases had'
    have := cell_lt (hg 0 ((L.cs (f 0))[0]'(by rw [L.len]; exact L.pos)) (List.getElem?_eq_getElem _))
    rwa [add_block, add_block] at this
  · rw [List.length_map, List.length_range] at hi
    obtain ⟨⟨ad, had, hg⟩, _⟩ := hf i hi
    refine ⟨ad, had, fun j v hj => ?_⟩
    rw [List.getElem_map, List.getElem_range] at hj
    exact hg j v hj
  · obtain ⟨i, hi, rfl⟩ := List.mem_map.1 hx
    exact (hf i (List.mem_range.1 hi)).2
end

/-! ### Rows of a program's own, read as an argument's; and an argument's, appended -/
theorem Row.arg {α : Type} {L : Lay α} {e : TypeId} {w : World} {a : Option Addr} {l c : Nat} {xs : List α} (h : Row L e w a l c xs) : ArgRow L w a l c xs := by
  have hl := h.len
  refine ⟨hl.1, hl.2.1, hl.2.2, fun ad had _ => ?_, fun i hi => ?_⟩
  · rcases h.block with ⟨h0, _⟩ | ⟨g, cur, hg, hh, _⟩
    · rw [h0] at had; cases had
    · rw [hg] at had; cases had; exact lt_of_heap hh
  · obtain ⟨g, had, hg⟩ := h.get hi
    exact ⟨_, had, hg⟩
theorem Lay.div {α : Type} (L : Lay α) : ∀ {xs : List α} {k : Nat} {v : Value}, (xs.flatMap L.cs)[k]? = some v → ∃ (i : Nat) (hi : i < xs.length) (j : Nat), k = i * L.s + j ∧ (L.cs (xs[i]'hi))[j]? = some v
  | [], k, v, h => by simp at h
  | x :: r, k, v, h => by
    rw [List.flatMap_cons] at h
    by_cases hk : k < L.s
    · rw [List.getElem?_append_left (by rw [L.len]; exact hk)] at h
      exact ⟨0, by simp, k, by simp, h⟩
    · rw [List.getElem?_append_right (by rw [L.len]; omega), L.len] at h
      obtain ⟨i, hi, j, he, hj⟩ := L.div h
      exact ⟨i + 1, by simpa using hi, j, by rw [Nat.add_mul]; omega, by simpa using hj⟩
theorem ArgRow.all {α : Type} {L : Lay α} {w : World} {a : Option Addr} {l c : Nat} {xs : List α} (h : ArgRow L w a l c xs) : (∀ ad, a = some ad → ∀ j v, (xs.flatMap L.cs)[j]? = some v → w.cell? (ad.add j) = some v) := by
  intro ad had k v hk
  obtain ⟨i, hi, j, rfl, hj⟩ := L.div hk
  obtain ⟨ad', had', hg⟩ := h.get i hi
  rw [had] at had'
  cases had'
  rw [← Go.Deep.add_add]
  exact hg j v hj
end Go.Proofs.YtehhhkcemmfjpaaGreatDoor.St

/- The formulas of functions, printed by a program of mine (gen.py) out of the translation. -/
namespace Go.Proofs.YtehhhkcemmfjpaaGreatDoor
open Go Go.Proofs.YtehhhkcemmfjpaaGreatDoor.St
open _root_.Go.Value (string int bool slice pointer agg tuple map func nilFunc iface)
open _root_.Go.World (cell? frozen? setCell alloc drew)
open _root_.Go.Addr (add)
open _root_.Go.Obj (cells)
open _root_.Go.IntKind (wrap i64 u64 i32 u32 u8)
set_option maxRecDepth 100000

/-- staith/staithref01.Texts -/
noncomputable def C27 : Code := (Tryz.f27.body).getD .skip
def pl27 : Nat → Plan
  | 6 => (.quiet 0 (.quiet 1 (.quiet 2 (.quiet 3 (.quiet 4 (.quiet 5 (.quiet 6 (.quiet 7 (.quiet 8 .done)))))))))
  | _ => .done
def ls27 : Nat → List (Nat × LT)
  | 6 => [(13, (.one (.int .i64)))]
  | _ => []
def W27 (a_a : Option Addr) (a_l : Nat) (_a_c : Nat) (ba : Option Addr) (bl : Nat) (_bc : Nat) (w : World) (R : Value → World → Prop) : Prop :=
  (ifK ((↑a_l : Int) != (↑bl : Int))
(R (bool false) (w))
(∃ z0 : Int → World → Prop, (∃ z1 : Int → World → Nat, ((z0 (0) (w)) ∧ (∀ (_ : Nat → Value), (∀ (x3 : Int), (∀ (w4 : World), ((z0 (x3) (w4)) → (ifK (decide (x3 < (↑a_l : Int)))
(atW (drew w4) (fun w5 =>
(∃ a6 : Addr, ((a_a = some a6) ∧ (((0 : Int) ≤ x3) ∧ (((x3 : Int) < (↑a_l : Int)) ∧ (∃ s7 : ByteArray, ((cell? w5 (add a6 (Int.toNat x3 * 1)) = some (string s7)) ∧ (∃ a8 : Addr, ((ba = some a8) ∧ (((0 : Int) ≤ x3) ∧ (((x3 : Int) < (↑bl : Int)) ∧ (∃ s9 : ByteArray, ((cell? w5 (add a8 (Int.toNat x3 * 1)) = some (string s9)) ∧ (ifK (!ByteArray.toList s7 == ByteArray.toList s9)
(R (bool false) (w5))
((z0 (wrap i64 (x3 + 1)) (w5)) ∧ (z1 (wrap i64 (x3 + 1)) w5 < z1 x3 w4)))))))))))))))))
(R (bool true) (w4)))))))))))
theorem ca27 (a_a : Option Addr) (a_l : Nat) (a_c : Nat) (ba : Option Addr) (bl : Nat) (bc : Nat) (w : World) (R : Value → World → Prop) (h : W27 a_a a_l a_c ba bl bc w R) : Ca Tryz.prog 27 ⟨[(.slice a_a a_l a_c), (.slice ba bl bc)]⟩ w R :=
  caB (fn := Tryz.f27) (pl := pl27) (ls := ls27) Tryz.func27 (by kernel_rfl) (by kernel_rfl) h
end Go.Proofs.YtehhhkcemmfjpaaGreatDoor

/- Rows of texts, held against one another. -/
namespace Go.Proofs.YtehhhkcemmfjpaaGreatDoor
open Go Go.Proofs.YtehhhkcemmfjpaaGreatDoor Go.Proofs.YtehhhkcemmfjpaaGreatDoor.St

/-- A row of texts that is read, wherever it begins. -/
abbrev AStr (w : World) (a : Option Addr) (l c : Nat) (xs : List ByteArray) : Prop := ArgRow (oneL Value.string (fun _ => rfl)) w a l c xs
theorem Els.astr {w : World} {a : Option Addr} {l c : Nat} {xs : List ByteArray} (h : Strs w a l c xs) : AStr w a l c xs := (Els.row (fun _ => rfl) h).arg
theorem texts_ok {w : World} {a : Option Addr} {l c : Nat} {xs : List ByteArray} (hx : AStr w a l c xs) {a' : Option Addr} {l' c' : Nat} {ys : List ByteArray} (hy : AStr w a' l' c' ys) (hl : l < 1000000000) (R : Value → World → Prop) (h : ∀ w', Mod St.no w w' → R (.bool (decide (xs = ys))) w') :
    Ca Tryz.prog 27 #[.slice a l c, .slice a' l' c'] w R := by
  refine ca27 a l c a' l' c' w R ?_
  have e1 := hx.len
  have e2 := hy.len
  refine ifK_of (fun hne => ?_) (fun he => ?_)
  · have h' := h w (Mod.refl _ _)
    rw [decide_eq_false (fun e => by
      have : l = l' := by rw [← e1, ← e2, e]
      subst this
      simp at hne)] at h'
    exact h'
  have he : l = l' := by have : (l : Int) = l' := by simpa using he
                         omega
  subst he
  refine ⟨fun x w' => ∃ i : Nat, x = i ∧ i ≤ l ∧ Mod St.no w w' ∧ (xs = ys ↔ xs.drop i = ys.drop i), fun x _ => ((l : Int) - x).toNat, ⟨0, rfl, Nat.zero_le _, Mod.refl _ _, Iff.rfl⟩, ?_⟩
  rintro _ _ w4 ⟨i, rfl, hi, n4, hd⟩
  have rd : ∀ {w5 : World} {p : Option Addr} {c5 : Nat} {zs : List ByteArray}, AStr w5 p l c5 zs → i < l → ∀ {K : ByteArray → Prop}, K (at0 zs i) → ∃ ad : Addr, p = some ad ∧ (0 : Int) ≤ (i : Int) ∧ (i : Int) < (↑l : Int) ∧ ∃ s : ByteArray, w5.cell? (Addr.add ad (Int.toNat (i : Int) * 1)) = some (.string s) ∧ K s := by
    intro w5 p c5 zs hz hil K hK
    have e3 := hz.len
    obtain ⟨ad, had, hg⟩ := hz.get i (by omega)
    have := hg 0 (.string zs[i]) rfl
    rw [Go.Deep.add_add] at this
    rw [at0_eq (by omega)] at hK
    exact ⟨ad, had, by omega, by omega, _, this, hK⟩
  refine ifK_dec (fun hlt => ?_) (fun hge => ?_)
  · intro w5 e0
    have n5 : Mod no w4 w5 := by subst e0; exact Mod.drew _
    clear e0
    have n05 := n4.trans n5
    refine rd (hx.no n05) (by omega) (rd (hy.no n05) (by omega) ?_)
    have e1 : IntKind.i64.wrap ((i : Int) + 1) = ((i + 1 : Nat) : Int) := (by first | (simp only [IntKind.wrap_i64]; omega) | omega)
    rw [e1]
    clear e1
    rw [byte_eq]
    have st : xs.drop i = ys.drop i ↔ (at0 xs i = at0 ys i ∧ xs.drop (i + 1) = ys.drop (i + 1)) := by
      rw [List.drop_eq_getElem_cons (show i < xs.length by omega), List.drop_eq_getElem_cons (show i < ys.length by omega), List.cons.injEq, at0_eq, at0_eq]
    refine ifK_not (fun hne => ?_) (fun heq => ?_)
    · have h' := h w5 n05
      rw [decide_eq_false (fun e => of_decide_eq_false hne (st.1 (hd.1 e)).1)] at h'
      exact h'
    · exact ⟨⟨i + 1, rfl, by omega, n05, hd.trans (st.trans ⟨fun h => h.2, fun h => ⟨of_decide_eq_true heq, h⟩⟩)⟩, by simp only; omega⟩
  · have h' := h w4 n4
    rw [decide_eq_true (hd.2 (by rw [List.drop_eq_nil_of_le (by omega), List.drop_eq_nil_of_le (by omega)]))] at h'
    exact h'
end Go.Proofs.YtehhhkcemmfjpaaGreatDoor

/- The formulas of functions, printed by a program of mine (gen.py) out of the translation. -/
namespace Go.Proofs.YtehhhkcemmfjpaaGreatDoor
open Go Go.Proofs.YtehhhkcemmfjpaaGreatDoor.St
open _root_.Go.Value (string int bool slice pointer agg tuple map func nilFunc iface)
open _root_.Go.World (cell? frozen? setCell alloc drew)
open _root_.Go.Addr (add)
open _root_.Go.Obj (cells)
open _root_.Go.IntKind (wrap i64 u64 i32 u32 u8)
set_option maxRecDepth 100000

/-- staith/staithlaw07.lives -/
noncomputable def C12 : Code := (Tryz.f12.body).getD .skip
def pl12 : Nat → Plan := fun _ => .done
def ls12 : Nat → List (Nat × LT) := fun _ => []
def W12 (w : World) (R : Value → World → Prop) : Prop :=
  (Ca Tryz.prog (10) (Array.mk []) (w) (fun v0 => (fun w1 =>
(∃ p2 : Option Addr, ((v0 = pointer p2) ∧ (atW (alloc w1 (cells (Array.mk [string (ByteArray.mk #[]), int i64 0, bool false]) 33 (0, 0))) (fun w3 =>
(st1 (add (nw w1) 0) (string (ByteArray.mk #[120])) w3 (fun w5 =>
(st1 (add (nw w1) 1) (int i64 3) w5 (fun w7 =>
(st1 (add (nw w1) 2) (bool false) w7 (fun w9 =>
(atW (alloc w9 (cells (Array.mk [string (ByteArray.mk #[]), string (ByteArray.mk #[]), string (ByteArray.mk #[])]) 35 (0, 0))) (fun w10 =>
(st1 (add (nw w9) 0) (string (ByteArray.mk #[120])) w10 (fun w12 =>
(st1 (add (nw w9) 1) (string (ByteArray.mk #[113])) w12 (fun w14 =>
(st1 (add (nw w9) 2) (string (ByteArray.mk #[97, 46, 42])) w14 (fun w16 =>
(ifK (Option.isNone p2)
(R (bool false) (w16))
(∃ s17 : ByteArray, ((cell? w16 (add (nw w1) 0) = some (string s17)) ∧ (∃ x18 : Int, ((cell? w16 (add (nw w1) 1) = some (int i64 x18)) ∧ (∃ b19 : Bool, ((cell? w16 (add (nw w1) 2) = some (bool b19)) ∧ (Ca Tryz.prog (35) (Array.mk [pointer p2, agg (Array.mk (List.reverse [bool b19, int i64 x18, string s17]))]) (w16) (fun v20 => (fun w21 =>
(∃ x22 : Int, ((v20 = int i64 x22) ∧ (ifK (x22 != 0)
(R (bool false) (w21))
(∃ s23 : ByteArray, ((cell? w21 (add (nw w9) 0) = some (string s23)) ∧ (∃ s24 : ByteArray, ((cell? w21 (add (nw w9) 1) = some (string s24)) ∧ (∃ s25 : ByteArray, ((cell? w21 (add (nw w9) 2) = some (string s25)) ∧ (Ca Tryz.prog (21) (Array.mk [pointer p2, agg (Array.mk (List.reverse [string s25, string s24, string s23]))]) (w21) (fun v26 => (fun w27 =>
(∃ x28 : Int, ((v26 = int i64 x28) ∧ (ifK (x28 != 0)
(R (bool false) (w27))
(∃ s29 : ByteArray, ((cell? w27 (add (nw w9) 0) = some (string s29)) ∧ (∃ s30 : ByteArray, ((cell? w27 (add (nw w9) 1) = some (string s30)) ∧ (∃ s31 : ByteArray, ((cell? w27 (add (nw w9) 2) = some (string s31)) ∧ (Ca Tryz.prog (21) (Array.mk [pointer p2, agg (Array.mk (List.reverse [string s31, string s30, string s29]))]) (w27) (fun v32 => (fun w33 =>
(∃ x34 : Int, ((v32 = int i64 x34) ∧ (ifK (x34 != 0)
(R (bool false) (w33))
(Ca Tryz.prog (16) (Array.mk [pointer p2]) (w33) (fun v35 => (fun w36 =>
(∃ p37 : Option Addr, (∃ n38 : Nat, (∃ n39 : Nat, ((v35 = slice p37 n38 n39) ∧ (ifK ((↑n38 : Int) != 1)
(R (bool false) (w36))
(Ca Tryz.prog (17) (Array.mk [pointer p2, string (ByteArray.mk #[120])]) (w36) (fun v40 => (fun w41 =>
(∃ s42 : ByteArray, (∃ x43 : Int, (∃ b44 : Bool, (∃ b45 : Bool, ((v40 = tuple (Array.mk (List.reverse [bool b45, agg (Array.mk (List.reverse [bool b44, int i64 x43, string s42]))]))) ∧ (atW (alloc w41 (cells (Array.mk [string (ByteArray.mk #[]), int i64 0, bool false]) 33 (0, 0))) (fun w46 =>
(st1 (add (nw w41) 0) (string s42) w46 (fun w48 =>
(st1 (add (nw w41) 1) (int i64 x43) w48 (fun w50 =>
(st1 (add (nw w41) 2) (bool b44) w50 (fun w52 =>
(ifK (b45)
(∃ s53 : ByteArray, ((cell? w52 (add (nw w41) 0) = some (string s53)) ∧ (∃ x54 : Int, ((cell? w52 (add (nw w41) 1) = some (int i64 x54)) ∧ (∃ b55 : Bool, ((cell? w52 (add (nw w41) 2) = some (bool b55)) ∧ (∃ s56 : ByteArray, ((cell? w52 (add (nw w1) 0) = some (string s56)) ∧ (∃ x57 : Int, ((cell? w52 (add (nw w1) 1) = some (int i64 x57)) ∧ (∃ b58 : Bool, ((cell? w52 (add (nw w1) 2) = some (bool b58)) ∧ (eqA Tryz.prog 33 (agg (Array.mk (List.reverse [bool b55, int i64 x54, string s53]))) (agg (Array.mk (List.reverse [bool b58, int i64 x57, string s56]))) (w52) (fun b59 => (fun w60 =>
(ifK (b59)
(Ca Tryz.prog (23) (Array.mk [pointer p2, string (ByteArray.mk #[120])]) (w60) (fun v61 => (fun w62 =>
(∃ x63 : Int, ((v61 = int i64 x63) ∧ (ifK (x63 == 0)
(Ca Tryz.prog (16) (Array.mk [pointer p2]) (w62) (fun v64 => (fun w65 =>
(∃ p66 : Option Addr, (∃ n67 : Nat, (∃ n68 : Nat, ((v64 = slice p66 n67 n68) ∧ (ifK ((↑n67 : Int) == 0)
(Ca Tryz.prog (23) (Array.mk [pointer p2, string (ByteArray.mk #[120])]) (w65) (fun v69 => (fun w70 =>
(∃ x71 : Int, ((v69 = int i64 x71) ∧ (R (bool (x71 == 3)) (w70)))))))
(R (bool false) (w65))))))))))
(R (bool false) (w62))))))))
(R (bool false) (w60))))))))))))))))))
(R (bool false) (w52)))))))))))))))))))))))))))))))))))))))))))))))))))))))))))))))))))))))))))))))))))))
theorem ca12 (w : World) (R : Value → World → Prop) (h : W12  w R) : Ca Tryz.prog 12 ⟨[]⟩ w R :=
  caB (fn := Tryz.f12) (pl := pl12) (ls := ls12) Tryz.func12 (by kernel_rfl) (by kernel_rfl) h
end Go.Proofs.YtehhhkcemmfjpaaGreatDoor

/- The examples of chapter 07. -/
namespace Go.Proofs.YtehhhkcemmfjpaaGreatDoor
open Go Go.Proofs.YtehhhkcemmfjpaaGreatDoor Go.Proofs.YtehhhkcemmfjpaaGreatDoor.St

theorem _root_.Eq.no {w w' : World} {k : Nat} {o : Obj} (h : w.heap[k]? = some o) (m : Mod St.no w w') : w'.heap[k]? = some o := m.at' h
/-! ### The examples -/
def exX : Exc := ⟨⟨#[120]⟩, 3, false⟩
def exB : Bnd := ⟨⟨#[120]⟩, ⟨#[113]⟩, ⟨#[97, 46, 42]⟩⟩
theorem ex_declR : declR exX [] = 0 := by decide +kernel
theorem ex_declD : declD exX [] = [exX] := by decide +kernel
theorem ex_bindR : bindR exB [exX] [] = 0 := by decide +kernel
theorem ex_bindB : bindB exB [exX] [] = [exB] := by decide +kernel
theorem ex_bindR2 : bindR exB [exX] [exB] = 0 := by decide +kernel
theorem ex_bindB2 : bindB exB [exX] [exB] = [exB] := by decide +kernel
theorem ex_fx : fx ⟨#[120]⟩ [exX] = exX := by decide +kernel
theorem ex_hx : hx ⟨#[120]⟩ [exX] = true := by decide +kernel
theorem ex_dropD : ([exX].filter fun e => !(e.n == ⟨#[120]⟩)) = [] := by decide +kernel
theorem ex_dropB : ([exB].filter fun b => !decide (b.x = ⟨#[120]⟩)) = [] := by decide +kernel
theorem lives_ok (w : World) (R : Value → World → Prop) (h : ∀ w', Mod St.no w w' → R (.bool true) w') : Ca Tryz.prog 12 #[] w R := by
  refine ca12 w R ?_
  refine new_ok w _ fun w1 t m1 m2 hT n1 ht hm1 hm2 => ⟨_, rfl, ?_⟩
  intro w3 e0
  have n3 : Mod no w1 w3 := by subst e0; exact Mod.alloc _ _
  have b3 : Xc w3 w1.heap.size exc0 := by subst e0; exact new_at _ _
  clear e0
  refine put3 b3 fun w9 n9 b9 => ?_
  have n19 : Mod St.no w1 w9 := n3.new n9 fun k hk => by cases hk; exact Nat.le_refl _
  have b9 : Xc w9 w1.heap.size exX := b9
  intro w10 e0
  have n10 : Mod no w9 w10 := by subst e0; exact Mod.alloc _ _
  have b10 : w10.heap[w9.heap.size]? = some (.cells #[.string (ByteArray.mk #[]), .string (ByteArray.mk #[]), .string (ByteArray.mk #[])] 35 (0, 0)) := by subst e0; exact new_at _ _
  clear e0
  refine put3 b10 fun w16 n16 b16 => ?_
  have b16 : Bc w16 w9.heap.size exB := b16
  have n916 : Mod St.no w9 w16 := n10.new n16 fun k hk => by cases hk; exact Nat.le_refl _
  have b9 := b9.no n916
  have hT := (hT.no n19).no n916
  have g1 := n1.size
  have g2 := n19.size
  have g3 := n916.size
  have l9 := lt_of_heap b9
  have l16 := lt_of_heap b16
  have m16 := (n1.trans n19).trans n916
  have nx : w1.heap.size ≠ m1 ∧ w1.heap.size ≠ m2 ∧ w9.heap.size ≠ m1 ∧ w9.heap.size ≠ m2 := by
    obtain ⟨_, _, q1, _⟩ := hT.x
    obtain ⟨_, _, q2, _⟩ := hT.b
    refine ⟨?_, ?_, ?_, ?_⟩ <;> intro e
    · rw [← e, b9] at q1; cases q1
    · rw [← e, b9] at q2; cases q2
    · rw [← e, b16] at q1; cases q1
    · rw [← e, b16] at q2; cases q2
  refine (ifK_of (fun h => by cases h) (fun _ => ?_) : ifK false _ _)
  refine ⟨_, by rw [cl1 b9]; rfl, _, by rw [cl1 b9]; rfl, _, by rw [cl1 b9]; rfl, ?_⟩
  refine (declare_ok hT exX _ fun w21 hT21 n21 => ?_ : Ca _ _ _ _ _)
  rw [ex_declR]
  rw [ex_declD] at hT21
  have m21 := m16.new n21 fun k hk => by cases hk; exact hm1
  have b9 := n21.at b9 nx.1
  have b16 := n21.at b16 nx.2.2.1
  refine ⟨_, rfl, (ifK_of (fun h => by cases h) (fun _ => ?_) : ifK false _ _)⟩
  refine ⟨_, by rw [cl1 b16]; rfl, _, by rw [cl1 b16]; rfl, _, by rw [cl1 b16]; rfl, ?_⟩
  refine (bind_ok hT21 exB (by decide) _ fun w27 hT27 n27 => ?_ : Ca _ _ _ _ _)
  rw [ex_bindR]
  rw [ex_bindB] at hT27
  have m27 := m21.new n27 fun k hk => by cases hk; exact hm2
  have b9 := n27.at b9 nx.2.1
  have b16 := n27.at b16 nx.2.2.2
  refine ⟨_, rfl, (ifK_of (fun h => by cases h) (fun _ => ?_) : ifK false _ _)⟩
  refine ⟨_, by rw [cl1 b16]; rfl, _, by rw [cl1 b16]; rfl, _, by rw [cl1 b16]; rfl, ?_⟩
  refine (bind_ok hT27 exB (by decide) _ fun w33 hT33 n33 => ?_ : Ca _ _ _ _ _)
  rw [ex_bindR2]
  rw [ex_bindB2] at hT33
  have m33 := m27.new n33 fun k hk => by cases hk; exact hm2
  have b9 := n33.at b9 nx.2.1
  refine ⟨_, rfl, (ifK_of (fun h => by cases h) (fun _ => ?_) : ifK false _ _)⟩
  refine bindings_ok hT33 (by decide) _ fun w36 p l c bs hbs hp _ n36 _ => ⟨_, _, _, rfl, ?_⟩
  have hl : l = 1 := by have := hbs.len.1; have := hp.length_eq; simp at this; omega
  subst hl
  refine (ifK_of (fun h => by cases h) (fun _ => ?_) : ifK false _ _)
  have hT36 := hT33.no n36
  refine find_ok hT36 _ _ fun w41 n41 => ?_
  rw [ex_fx, ex_hx]
  refine ⟨_, _, _, _, rfl, ?_⟩
  intro w46 e0
  have n46 : Mod no w41 w46 := by subst e0; exact Mod.alloc _ _
  have b46 : Xc w46 w41.heap.size exc0 := by subst e0; exact new_at _ _
  clear e0
  refine put3 b46 fun w52 n52 b52 => ?_
  have n4152 : Mod St.no w41 w52 := n46.new n52 fun k hk => by cases hk; exact Nat.le_refl _
  have b52 : Xc w52 w41.heap.size exX := b52
  have n3652 := n41.trans n4152
  have b9 := n3652.at' (n36.at' b9)
  refine (ifK_of (fun _ => ?_) (fun h => by cases h) : ifK true _ _)
  refine ⟨_, by rw [cl1 b52]; rfl, _, by rw [cl1 b52]; rfl, _, by rw [cl1 b52]; rfl, _, by rw [cl1 b9]; rfl, _, by rw [cl1 b9]; rfl, _, by rw [cl1 b9]; rfl, ?_⟩
  refine eqA_agg exc_s.guard (exc_s.eq exX exX) ?_
  rw [decide_eq_true rfl]
  refine (ifK_of (fun _ => ?_) (fun h => by cases h) : ifK true _ _)
  have m52 := (m33.trans n36).trans n3652
  refine drop_ok (hT36.no n3652) _ (by decide) _ fun w62 hT62 n62 => ?_
  rw [ex_hx] at hT62 ⊢
  simp only [if_true, ex_dropD, ex_dropB] at hT62
  have m62 := m52.new n62 fun k hk => by rcases hk with rfl | rfl <;> assumption
  refine ⟨_, rfl, (ifK_of (fun _ => ?_) (fun h => by cases h) : ifK true _ _)⟩
  refine bindings_ok hT62 (by decide) _ fun w65 p l c bs hbs hp _ n65 _ => ⟨_, _, _, rfl, ?_⟩
  have hl : l = 0 := by have h1 := hbs.len.1; have h2 : bs.length = 0 := hp.length_eq; omega
  subst hl
  refine (ifK_of (fun _ => ?_) (fun h => by cases h) : ifK true _ _)
  refine drop_ok (hT62.no n65) _ (by decide) _ fun w70 _ n70 => ?_
  exact ⟨_, rfl, h w70 ((m62.trans n65).new n70 fun k hk => by rcases hk with rfl | rfl <;> assumption)⟩
end Go.Proofs.YtehhhkcemmfjpaaGreatDoor

/- The formulas of functions, printed by a program of mine (gen.py) out of the translation. -/
namespace Go.Proofs.YtehhhkcemmfjpaaGreatDoor
open Go Go.Proofs.YtehhhkcemmfjpaaGreatDoor.St
open _root_.Go.Value (string int bool slice pointer agg tuple map func nilFunc iface)
open _root_.Go.World (cell? frozen? setCell alloc drew)
open _root_.Go.Addr (add)
open _root_.Go.Obj (cells)
open _root_.Go.IntKind (wrap i64 u64 i32 u32 u8)
set_option maxRecDepth 100000

/-- staith/staithlaw08.lives -/
noncomputable def C25 : Code := (Tryz.f25.body).getD .skip
def pl25 : Nat → Plan := fun _ => .done
def ls25 : Nat → List (Nat × LT) := fun _ => []
def W25 (w : World) (R : Value → World → Prop) : Prop :=
  (Ca Tryz.prog (10) (Array.mk []) (w) (fun v0 => (fun w1 =>
(∃ p2 : Option Addr, ((v0 = pointer p2) ∧ (Ca Tryz.prog (35) (Array.mk [pointer p2, agg (Array.mk [string (ByteArray.mk #[120]), int i64 3, bool false])]) (w1) (fun v3 => (fun w4 =>
(∃ x5 : Int, ((v3 = int i64 x5) ∧ (Ca Tryz.prog (21) (Array.mk [pointer p2, agg (Array.mk [string (ByteArray.mk #[120]), string (ByteArray.mk #[113]), string (ByteArray.mk #[35])])]) (w4) (fun v6 => (fun w7 =>
(∃ x8 : Int, ((v6 = int i64 x8) ∧ (Ca Tryz.prog (21) (Array.mk [pointer p2, agg (Array.mk [string (ByteArray.mk #[120]), string (ByteArray.mk #[113]), string (ByteArray.mk #[97])])]) (w7) (fun v9 => (fun w10 =>
(∃ x11 : Int, ((v9 = int i64 x11) ∧ (Ca Tryz.prog (28) (Array.mk [pointer p2, string (ByteArray.mk #[120]), string (ByteArray.mk #[97])]) (w10) (fun v12 => (fun w13 =>
(∃ p14 : Option Addr, (∃ n15 : Nat, (∃ n16 : Nat, ((v12 = slice p14 n15 n16) ∧ (atW (alloc w13 (cells (Array.mk [string (ByteArray.mk #[113])]) 9 (0, 0))) (fun w17 =>
(Ca Tryz.prog (27) (Array.mk [slice p14 n15 n16, slice (some (nw w13)) 1 1]) (w17) (fun v18 => (fun w19 =>
(∃ b20 : Bool, ((v18 = bool b20) ∧ (ifK (b20)
(Ca Tryz.prog (30) (Array.mk [pointer p2, string (ByteArray.mk #[113])]) (w19) (fun v21 => (fun w22 =>
(∃ p23 : Option Addr, (∃ n24 : Nat, (∃ n25 : Nat, ((v21 = slice p23 n24 n25) ∧ (atW (alloc w22 (cells (Array.mk [string (ByteArray.mk #[120])]) 9 (0, 0))) (fun w26 =>
(Ca Tryz.prog (27) (Array.mk [slice p23 n24 n25, slice (some (nw w22)) 1 1]) (w26) (fun v27 => (fun w28 =>
(∃ b29 : Bool, ((v27 = bool b29) ∧ (ifK (b29)
(Ca Tryz.prog (32) (Array.mk [agg (Array.mk [string (ByteArray.mk #[120]), int i64 2, bool false]), string (ByteArray.mk #[]), string (ByteArray.mk #[97])]) (w28) (fun v30 => (fun w31 =>
(∃ b32 : Bool, ((v30 = bool b32) ∧ (R (bool b32) (w31)))))))
(R (bool false) (w28)))))))))))))))))
(R (bool false) (w19)))))))))))))))))))))))))))))))))))))
theorem ca25 (w : World) (R : Value → World → Prop) (h : W25  w R) : Ca Tryz.prog 25 ⟨[]⟩ w R :=
  caB (fn := Tryz.f25) (pl := pl25) (ls := ls25) Tryz.func25 (by kernel_rfl) (by kernel_rfl) h
end Go.Proofs.YtehhhkcemmfjpaaGreatDoor

/- The examples of chapter 08. -/
namespace Go.Proofs.YtehhhkcemmfjpaaGreatDoor
open Go Go.Proofs.YtehhhkcemmfjpaaGreatDoor Go.Proofs.YtehhhkcemmfjpaaGreatDoor.St

def b8a : Bnd := ⟨⟨#[120]⟩, ⟨#[113]⟩, ⟨#[35]⟩⟩
def b8b : Bnd := ⟨⟨#[120]⟩, ⟨#[113]⟩, ⟨#[97]⟩⟩
theorem ex8_bindR : bindR b8a [exX] [] = 0 := by decide +kernel
theorem ex8_bindB : bindB b8a [exX] [] = [b8a] := by decide +kernel
theorem ex8_bindR2 : bindR b8b [exX] [b8a] = 0 := by decide +kernel
theorem ex8_bindB2 : bindB b8b [exX] [b8a] = [b8a, b8b] := by decide +kernel
theorem ex8_hash : goesB exX ⟨#[35]⟩ ⟨#[97]⟩ = true := by
  have h1 : goodX exX = true := by decide +kernel
  have h2 : keyB ⟨#[97]⟩ = true := by decide +kernel
  have h3 : patB ⟨#[35]⟩ = true := by decide +kernel
  have h4 : wordsOf ⟨#[35]⟩ = [hashW] := by decide +kernel
  have h5 : wordsOf ⟨#[97]⟩ = [⟨#[97]⟩] := by decide +kernel
  have h6 : fitsB oneB [hashW] [⟨#[97]⟩] = true := fitsB_iff.2 ((fits_hash _ _).2 ⟨1, by decide, rfl⟩)
  rw [goesB, h1, h2, ruleB, if_neg (by decide), if_neg (by decide), matchB, h3, h2, h4, h5, h6]
  rfl
theorem ex8_fan : goesB ⟨⟨#[120]⟩, 2, false⟩ ⟨#[]⟩ ⟨#[97]⟩ = true := by
  have h1 : goodX ⟨⟨#[120]⟩, 2, false⟩ = true := by decide +kernel
  have h2 : keyB ⟨#[97]⟩ = true := by decide +kernel
  rw [goesB, h1, h2, ruleB, if_neg (by decide), if_pos rfl]
  rfl
theorem ex8_queues : NamesOf (QueuesS [exX] [b8a, b8b] ⟨#[120]⟩ ⟨#[97]⟩) [⟨#[113]⟩] := by
  refine ⟨List.pairwise_singleton _ _, fun n => ?_⟩
  rw [List.mem_singleton]
  constructor
  · rintro rfl
    refine ⟨ex_hx, b8a, by simp, ?_, rfl⟩
    show (decide (b8a.x = ⟨#[120]⟩) && goesB (fx ⟨#[120]⟩ [exX]) ⟨#[35]⟩ ⟨#[97]⟩) = true
    rw [ex_fx, ex8_hash]
    decide +kernel
  · rintro ⟨_, b, hb, _, h⟩
    simp only [List.mem_cons, List.not_mem_nil, or_false] at hb
    rcases hb with rfl | rfl <;> exact h.symm
theorem ex8_who : NamesOf (WhoS [b8a, b8b] ⟨#[113]⟩) [⟨#[120]⟩] := by
  refine ⟨List.pairwise_singleton _ _, fun n => ?_⟩
  rw [List.mem_singleton]
  constructor
  · rintro rfl
    exact ⟨b8a, by simp, by decide +kernel, rfl⟩
  · rintro ⟨b, hb, _, h⟩
    simp only [List.mem_cons, List.not_mem_nil, or_false] at hb
    rcases hb with rfl | rfl <;> exact h.symm
theorem lit1 {w : World} {k : Nat} {s : ByteArray} (h : w.heap[k]? = some (.cells #[.string s] 9 (0, 0))) : Strs w (some ⟨k, 0, none⟩) 1 1 [s] := Els.lit (fun _ => rfl) h [s] rfl (by show 1 ≤ maxLen; decide)
theorem lives8_ok (w : World) (R : Value → World → Prop) (h : ∀ w', Mod St.no w w' → R (.bool true) w') : Ca Tryz.prog 25 #[] w R := by
  refine ca25 w R ?_
  refine new_ok w _ fun w1 t m1 m2 hT n1 ht hm1 hm2 => ⟨_, rfl, ?_⟩
  refine (declare_ok hT exX _ fun w4 hT4 n4 => ?_ : Ca _ _ _ _ _)
  rw [ex_declD] at hT4
  have m4 := n1.new n4 fun k hk => by cases hk; exact hm1
  refine ⟨_, rfl, (bind_ok hT4 b8a (by decide) _ fun w7 hT7 n7 => ?_ : Ca _ _ _ _ _)⟩
  rw [ex8_bindB] at hT7
  have m7 := m4.new n7 fun k hk => by cases hk; exact hm2
  refine ⟨_, rfl, (bind_ok hT7 b8b (by decide) _ fun w10 hT10 n10 => ?_ : Ca _ _ _ _ _)⟩
  rw [ex8_bindB2] at hT10
  have m10 := m7.new n10 fun k hk => by cases hk; exact hm2
  refine ⟨_, rfl, queues_ok hT10 (by decide) (by intro b hb; simp only [List.mem_cons, List.not_mem_nil, or_false] at hb; rcases hb with rfl | rfl <;> decide) _ _ (by decide) _ fun w13 p l c ys hy hn _ n13 => ⟨_, _, _, rfl, ?_⟩⟩
  have m13 := m10.trans n13
  obtain rfl := hn.unique ex8_queues
  intro w17 e0
  have n17 : Mod no w13 w17 := by subst e0; exact Mod.alloc _ _
  have b17 : w17.heap[w13.heap.size]? = some (.cells #[.string ⟨#[113]⟩] 9 (0, 0)) := by subst e0; exact new_at _ _
  clear e0
  have e1 := hy.len.1
  refine texts_ok (Els.astr (hy.no n17)) (Els.astr (lit1 b17)) (by simp at e1; omega) _ fun w19 n19 => ⟨_, rfl, ?_⟩
  rw [decide_eq_true rfl]
  refine (ifK_of (fun _ => ?_) (fun h => by cases h) : ifK true _ _)
  have n1019 := (n13.trans n17).trans n19
  refine who_ok (hT10.no n1019) (by decide) _ _ fun w22 p l c ys hy hn _ n22 => ⟨_, _, _, rfl, ?_⟩
  obtain rfl := hn.unique ex8_who
  intro w26 e0
  have n26 : Mod no w22 w26 := by subst e0; exact Mod.alloc _ _
  have b26 : w26.heap[w22.heap.size]? = some (.cells #[.string ⟨#[120]⟩] 9 (0, 0)) := by subst e0; exact new_at _ _
  clear e0
  have e1 := hy.len.1
  refine texts_ok (Els.astr (hy.no n26)) (Els.astr (lit1 b26)) (by simp at e1; omega) _ fun w28 n28 => ⟨_, rfl, ?_⟩
  rw [decide_eq_true rfl]
  refine (ifK_of (fun _ => ?_) (fun h => by cases h) : ifK true _ _)
  refine (fitsP_ok ⟨⟨#[120]⟩, 2, false⟩ ⟨#[]⟩ ⟨#[97]⟩ w28 (by decide) (by decide) _ fun w31 n31 => ?_ : Ca _ _ _ _ _)
  rw [ex8_fan]
  exact ⟨_, rfl, h w31 ((((m10.trans n1019).trans n22).trans n26).trans (n28.trans n31))⟩
end Go.Proofs.YtehhhkcemmfjpaaGreatDoor

/- The formulas of functions, printed by a program of mine (gen.py) out of the translation. -/
namespace Go.Proofs.YtehhhkcemmfjpaaGreatDoor
open Go Go.Proofs.YtehhhkcemmfjpaaGreatDoor.St
open _root_.Go.Value (string int bool slice pointer agg tuple map func nilFunc iface)
open _root_.Go.World (cell? frozen? setCell alloc drew)
open _root_.Go.Addr (add)
open _root_.Go.Obj (cells)
open _root_.Go.IntKind (wrap i64 u64 i32 u32 u8)
set_option maxRecDepth 100000

/-- (*staith/bind.Table).Copy -/
noncomputable def C19 : Code := (Tryz.f19.body).getD .skip
def pl19 : Nat → Plan
  | 3 => (.quiet 0 (.quiet 1 (.quiet 2 (.quiet 3 (.quiet 5 (.quiet 6 (.quiet 7 (.quiet 8 (.eff 4 [8] (.eff 9 [] (.quiet 10 (.eff 11 [] (.quiet 12 .done)))))))))))))
  | _ => .done
def ls19 : Nat → List (Nat × LT) := fun _ => []
def W19 (t : Option Addr) (w : World) (R : Value → World → Prop) : Prop :=
  (Ca Tryz.prog (44) (Array.mk [pointer t]) (w) (fun v0 => (fun w1 =>
(∃ b2 : Bool, ((v0 = bool b2) ∧ (ifK (!b2)
(R (pointer none) (w1))
(atW (drew w1) (fun w3 =>
(onP (t) (fun a4 =>
(∃ p5 : Option Nat, ((cell? w3 (add a4 0) = some (map p5)) ∧ (onP (t) (fun a6 =>
(∃ p7 : Option Nat, ((cell? w3 (add a6 1) = some (map p7)) ∧ (Ca Tryz.prog (54) (Array.mk [map p5]) (w3) (fun v8 => (fun w9 =>
(∃ p10 : Option Nat, ((v8 = map p10) ∧ ((cell? w9 (add (add a6 1) 0) = some (map p7)) ∧ (Ca Tryz.prog (55) (Array.mk [map p7]) (w9) (fun v11 => (fun w12 =>
(∃ p13 : Option Nat, ((v11 = map p13) ∧ (atW (alloc w12 (cells (Array.mk [map p10, map p13]) 70 (0, 0))) (fun w14 =>
(R (pointer (some (nw w12))) (w14)))))))))))))))))))))))))))))))
theorem ca19 (t : Option Addr) (w : World) (R : Value → World → Prop) (h : W19 t w R) : Ca Tryz.prog 19 ⟨[(.pointer t)]⟩ w R :=
  caB (fn := Tryz.f19) (pl := pl19) (ls := ls19) Tryz.func19 (by kernel_rfl) (by kernel_rfl) h

/-- maps.Clone[map[string]staith/api.Exchange,string,staith/api.Exchange] -/
noncomputable def C54 : Code := (Tryz.f54.body).getD .skip
def pl54 : Nat → Plan := fun _ => .done
def ls54 : Nat → List (Nat × LT) := fun _ => []
def W54 (m : Option Nat) (w : World) (R : Value → World → Prop) : Prop :=
  (ifK (Option.isNone m)
(R (map none) (w))
False)
theorem ca54 (m : Option Nat) (w : World) (R : Value → World → Prop) (h : W54 m w R) : Ca Tryz.prog 54 ⟨[(.map m)]⟩ w R :=
  caB (fn := Tryz.f54) (pl := pl54) (ls := ls54) Tryz.func54 (by kernel_rfl) (by kernel_rfl) h

/-- maps.Clone[map[staith/api.Binding]struct{},staith/api.Binding,struct{}] -/
noncomputable def C55 : Code := (Tryz.f55.body).getD .skip
def pl55 : Nat → Plan := fun _ => .done
def ls55 : Nat → List (Nat × LT) := fun _ => []
def W55 (m : Option Nat) (w : World) (R : Value → World → Prop) : Prop :=
  (ifK (Option.isNone m)
(R (map none) (w))
False)
theorem ca55 (m : Option Nat) (w : World) (R : Value → World → Prop) (h : W55 m w R) : Ca Tryz.prog 55 ⟨[(.map m)]⟩ w R :=
  caB (fn := Tryz.f55) (pl := pl55) (ls := ls55) Tryz.func55 (by kernel_rfl) (by kernel_rfl) h
end Go.Proofs.YtehhhkcemmfjpaaGreatDoor

/- The library's maps.Clone of the table's maps; Copy. -/
namespace Go.Proofs.YtehhhkcemmfjpaaGreatDoor
open Go Go.RowKit Go.Proofs.YtehhhkcemmfjpaaGreatDoor.St

theorem run_eqlIn_map {P : Program} (w : World) (d : Nat) (t k e : TypeId) (p : Option Nat) (h : P.underlying t = some (.map k e)) : (Op.equalIn (d + 1) t (.map p) (.map none)).run P w = .ok p.isNone w := by
  cases p <;> simp [Op.equalIn, run_underlying h]
theorem run_eql_map {P : Program} (w : World) (t k e : TypeId) (p : Option Nat) (h : P.underlying t = some (.map k e)) : (binOp .eql t (.map p) (.map none)).run P w = .ok (.bool p.isNone) w := by
  simp only [binOp]
  simp [show Op.equal t (.map p) (.map none) = Op.equalIn (9999 + 1) t (.map p) (.map none) from rfl, run_eqlIn_map w 9999 t k e p h]
theorem run_assert_map {P : Program} (w : World) (t xT k e : TypeId) (v : Value) (h : P.underlying t = some (.map k e)) : (Instr.typeAssert (.iface t v) xT t false).run P w = .ok v w := by
  simp [Instr.typeAssert, run_underlying h, go_sem, Result.andThen]
theorem run_clone {P : Program} (w : World) {r : Nat} {es : Array MapEntry} {clock : Nat} (t : TypeId) (hb : w.heap[r]? = some (.map es clock)) :
    (Extern.MapsClone.clone #[.iface t (.map (some r))]).run P w = .ok (.iface t (.map (some w.heap.size))) (w.alloc (.map es clock)) := by
  have e : Extern.MapsClone.clone #[.iface t (.map (some r))] = (getObj r >>= fun o => match o with
      | .map entries clock => (newObj (.map entries clock) >>= fun n => pure (.iface t (.map (some n))))
      | _ => stuck "maps.clone: a map expected") := rfl
  rw [e]
  simp [MapKept.run_getObj_map hb, Result.andThen, go_sem]

set_option maxRecDepth 100000 in
set_option maxHeartbeats 2000000 in
theorem cloneX_calls (b : Nat) (es : Array MapEntry) (clock : Nat) (w : World) (hb : w.heap[b]? = some (.map es clock)) :
    Calls Tryz.prog 54 #[.map (some b)] w fun e w' => e = .returned (.map (some w.heap.size)) ∧ w' = w.alloc (.map es clock) := by
  have mixed : Tryz.prog.follows .mixedOrders = true := by kernel_rfl
  have t4 := Tryz.underlying4
  have t20 := Tryz.underlying20
  have t63 := Tryz.underlying67
  have hq := fun w => run_eql_map (P := Tryz.prog) w 67 _ _ (some b) Tryz.underlying67
  go_enter Tryz.func54, Tryz.ntmps54
  go_wp2
  rw [run_callFunc_extern Tryz.func83 (by kernel_rfl) (by kernel_rfl) (by kernel_rfl) (e := Extern.MapsClone.clone) (by kernel_rfl), run_clone w 67 hb]
  simp only [Result.andThen]
  rw [Oper.upon_value]
  go_wp2
  rw [run_assert_map _ 67 20 _ _ _ Tryz.underlying67]
  simp only [Result.andThen]
  rw [Oper.upon_value]
  go_wp2
  go_ret
  exact ⟨rfl, rfl⟩
/-- A new map of the same entries. -/
theorem cloneX_ok (m : Nat) (w : World) (R : Value → World → Prop) (kvs : List (Value × Value)) (hm : MapAt w m kvs) (h : ∀ w', MapAt w' w.heap.size kvs → Mod no w w' → R (.map (some w.heap.size)) w') :
    Ca Tryz.prog 54 #[.map (some m)] w R := by
  obtain ⟨es, clock, hb, he, hn, hc⟩ := hm
  refine ⟨fun w => callFunc_run (c := C54) Tryz.func54 (by kernel_rfl) (by kernel_rfl) _ w, (cloneX_calls m es clock w hb).mono fun e w' ⟨h1, h2⟩ => ?_⟩
  subst h2
  exact ⟨_, h1, h _ ⟨es, clock, new_at _ _, he, hn, hc⟩ (Mod.alloc _ _)⟩

set_option maxRecDepth 100000 in
set_option maxHeartbeats 2000000 in
theorem cloneB_calls (b : Nat) (es : Array MapEntry) (clock : Nat) (w : World) (hb : w.heap[b]? = some (.map es clock)) :
    Calls Tryz.prog 55 #[.map (some b)] w fun e w' => e = .returned (.map (some w.heap.size)) ∧ w' = w.alloc (.map es clock) := by
  have mixed : Tryz.prog.follows .mixedOrders = true := by kernel_rfl
  have t4 := Tryz.underlying4
  have t20 := Tryz.underlying20
  have t63 := Tryz.underlying68
  have hq := fun w => run_eql_map (P := Tryz.prog) w 68 _ _ (some b) Tryz.underlying68
  go_enter Tryz.func55, Tryz.ntmps55
  go_wp2
  rw [run_callFunc_extern Tryz.func83 (by kernel_rfl) (by kernel_rfl) (by kernel_rfl) (e := Extern.MapsClone.clone) (by kernel_rfl), run_clone w 68 hb]
  simp only [Result.andThen]
  rw [Oper.upon_value]
  go_wp2
  rw [run_assert_map _ 68 20 _ _ _ Tryz.underlying68]
  simp only [Result.andThen]
  rw [Oper.upon_value]
  go_wp2
  go_ret
  exact ⟨rfl, rfl⟩
/-- A new map of the same entries. -/
theorem cloneB_ok (m : Nat) (w : World) (R : Value → World → Prop) (kvs : List (Value × Value)) (hm : MapAt w m kvs) (h : ∀ w', MapAt w' w.heap.size kvs → Mod no w w' → R (.map (some w.heap.size)) w') :
    Ca Tryz.prog 55 #[.map (some m)] w R := by
  obtain ⟨es, clock, hb, he, hn, hc⟩ := hm
  refine ⟨fun w => callFunc_run (c := C55) Tryz.func55 (by kernel_rfl) (by kernel_rfl) _ w, (cloneB_calls m es clock w hb).mono fun e w' ⟨h1, h2⟩ => ?_⟩
  subst h2
  exact ⟨_, h1, h _ ⟨es, clock, new_at _ _, he, hn, hc⟩ (Mod.alloc _ _)⟩
theorem copy_ok {w : World} {t m1 m2 : Nat} {D : List Exc} {B : List Bnd} (hT : Tbl w t m1 m2 D B) (R : Value → World → Prop)
    (h : ∀ w' t' k1 k2, Tbl w' t' k1 k2 D B → Mod no w w' → w.heap.size ≤ t' → w.heap.size ≤ k1 → w.heap.size ≤ k2 → R (.pointer (some ⟨t', 0, none⟩)) w') : Ca Tryz.prog 19 #[.pointer (some ⟨t, 0, none⟩)] w R := by
  refine ca19 (some ⟨t, 0, none⟩) w R ?_
  refine made_ok hT _ ⟨true, rfl, ifK_of (fun h => by cases h) fun _ => ?_⟩
  intro w3 e3
  have n3 : Mod no w w3 := by subst e3; exact Mod.drew _
  clear e3
  have hT3 := hT.no n3
  refine ⟨some m1, by rw [cl1 hT3.cell]; rfl, some m2, by rw [cl1 hT3.cell]; rfl, ?_⟩
  refine cloneX_ok m1 w3 _ _ hT3.x fun w9 hx9 n9 => ⟨_, rfl, ?_⟩
  have hT9 := hT3.no n9
  refine ⟨by rw [cl2 hT9.cell]; rfl, cloneB_ok m2 w9 _ _ hT9.b fun w12 hb12 n12 => ⟨_, rfl, ?_⟩⟩
  intro w14 e14
  have n14 : Mod no w12 w14 := by subst e14; exact Mod.alloc _ _
  have b14 : w14.heap[w12.heap.size]? = some (.cells #[.map (some w3.heap.size), .map (some w9.heap.size)] 70 (0, 0)) := by subst e14; exact new_at _ _
  clear e14
  have h1 := n3.size
  have h2 := hx9.lt
  have h3 := hb12.lt
  have h4 := n12.size
  have h5 := n9.size
  exact h w14 w12.heap.size w3.heap.size w9.heap.size ⟨b14, (hx9.mod n12 id).mod n14 id, hb12.mod n14 id, by omega, hT.dn, hT.bn⟩ (((n3.trans n9).trans n12).trans n14) (by omega) (by omega) (by omega)
end Go.Proofs.YtehhhkcemmfjpaaGreatDoor

/- The formulas of functions, printed by a program of mine (gen.py) out of the translation. -/
namespace Go.Proofs.YtehhhkcemmfjpaaGreatDoor
open Go Go.Proofs.YtehhhkcemmfjpaaGreatDoor.St
open _root_.Go.Value (string int bool slice pointer agg tuple map func nilFunc iface)
open _root_.Go.World (cell? frozen? setCell alloc drew)
open _root_.Go.Addr (add)
open _root_.Go.Obj (cells)
open _root_.Go.IntKind (wrap i64 u64 i32 u32 u8)
set_option maxRecDepth 100000

/-- staith/staithref05.letters -/
noncomputable def C97 : Code := (Tryz.f97.body).getD .skip
def pl97 : Nat → Plan := fun _ => .done
def ls97 : Nat → List (Nat × LT)
  | 3 => [(3, (.one (.int .i64)))]
  | 8 => [(0, .agg []), (36, (.one .bool))]
  | _ => []
def W97 (s : ByteArray) (w : World) (R : Value → World → Prop) : Prop :=
  (∃ z0 : Int → World → Prop, (∃ z1 : Int → World → Nat, ((z0 (0) (w)) ∧ (∀ (_ : Nat → Value), (∀ (x3 : Int), (∀ (w4 : World), ((z0 (x3) (w4)) → (ifK (decide (x3 < (↑(ByteArray.size s) : Int)))
(((0 : Int) ≤ x3) ∧ (((x3 : Int) < (↑(ByteArray.size s) : Int)) ∧ (∃ z5 : Bool → World → Prop, ((ifK (decide (byteAt s (Int.toNat x3) ≥ 97))
(ifK (decide (byteAt s (Int.toNat x3) ≤ 122))
(z5 (!true) (w4))
(ifK (decide (byteAt s (Int.toNat x3) ≥ 48))
(ifK (decide (byteAt s (Int.toNat x3) ≤ 57))
(z5 (!true) (w4))
(ifK (byteAt s (Int.toNat x3) == 45)
(z5 (!true) (w4))
(z5 (!byteAt s (Int.toNat x3) == 95) (w4))))
(ifK (byteAt s (Int.toNat x3) == 45)
(z5 (!true) (w4))
(z5 (!byteAt s (Int.toNat x3) == 95) (w4)))))
(ifK (decide (byteAt s (Int.toNat x3) ≥ 48))
(ifK (decide (byteAt s (Int.toNat x3) ≤ 57))
(z5 (!true) (w4))
(ifK (byteAt s (Int.toNat x3) == 45)
(z5 (!true) (w4))
(z5 (!byteAt s (Int.toNat x3) == 95) (w4))))
(ifK (byteAt s (Int.toNat x3) == 45)
(z5 (!true) (w4))
(z5 (!byteAt s (Int.toNat x3) == 95) (w4))))) ∧ (∀ (_ : Nat → Value), (∀ (b7 : Bool), (∀ (w8 : World), ((z5 (b7) (w8)) → (ifK (b7)
(R (bool false) (w8))
((z0 (wrap i64 (x3 + 1)) (w8)) ∧ (z1 (wrap i64 (x3 + 1)) w8 < z1 x3 w4)))))))))))
(R (bool (decide ((↑(ByteArray.size s) : Int) > 0))) (w4))))))))))
theorem ca97 (s : ByteArray) (w : World) (R : Value → World → Prop) (h : W97 s w R) : Ca Tryz.prog 97 ⟨[(.string s)]⟩ w R :=
  caB (fn := Tryz.f97) (pl := pl97) (ls := ls97) Tryz.func97 (by kernel_rfl) (by kernel_rfl) h

/-- staith/staithref05.Words -/
noncomputable def C96 : Code := (Tryz.f96.body).getD .skip
def pl96 : Nat → Plan := fun _ => .done
def ls96 : Nat → List (Nat × LT)
  | 8 => [(3, (.one .slice)), (4, (.one .str)), (5, (.one (.int .i64)))]
  | _ => []
def W96 (s : ByteArray) (w : World) (R : Value → World → Prop) : Prop :=
  (ifK (ByteArray.toList s == ByteArray.toList (ByteArray.mk #[]))
(R (slice none 0 0) (w))
(∃ z0 : Option Addr → Nat → Nat → ByteArray → Int → World → Prop, (∃ z1 : Option Addr → Nat → Nat → ByteArray → Int → World → Nat, ((z0 (none) (0) (0) (ByteArray.mk #[]) (0) (w)) ∧ (∀ (_ : Nat → Value), (∀ (p3 : Option Addr), (∀ (n4 : Nat), (∀ (n5 : Nat), (∀ (s6 : ByteArray), (∀ (x7 : Int), (∀ (w8 : World), ((z0 (p3) (n4) (n5) (s6) (x7) (w8)) → (ifK (decide (x7 < (↑(ByteArray.size s) : Int)))
(((0 : Int) ≤ x7) ∧ (((x7 : Int) < (↑(ByteArray.size s) : Int)) ∧ (ifK (byteAt s (Int.toNat x7) == 46)
(atW (alloc w8 (cells (Array.mk [string s6]) 9 (0, 0))) (fun w9 =>
(∃ v10 : Value, (∃ w11 : World, ((Sem.run Tryz.prog (Builtin.append_ (Array.mk [55, 55]) 55 (Array.mk [slice p3 n4 n5, slice (some (nw w8)) 1 1])) w9 = Result.ok v10 w11) ∧ (∃ p12 : Option Addr, (∃ n13 : Nat, (∃ n14 : Nat, ((v10 = slice p12 n13 n14) ∧ ((z0 (p12) (n13) (n14) (ByteArray.mk #[]) (wrap i64 (x7 + 1)) (w11)) ∧ (z1 p12 n13 n14 (ByteArray.mk #[]) (wrap i64 (x7 + 1)) w11 < z1 p3 n4 n5 s6 x7 w8)))))))))))
(((0 : Int) ≤ x7) ∧ (((x7 : Int) ≤ wrap i64 (x7 + 1)) ∧ (((wrap i64 (x7 + 1) : Int) ≤ (↑(ByteArray.size s) : Int)) ∧ ((ByteArray.size s6 + ByteArray.size (ByteArray.extract s (Int.toNat x7) (Int.toNat (wrap i64 (x7 + 1)))) ≤ 9223372036854775807) ∧ ((z0 (p3) (n4) (n5) (s6 ++ ByteArray.extract s (Int.toNat x7) (Int.toNat (wrap i64 (x7 + 1)))) (wrap i64 (x7 + 1)) (w8)) ∧ (z1 p3 n4 n5 (s6 ++ ByteArray.extract s (Int.toNat x7) (Int.toNat (wrap i64 (x7 + 1)))) (wrap i64 (x7 + 1)) w8 < z1 p3 n4 n5 s6 x7 w8)))))))))
(atW (alloc w8 (cells (Array.mk [string s6]) 9 (0, 0))) (fun w15 =>
(∃ v16 : Value, (∃ w17 : World, ((Sem.run Tryz.prog (Builtin.append_ (Array.mk [55, 55]) 55 (Array.mk [slice p3 n4 n5, slice (some (nw w8)) 1 1])) w15 = Result.ok v16 w17) ∧ (∃ p18 : Option Addr, (∃ n19 : Nat, (∃ n20 : Nat, ((v16 = slice p18 n19 n20) ∧ (R (slice p18 n19 n20) (w17))))))))))))))))))))))))
theorem ca96 (s : ByteArray) (w : World) (R : Value → World → Prop) (h : W96 s w R) : Ca Tryz.prog 96 ⟨[(.string s)]⟩ w R :=
  caB (fn := Tryz.f96) (pl := pl96) (ls := ls96) Tryz.func96 (by kernel_rfl) (by kernel_rfl) h

/-- staith/staithref05.all -/
noncomputable def C93 : Code := (Tryz.f93.body).getD .skip
def pl93 : Nat → Plan := fun _ => .done
def ls93 : Nat → List (Nat × LT)
  | 7 => [(15, (.one (.int .i64)))]
  | _ => []
def W93 (s : ByteArray) (wild : Bool) (w : World) (R : Value → World → Prop) : Prop :=
  (ifK (decide ((↑(ByteArray.size s) : Int) > 60))
(R (bool false) (w))
(Ca Tryz.prog (96) (Array.mk [string s]) (w) (fun v0 => (fun w1 =>
(∃ p2 : Option Addr, (∃ n3 : Nat, (∃ n4 : Nat, ((v0 = slice p2 n3 n4) ∧ (∃ z5 : Int → World → Prop, (∃ z6 : Int → World → Nat, ((z5 (0) (w1)) ∧ (∀ (_ : Nat → Value), (∀ (x8 : Int), (∀ (w9 : World), ((z5 (x8) (w9)) → (ifK (decide (x8 < (↑n3 : Int)))
(∃ a10 : Addr, ((p2 = some a10) ∧ (((0 : Int) ≤ x8) ∧ (((x8 : Int) < (↑n3 : Int)) ∧ (∃ s11 : ByteArray, ((cell? w9 (add a10 (Int.toNat x8 * 1)) = some (string s11)) ∧ (Ca Tryz.prog (97) (Array.mk [string s11]) (w9) (fun v12 => (fun w13 =>
(∃ b14 : Bool, ((v12 = bool b14) ∧ (ifK (!b14)
(ifK (wild)
(ifK (ByteArray.toList s11 == ByteArray.toList (ByteArray.mk #[42]))
((z5 (wrap i64 (x8 + 1)) (w13)) ∧ (z6 (wrap i64 (x8 + 1)) w13 < z6 x8 w9))
(ifK (!ByteArray.toList s11 == ByteArray.toList (ByteArray.mk #[35]))
(R (bool false) (w13))
((z5 (wrap i64 (x8 + 1)) (w13)) ∧ (z6 (wrap i64 (x8 + 1)) w13 < z6 x8 w9))))
(R (bool false) (w13)))
((z5 (wrap i64 (x8 + 1)) (w13)) ∧ (z6 (wrap i64 (x8 + 1)) w13 < z6 x8 w9))))))))))))))
(R (bool (decide ((↑n3 : Int) ≤ 12))) (w9))))))))))))))))))
theorem ca93 (s : ByteArray) (wild : Bool) (w : World) (R : Value → World → Prop) (h : W93 s wild w R) : Ca Tryz.prog 93 ⟨[(.string s), (.bool wild)]⟩ w R :=
  caB (fn := Tryz.f93) (pl := pl93) (ls := ls93) Tryz.func93 (by kernel_rfl) (by kernel_rfl) h

/-- staith/staithref05.Name -/
noncomputable def C71 : Code := (Tryz.f71.body).getD .skip
def pl71 : Nat → Plan := fun _ => .done
def ls71 : Nat → List (Nat × LT) := fun _ => []
def W71 (s : ByteArray) (w : World) (R : Value → World → Prop) : Prop :=
  (ifK (decide ((↑(ByteArray.size s) : Int) ≤ 20))
(Ca Tryz.prog (97) (Array.mk [string s]) (w) (fun v0 => (fun w1 =>
(∃ b2 : Bool, ((v0 = bool b2) ∧ (R (bool b2) (w1)))))))
(R (bool false) (w)))
theorem ca71 (s : ByteArray) (w : World) (R : Value → World → Prop) (h : W71 s w R) : Ca Tryz.prog 71 ⟨[(.string s)]⟩ w R :=
  caB (fn := Tryz.f71) (pl := pl71) (ls := ls71) Tryz.func71 (by kernel_rfl) (by kernel_rfl) h

/-- staith/staithref05.Key -/
noncomputable def C68 : Code := (Tryz.f68.body).getD .skip
def pl68 : Nat → Plan := fun _ => .done
def ls68 : Nat → List (Nat × LT) := fun _ => []
def W68 (s : ByteArray) (w : World) (R : Value → World → Prop) : Prop :=
  (Ca Tryz.prog (93) (Array.mk [string s, bool false]) (w) (fun v0 => (fun w1 =>
(∃ b2 : Bool, ((v0 = bool b2) ∧ (R (bool b2) (w1)))))))
theorem ca68 (s : ByteArray) (w : World) (R : Value → World → Prop) (h : W68 s w R) : Ca Tryz.prog 68 ⟨[(.string s)]⟩ w R :=
  caB (fn := Tryz.f68) (pl := pl68) (ls := ls68) Tryz.func68 (by kernel_rfl) (by kernel_rfl) h

/-- staith/staithref05.Pattern -/
noncomputable def C94 : Code := (Tryz.f94.body).getD .skip
def pl94 : Nat → Plan := fun _ => .done
def ls94 : Nat → List (Nat × LT) := fun _ => []
def W94 (s : ByteArray) (w : World) (R : Value → World → Prop) : Prop :=
  (Ca Tryz.prog (93) (Array.mk [string s, bool true]) (w) (fun v0 => (fun w1 =>
(∃ b2 : Bool, ((v0 = bool b2) ∧ (R (bool b2) (w1)))))))
theorem ca94 (s : ByteArray) (w : World) (R : Value → World → Prop) (h : W94 s w R) : Ca Tryz.prog 94 ⟨[(.string s)]⟩ w R :=
  caB (fn := Tryz.f94) (pl := pl94) (ls := ls94) Tryz.func94 (by kernel_rfl) (by kernel_rfl) h

/-- staith/staithref07.Good -/
noncomputable def C37 : Code := (Tryz.f37.body).getD .skip
def pl37 : Nat → Plan := fun _ => .done
def ls37 : Nat → List (Nat × LT) := fun _ => []
def W37 (x0_ : ByteArray) (x1_ : Int) (x2_ : Bool) (w : World) (R : Value → World → Prop) : Prop :=
  (atW (alloc w (cells (Array.mk [string x0_, int i64 x1_, bool x2_]) 33 (0, 0))) (fun w0 =>
(∃ s1 : ByteArray, ((cell? w0 (add (nw w) 0) = some (string s1)) ∧ (Ca Tryz.prog (71) (Array.mk [string s1]) (w0) (fun v2 => (fun w3 =>
(∃ b4 : Bool, ((v2 = bool b4) ∧ (ifK (b4)
(∃ x5 : Int, ((cell? w3 (add (nw w) 1) = some (int i64 x5)) ∧ (ifK (decide (x5 ≥ 1))
(∃ x6 : Int, ((cell? w3 (add (nw w) 1) = some (int i64 x6)) ∧ (R (bool (decide (x6 ≤ 3))) (w3))))
(R (bool false) (w3)))))
(R (bool false) (w3))))))))))))
theorem ca37 (x0_ : ByteArray) (x1_ : Int) (x2_ : Bool) (w : World) (R : Value → World → Prop) (h : W37 x0_ x1_ x2_ w R) : Ca Tryz.prog 37 ⟨[(.agg ⟨[(.string x0_), (.int .i64 x1_), (.bool x2_)]⟩)]⟩ w R :=
  caB (fn := Tryz.f37) (pl := pl37) (ls := ls37) Tryz.func37 (by kernel_rfl) (by kernel_rfl) h

/-- (*staith/staithref07.Table).Find -/
noncomputable def C43 : Code := (Tryz.f43.body).getD .skip
def pl43 : Nat → Plan := fun _ => .done
def ls43 : Nat → List (Nat × LT)
  | 3 => [(13, (.one (.int .i64)))]
  | _ => []
def W43 (t : Option Addr) (name : ByteArray) (w : World) (R : Value → World → Prop) : Prop :=
  (atW (alloc w (cells (Array.mk [string (ByteArray.mk #[]), int i64 0, bool false]) 33 (0, 0))) (fun w0 =>
(onP (t) (fun a1 =>
(∃ p2 : Option Addr, (∃ n3 : Nat, (∃ n4 : Nat, ((cell? w0 (add a1 0) = some (slice p2 n3 n4)) ∧ (∃ z5 : Int → World → Prop, (∃ z6 : Int → World → Nat, ((z5 (0) (w0)) ∧ (∀ (_ : Nat → Value), (∀ (x8 : Int), (∀ (w9 : World), ((z5 (x8) (w9)) → (ifK (decide (x8 < (↑n3 : Int)))
(∃ a10 : Addr, ((p2 = some a10) ∧ (((0 : Int) ≤ x8) ∧ (((x8 : Int) < (↑n3 : Int)) ∧ (∃ s11 : ByteArray, ((cell? w9 (add (add a10 (Int.toNat x8 * 3)) 0) = some (string s11)) ∧ (∃ x12 : Int, ((cell? w9 (add (add a10 (Int.toNat x8 * 3)) 1) = some (int i64 x12)) ∧ (∃ b13 : Bool, ((cell? w9 (add (add a10 (Int.toNat x8 * 3)) 2) = some (bool b13)) ∧ (atW (alloc w9 (cells (Array.mk [string (ByteArray.mk #[]), int i64 0, bool false]) 33 (0, 0))) (fun w14 =>
(st1 (add (nw w9) 0) (string s11) w14 (fun w16 =>
(st1 (add (nw w9) 1) (int i64 x12) w16 (fun w18 =>
(st1 (add (nw w9) 2) (bool b13) w18 (fun w20 =>
(∃ s21 : ByteArray, ((cell? w20 (add (nw w9) 0) = some (string s21)) ∧ (ifK (ByteArray.toList s21 == ByteArray.toList name)
(∃ s22 : ByteArray, ((cell? w20 (add (nw w9) 0) = some (string s22)) ∧ (∃ x23 : Int, ((cell? w20 (add (nw w9) 1) = some (int i64 x23)) ∧ (∃ b24 : Bool, ((cell? w20 (add (nw w9) 2) = some (bool b24)) ∧ (st1 (add (nw w) 0) (string s22) w20 (fun w26 =>
(st1 (add (nw w) 1) (int i64 x23) w26 (fun w28 =>
(st1 (add (nw w) 2) (bool b24) w28 (fun w30 =>
(∃ s31 : ByteArray, ((cell? w30 (add (nw w) 0) = some (string s31)) ∧ (∃ x32 : Int, ((cell? w30 (add (nw w) 1) = some (int i64 x32)) ∧ (∃ b33 : Bool, ((cell? w30 (add (nw w) 2) = some (bool b33)) ∧ (R (tuple (Array.mk [agg (Array.mk (List.reverse [bool b33, int i64 x32, string s31])), bool true])) (w30))))))))))))))))))))
((z5 (wrap i64 (x8 + 1)) (w20)) ∧ (z6 (wrap i64 (x8 + 1)) w20 < z6 x8 w9)))))))))))))))))))))))
(st1 (add (nw w) 0) (string (ByteArray.mk #[])) w9 (fun w35 =>
(st1 (add (nw w) 1) (int i64 0) w35 (fun w37 =>
(st1 (add (nw w) 2) (bool false) w37 (fun w39 =>
(∃ s40 : ByteArray, ((cell? w39 (add (nw w) 0) = some (string s40)) ∧ (∃ x41 : Int, ((cell? w39 (add (nw w) 1) = some (int i64 x41)) ∧ (∃ b42 : Bool, ((cell? w39 (add (nw w) 2) = some (bool b42)) ∧ (R (tuple (Array.mk [agg (Array.mk (List.reverse [bool b42, int i64 x41, string s40])), bool false])) (w39))))))))))))))))))))))))))))))
theorem ca43 (t : Option Addr) (name : ByteArray) (w : World) (R : Value → World → Prop) (h : W43 t name w R) : Ca Tryz.prog 43 ⟨[(.pointer t), (.string name)]⟩ w R :=
  caB (fn := Tryz.f43) (pl := pl43) (ls := ls43) Tryz.func43 (by kernel_rfl) (by kernel_rfl) h

/-- (*staith/staithref07.Table).Has -/
noncomputable def C20 : Code := (Tryz.f20.body).getD .skip
def pl20 : Nat → Plan := fun _ => .done
def ls20 : Nat → List (Nat × LT)
  | 3 => [(12, (.one (.int .i64)))]
  | _ => []
def W20 (t : Option Addr) (b0_ : ByteArray) (b1_ : ByteArray) (b2_ : ByteArray) (w : World) (R : Value → World → Prop) : Prop :=
  (atW (alloc w (cells (Array.mk [string b0_, string b1_, string b2_]) 35 (0, 0))) (fun w0 =>
(onP (t) (fun a1 =>
(∃ p2 : Option Addr, (∃ n3 : Nat, (∃ n4 : Nat, ((cell? w0 (add a1 1) = some (slice p2 n3 n4)) ∧ (∃ z5 : Int → World → Prop, (∃ z6 : Int → World → Nat, ((z5 (0) (w0)) ∧ (∀ (_ : Nat → Value), (∀ (x8 : Int), (∀ (w9 : World), ((z5 (x8) (w9)) → (ifK (decide (x8 < (↑n3 : Int)))
(∃ a10 : Addr, ((p2 = some a10) ∧ (((0 : Int) ≤ x8) ∧ (((x8 : Int) < (↑n3 : Int)) ∧ (∃ s11 : ByteArray, ((cell? w9 (add (add a10 (Int.toNat x8 * 3)) 0) = some (string s11)) ∧ (∃ s12 : ByteArray, ((cell? w9 (add (add a10 (Int.toNat x8 * 3)) 1) = some (string s12)) ∧ (∃ s13 : ByteArray, ((cell? w9 (add (add a10 (Int.toNat x8 * 3)) 2) = some (string s13)) ∧ (atW (alloc w9 (cells (Array.mk [string (ByteArray.mk #[]), string (ByteArray.mk #[]), string (ByteArray.mk #[])]) 35 (0, 0))) (fun w14 =>
(st1 (add (nw w9) 0) (string s11) w14 (fun w16 =>
(st1 (add (nw w9) 1) (string s12) w16 (fun w18 =>
(st1 (add (nw w9) 2) (string s13) w18 (fun w20 =>
(∃ s21 : ByteArray, ((cell? w20 (add (nw w9) 0) = some (string s21)) ∧ (∃ s22 : ByteArray, ((cell? w20 (add (nw w9) 1) = some (string s22)) ∧ (∃ s23 : ByteArray, ((cell? w20 (add (nw w9) 2) = some (string s23)) ∧ (∃ s24 : ByteArray, ((cell? w20 (add (nw w) 0) = some (string s24)) ∧ (∃ s25 : ByteArray, ((cell? w20 (add (nw w) 1) = some (string s25)) ∧ (∃ s26 : ByteArray, ((cell? w20 (add (nw w) 2) = some (string s26)) ∧ (eqA Tryz.prog 35 (agg (Array.mk (List.reverse [string s23, string s22, string s21]))) (agg (Array.mk (List.reverse [string s26, string s25, string s24]))) (w20) (fun b27 => (fun w28 =>
(ifK (b27)
(R (bool true) (w28))
((z5 (wrap i64 (x8 + 1)) (w28)) ∧ (z6 (wrap i64 (x8 + 1)) w28 < z6 x8 w9))))))))))))))))))))))))))))))))))))
(R (bool false) (w9))))))))))))))))))
theorem ca20 (t : Option Addr) (b0_ : ByteArray) (b1_ : ByteArray) (b2_ : ByteArray) (w : World) (R : Value → World → Prop) (h : W20 t b0_ b1_ b2_ w R) : Ca Tryz.prog 20 ⟨[(.pointer t), (.agg ⟨[(.string b0_), (.string b1_), (.string b2_)]⟩)]⟩ w R :=
  caB (fn := Tryz.f20) (pl := pl20) (ls := ls20) Tryz.func20 (by kernel_rfl) (by kernel_rfl) h

/-- staith/staithref07.may -/
noncomputable def C72 : Code := (Tryz.f72.body).getD .skip
def pl72 : Nat → Plan := fun _ => .done
def ls72 : Nat → List (Nat × LT) := fun _ => []
def W72 (kind : Int) (pattern : ByteArray) (w : World) (R : Value → World → Prop) : Prop :=
  (ifK (kind == 1)
(Ca Tryz.prog (68) (Array.mk [string pattern]) (w) (fun v0 => (fun w1 =>
(∃ b2 : Bool, ((v0 = bool b2) ∧ (R (bool b2) (w1)))))))
(ifK (kind == 2)
(R (bool (ByteArray.toList pattern == ByteArray.toList (ByteArray.mk #[]))) (w))
(Ca Tryz.prog (94) (Array.mk [string pattern]) (w) (fun v3 => (fun w4 =>
(∃ b5 : Bool, ((v3 = bool b5) ∧ (R (bool b5) (w4)))))))))
theorem ca72 (kind : Int) (pattern : ByteArray) (w : World) (R : Value → World → Prop) (h : W72 kind pattern w R) : Ca Tryz.prog 72 ⟨[(.int .i64 kind), (.string pattern)]⟩ w R :=
  caB (fn := Tryz.f72) (pl := pl72) (ls := ls72) Tryz.func72 (by kernel_rfl) (by kernel_rfl) h

/-- staith/staithref07.ahead -/
noncomputable def C73 : Code := (Tryz.f73.body).getD .skip
def pl73 : Nat → Plan := fun _ => .done
def ls73 : Nat → List (Nat × LT) := fun _ => []
def W73 (a0_ : ByteArray) (a1_ : ByteArray) (a2_ : ByteArray) (b0_ : ByteArray) (b1_ : ByteArray) (b2_ : ByteArray) (w : World) (R : Value → World → Prop) : Prop :=
  (atW (alloc w (cells (Array.mk [string a0_, string a1_, string a2_]) 35 (0, 0))) (fun w0 =>
(atW (alloc w0 (cells (Array.mk [string b0_, string b1_, string b2_]) 35 (0, 0))) (fun w1 =>
(∃ s2 : ByteArray, ((cell? w1 (add (nw w) 0) = some (string s2)) ∧ (∃ s3 : ByteArray, ((cell? w1 (add (nw w0) 0) = some (string s3)) ∧ (ifK (!ByteArray.toList s2 == ByteArray.toList s3)
(∃ s4 : ByteArray, ((cell? w1 (add (nw w) 0) = some (string s4)) ∧ (∃ s5 : ByteArray, ((cell? w1 (add (nw w0) 0) = some (string s5)) ∧ (R (bool (Op.bytesLess (ByteArray.toList s4) (ByteArray.toList s5))) (w1))))))
(∃ s6 : ByteArray, ((cell? w1 (add (nw w) 1) = some (string s6)) ∧ (∃ s7 : ByteArray, ((cell? w1 (add (nw w0) 1) = some (string s7)) ∧ (ifK (!ByteArray.toList s6 == ByteArray.toList s7)
(∃ s8 : ByteArray, ((cell? w1 (add (nw w) 1) = some (string s8)) ∧ (∃ s9 : ByteArray, ((cell? w1 (add (nw w0) 1) = some (string s9)) ∧ (R (bool (Op.bytesLess (ByteArray.toList s8) (ByteArray.toList s9))) (w1))))))
(∃ s10 : ByteArray, ((cell? w1 (add (nw w) 2) = some (string s10)) ∧ (∃ s11 : ByteArray, ((cell? w1 (add (nw w0) 2) = some (string s11)) ∧ (R (bool (Op.bytesLess (ByteArray.toList s10) (ByteArray.toList s11))) (w1))))))))))))))))))))
theorem ca73 (a0_ : ByteArray) (a1_ : ByteArray) (a2_ : ByteArray) (b0_ : ByteArray) (b1_ : ByteArray) (b2_ : ByteArray) (w : World) (R : Value → World → Prop) (h : W73 a0_ a1_ a2_ b0_ b1_ b2_ w R) : Ca Tryz.prog 73 ⟨[(.agg ⟨[(.string a0_), (.string a1_), (.string a2_)]⟩), (.agg ⟨[(.string b0_), (.string b1_), (.string b2_)]⟩)]⟩ w R :=
  caB (fn := Tryz.f73) (pl := pl73) (ls := ls73) Tryz.func73 (by kernel_rfl) (by kernel_rfl) h
end Go.Proofs.YtehhhkcemmfjpaaGreatDoor

/- The reference's functions on names and patterns (the ahead part is Ref's, for any seat). -/
namespace Go.Proofs.YtehhhkcemmfjpaaGreatDoor
open Go Go.Proofs.YtehhhkcemmfjpaaGreatDoor Go.Proofs.YtehhhkcemmfjpaaGreatDoor.St

theorem plainB_eq (s : ByteArray) : plainB s = (lettersB s && decide (s.size > 0)) := by
  unfold plainB
  congr 1
  rw [byteArray_toList, byteArray_toList]
  have : s.size = s.data.toList.length := Array.length_toList.symm
  rw [this]
  cases s.data.toList with
  | nil => rfl
  | cons x r => exact (decide_eq_true (Nat.succ_pos _)).symm

theorem letters_ok (s : ByteArray) (w : World) (hs : s.size < 4611686018427387904) (R : Value → World → Prop) (h : R (.bool (plainB s)) w) : Ca Tryz.prog 97 #[.string s] w R := by
  refine ca97 s w R ?_
  refine ⟨fun x w' => ∃ i : Nat, x = i ∧ i ≤ s.size ∧ w' = w ∧ ∀ (k : Nat) (hk : k < s.size), k < i → letter (s[k]'hk).toNat = true, fun x _ => ((s.size : Int) - x).toNat,
    ⟨0, rfl, Nat.zero_le _, rfl, fun k _ hk => by omega⟩, ?_⟩
  rintro _ _ _ ⟨i, rfl, hi, rfl, hall⟩
  rename_i w
  refine ifK_dec (fun hlt => ?_) (fun hge => ?_)
  · have hlt' : i < s.size := by omega
    refine ⟨by omega, hlt, fun b w' => b = !(letter (s[i]'hlt').toNat) ∧ w' = w, ?_, ?_⟩
    · rw [Int.toNat_natCast, byteAt_eq hlt']
      generalize (s[i]'hlt').toNat = c
      repeat' first
        | refine ifK_dec (fun _ => ?_) (fun _ => ?_)
        | refine ifK_eq (fun _ => ?_) (fun _ => ?_)
      all_goals refine ⟨?_, rfl⟩
      all_goals rw [Bool.eq_iff_iff]
      all_goals simp [letter]
      all_goals omega
    · rintro _ b _ ⟨rfl, rfl⟩
      refine ifK_not (fun hf => ?_) (fun ht => ?_)
      · have : plainB s = false := by
          rw [plainB]
          have : lettersB s = false := by
            cases hc : lettersB s with
            | false => rfl
            | true => rw [lettersB_at hc hlt'] at hf; cases hf
          rw [this]; rfl
        rwa [this] at h
      · have e1 : IntKind.i64.wrap ((i : Int) + 1) = ((i + 1 : Nat) : Int) := (by first | (simp only [IntKind.wrap_i64]; omega) | omega)
        rw [e1]
        refine ⟨⟨i + 1, rfl, hlt', rfl, fun k hk hki => ?_⟩, by simp only; omega⟩
        by_cases e : k = i
        · subst e; exact ht
        · exact hall k hk (by omega)
  · have : plainB s = decide ((s.size : Int) > 0) := by
      rw [plainB_eq, lettersB_of fun k hk => hall k hk (by omega)]
      simp
    rwa [this] at h
theorem nameR_ok (s : ByteArray) (w : World) (R : Value → World → Prop) (h : R (.bool (nameB s)) w) : Ca Tryz.prog 71 #[.string s] w R := by
  refine ca71 s w R ?_
  refine ifK_dec (fun hle => ?_) (fun hgt => ?_)
  · refine letters_ok s w (by omega) _ ⟨_, rfl, ?_⟩
    have : nameB s = plainB s := by rw [nameB]; simp [hle]
    rwa [this] at h
  · have : nameB s = false := by rw [nameB]; simp [hgt]
    rwa [this] at h

/-! ### The reference's desk -/

def glue (c : List UInt8) : List (List UInt8) → List (List UInt8)
  | [] => [c]
  | x :: xs => (c ++ x) :: xs
theorem glue_dot (c r : List UInt8) : glue c (splitD (46 :: r)) = c :: splitD r := by simp [splitD, glue]
theorem glue_nil (l : List UInt8) : glue [] (splitD l) = splitD l := by
  cases h : splitD l with
  | nil => exact absurd h (splitD_ne l)
  | cons x xs => rfl
theorem glue_byte (c r : List UInt8) (b : UInt8) (hb : b ≠ 46) : glue c (splitD (b :: r)) = glue (c ++ [b]) (splitD r) := by
  cases h : splitD r with
  | nil => exact absurd h (splitD_ne r)
  | cons x xs => simp [splitD, hb, h, glue]
theorem bs_append (a b : List UInt8) : bs a ++ bs b = bs (a ++ b) := by
  apply ByteArray.ext
  simp [bs]
set_option maxHeartbeats 1000000 in
theorem refWords_ok (s : ByteArray) (w : World) (hs : s.size < 1000000000) (R : Value → World → Prop)
    (h : ∀ w' a l c, Els Value.string 9 w' a l c (wordsOf s) → Mod no w w' → (∀ k, rowB a k → w.heap.size ≤ k) → R (.slice a l c) w') : Ca Tryz.prog 96 #[.string s] w R := by
  refine ca96 s w R (ifK_of (fun he => ?_) fun hne => ?_)
  · have : s.size = 0 := by
      have : s = ByteArray.mk #[] := ba_toList _ _ (eq_of_beq he)
      rw [this]; rfl
    exact h w none 0 0 (by rw [wordsOf, if_pos this]; exact Els.nil _ _) (Mod.refl _ _) fun k hk => by cases hk
  have hpos : s.size ≠ 0 := fun h0 => by
    have : s = ByteArray.mk #[] := ByteArray.ext (Array.eq_empty_of_size_eq_zero h0)
    rw [this] at hne
    simp at hne
  have hsl : s.data.toList.length = s.size := Array.length_toList
  refine ⟨fun a l c t x w' => ∃ (i : Nat) (pre : List ByteArray) (cur : List UInt8), x = i ∧ i ≤ s.size ∧ t = bs cur ∧ cur.length ≤ i ∧ pre.length ≤ i ∧ Els Value.string 9 w' a l c pre ∧ Mod no w w' ∧ (∀ k, rowB a k → w.heap.size ≤ k) ∧
      pre ++ (glue cur (splitD (s.data.toList.drop i))).map bs = wordsOf s, fun _ _ _ _ x _ => ((s.size : Int) - x).toNat,
    ⟨0, [], [], rfl, Nat.zero_le _, rfl, Nat.le_refl _, Nat.le_refl _, Els.nil _ _, Mod.refl _ _, (fun k hk => by cases hk), by rw [List.drop_zero, glue_nil, wordsOf, if_neg hpos]; rfl⟩, ?_⟩
  rintro _ a l c _ _ w8 ⟨i, pre, cur, rfl, hi, rfl, hc, hp, hx, m8, hn, he⟩
  have hxl := hx.len.1
  refine ifK_dec (fun hlt => ?_) (fun hge => ?_)
  · have hlt' : i < s.size := by omega
    have hdr : s.data.toList.drop i = (s[i]'hlt') :: s.data.toList.drop (i + 1) := by
      rw [List.drop_eq_getElem_cons (by rw [hsl]; exact hlt')]
      rfl
    refine ⟨by omega, hlt, ?_⟩
    have e1 : IntKind.i64.wrap ((i : Int) + 1) = ((i + 1 : Nat) : Int) := (by first | (simp only [IntKind.wrap_i64]; omega) | omega)
    rw [Int.toNat_natCast, byteAt_eq hlt', e1]
    clear e1
    refine ifK_eq (fun h46 => ?_) (fun h46 => ?_)
    · have h46 : s[i]'hlt' = 46 := UInt8.toNat_inj.1 (by have : ((s[i]'hlt').toNat : Int) = 46 := h46; show (s[i]'hlt').toNat = 46; omega)
      intro w9 e9
      have m9 : Mod no w8 w9 := by subst e9; exact Mod.alloc _ _
      have b9 : w9.heap[w8.heap.size]? = some (.cells #[.string (bs cur)] 9 (0, 0)) := by subst e9; exact new_at _ _
      clear e9
      obtain ⟨a', c', w11, hrun, x11, m11, hnew⟩ := Els.push1 (P := Tryz.prog) (t := 55) (ty := 55) (fun _ => rfl) (by kernel_rfl) (hx.no m9) b9 (by omega)
      have h89 := m9.size
      have h08 := m8.size
      refine ⟨_, w11, hrun, _, _, _, rfl, ⟨i + 1, pre ++ [bs cur], [], rfl, hlt', rfl, Nat.zero_le _, by rw [List.length_append]; exact Nat.succ_le_succ hp, x11, ?_, fun k hk => (hnew k hk).elim (hn k) (fun h => by omega), ?_⟩, by simp only; omega⟩
      · exact (m8.trans m9).new m11 hn
      · rw [← he, hdr, h46, glue_dot, glue_nil]
        simp
    · have h46 : s[i]'hlt' ≠ 46 := fun h => h46 (by rw [h]; rfl)
      have hex : s.extract i (i + 1) = bs [s[i]'hlt'] := by
        have := bs_extract s.data.toList i (i + 1)
        rw [bs_data] at this
        rw [this, hdr]
        simp
      rw [Int.toNat_natCast, hex, bs_append]
      refine ⟨by omega, by omega, by omega, by rw [bs_size, bs_size]; simp; omega, ⟨i + 1, pre, cur ++ [s[i]'hlt'], rfl, hlt', rfl, by simp; omega, by omega, hx, m8, hn, ?_⟩, by simp only; omega⟩
      rw [← he, hdr, glue_byte _ _ _ h46]
  · intro w9 e9
    have m9 : Mod no w8 w9 := by subst e9; exact Mod.alloc _ _
    have b9 : w9.heap[w8.heap.size]? = some (.cells #[.string (bs cur)] 9 (0, 0)) := by subst e9; exact new_at _ _
    clear e9
    obtain ⟨a', c', w11, hrun, x11, m11, hnew⟩ := Els.push1 (P := Tryz.prog) (t := 55) (ty := 55) (fun _ => rfl) (by kernel_rfl) (hx.no m9) b9 (by omega)
    have h89 := m9.size
    have h08 := m8.size
    refine ⟨_, w11, hrun, _, _, _, rfl, h w11 a' (l + 1) c' ?_ ((m8.trans m9).new m11 hn) fun k hk => (hnew k hk).elim (hn k) (fun h => by omega)⟩
    have : s.data.toList.drop i = [] := List.drop_eq_nil_of_le (by omega)
    rw [this] at he
    rw [← he]
    simpa [splitD, glue] using x11
end Go.Proofs.YtehhhkcemmfjpaaGreatDoor

/- The reference's Key, Pattern, may, Good, ahead. -/
namespace Go.Proofs.YtehhhkcemmfjpaaGreatDoor
open Go Go.Proofs.YtehhhkcemmfjpaaGreatDoor Go.Proofs.YtehhhkcemmfjpaaGreatDoor.St

theorem splitD_mem : ∀ (l : List UInt8) (x : List UInt8), x ∈ splitD l → x.length ≤ l.length
  | [], x, h => by simp [splitD] at h; simp [h]
  | c :: r, x, h => by
    simp only [splitD] at h
    split at h
    · rcases List.mem_cons.1 h with rfl | h
      · simp
      · have := splitD_mem r x h; simp; omega
    · split at h
      · simp at h; simp [h]
      · rename_i y ys hy
        rcases List.mem_cons.1 h with rfl | h
        · have := splitD_mem r y (by rw [hy]; simp); simp; omega
        · have := splitD_mem r x (by rw [hy]; simp [h]); simp; omega
theorem words_mem {s x : ByteArray} (h : x ∈ wordsOf s) : x.size ≤ s.size := by
  unfold wordsOf at h
  split at h
  · cases h
  · obtain ⟨y, hy, rfl⟩ := List.mem_map.1 h
    exact splitD_mem _ y hy
def wordB (wi : Bool) (x : ByteArray) : Bool := if wi then wild x else plainB x
theorem all_ok (s : ByteArray) (wi : Bool) (w : World) (R : Value → World → Prop) (h : ∀ w', Mod no w w' → R (.bool (madeB (wordB wi) s)) w') : Ca Tryz.prog 93 #[.string s, .bool wi] w R := by
  refine ca93 s wi w R (ifK_dec (fun hgt => ?_) fun hle => ?_)
  · have h' := h w (Mod.refl _ _)
    rw [madeB, decide_eq_false (show ¬ s.size ≤ 60 by omega), Bool.false_and] at h'
    exact h'
  refine refWords_ok s w (by omega) _ fun w1 a l c hx m1 _ => ⟨a, l, c, rfl, ?_⟩
  have hxl := hx.len.1
  have hwl : (wordsOf s).length ≤ s.size + 1 := by
    unfold wordsOf
    split
    · simp
    · rw [List.length_map]; exact splitD_len _
  have hB : madeB (wordB wi) s = (decide (l ≤ 12) && (wordsOf s).all (wordB wi)) := by rw [madeB, decide_eq_true (show s.size ≤ 60 by omega), Bool.true_and, hxl]
  refine ⟨fun x w' => ∃ i : Nat, x = i ∧ i ≤ l ∧ Mod no w w' ∧ Els Value.string 9 w' a l c (wordsOf s) ∧ (wordsOf s).all (wordB wi) = ((wordsOf s).drop i).all (wordB wi), fun x _ => ((l : Int) - x).toNat, ⟨0, rfl, by omega, m1, hx, rfl⟩, ?_⟩
  rintro _ _ w4 ⟨i, rfl, hi, m4, hx4, he⟩
  refine ifK_dec (fun hlt => ?_) (fun hge => ?_)
  · have hil : i < (wordsOf s).length := by omega
    have hd : (wordsOf s).drop i = at0 (wordsOf s) i :: (wordsOf s).drop (i + 1) := by rw [List.drop_eq_getElem_cons hil, at0_eq hil]
    have e1 : IntKind.i64.wrap ((i : Int) + 1) = ((i + 1 : Nat) : Int) := (by first | (simp only [IntKind.wrap_i64]; omega) | omega)
    rw [e1]
    have hsz : (at0 (wordsOf s) i).size ≤ s.size := words_mem (by rw [at0_eq hil]; exact List.getElem_mem hil)
    rw [hd, List.all_cons] at he
    have next : wordB wi (at0 (wordsOf s) i) = true → (∃ i' : Nat, ((i + 1 : Nat) : Int) = i' ∧ i' ≤ l ∧ Mod no w w4 ∧ Els Value.string 9 w4 a l c (wordsOf s) ∧ (wordsOf s).all (wordB wi) = ((wordsOf s).drop i').all (wordB wi)) ∧ ((l : Int) - ((i + 1 : Nat) : Int)).toNat < ((l : Int) - (i : Int)).toNat := by
      intro ht
      exact ⟨⟨i + 1, rfl, by omega, m4, hx4, by rw [he, ht, Bool.true_and]⟩, by omega⟩
    have stop : wordB wi (at0 (wordsOf s) i) = false → R (.bool false) w4 := by
      intro hf
      have h' := h w4 m4
      rw [hB, he, hf, Bool.false_and, Bool.and_false] at h'
      exact h'
    refine hx4.rd i rfl (by omega) (letters_ok _ _ (by omega) _ ⟨_, rfl, ifK_not (fun hp => ?_) (fun hp => ?_)⟩)
    · cases wi with
      | false => exact ifK_of (fun h => by cases h) fun _ => stop (by rw [wordB]; exact hp)
      | true =>
        refine ifK_of (fun _ => ?_) fun h => by cases h
        rw [toList_beq, toList_beq]
        refine ifK_of (fun h1 => next (by rw [wordB]; simp only [if_true]; rw [wild, h1, Bool.true_or])) fun h1 => ifK_not (fun h2 => stop ?_) (fun h2 => next ?_)
        · rw [wordB]; simp only [if_true]; rw [wild, h1, h2, hp]; rfl
        · rw [wordB]; simp only [if_true]; rw [wild, h2, Bool.true_or, Bool.or_true]
    · refine next ?_
      rw [wordB, wild, hp]
      cases wi <;> simp
  · have h' := h w4 m4
    rw [hB, he, List.drop_eq_nil_of_le (by omega)] at h'
    have : decide ((l : Int) ≤ 12) = (decide (l ≤ 12) && ([] : List ByteArray).all (wordB wi)) := by
      rw [List.all_nil, Bool.and_true]
      exact decide_eq_decide.2 (by omega)
    rw [this]
    exact h'
theorem keyR_ok (s : ByteArray) (w : World) (R : Value → World → Prop) (h : ∀ w', Mod no w w' → R (.bool (keyB s)) w') : Ca Tryz.prog 68 #[.string s] w R := by
  refine ca68 s w R ?_
  exact all_ok s false w _ fun w' m => ⟨_, rfl, h w' m⟩
theorem patR_ok (s : ByteArray) (w : World) (R : Value → World → Prop) (h : ∀ w', Mod no w w' → R (.bool (patB s)) w') : Ca Tryz.prog 94 #[.string s] w R := by
  refine ca94 s w R ?_
  exact all_ok s true w _ fun w' m => ⟨_, rfl, h w' m⟩
end Go.Proofs.YtehhhkcemmfjpaaGreatDoor
