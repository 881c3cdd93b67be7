/- The library's sort of whole numbers, at one type of them: Less, insertion sort. -/
import Derived.Test.YtgmafocfhepccaaIntsL
import Derived.Test.YtgmafocfhepccaaFsint
namespace Go.Proofs.Ytgmafocfhepccaa.Sortint
open Go Go.Proofs.Ytgmafocfhepccaa Go.Proofs.Ytgmafocfhepccaa.St

theorem isNaN_ok (x : Int) (w : World) (R : Value → World → Prop) (h : R (.bool false) w) : Ca Try.prog 73 #[.int .i64 x] w R := by
  refine ca73 x w R ?_
  have : (x != x) = false := by simp
  rw [W73, this]
  exact h
theorem less_ok (x y : Int) (w : World) (R : Value → World → Prop) (h : R (.bool (decide (x < y))) w) : Ca Try.prog 60 #[.int .i64 x, .int .i64 y] w R := by
  refine ca60 x y w R ?_
  exact isNaN_ok x w _ ⟨false, rfl, h⟩

theorem insertion_ok (e : TypeId) (d : Option Addr) (l c : Nat) (a b : Nat) (xs : List Int) (w : World) (hd : Ints .i64 e w d l c xs) (hab : a ≤ b) (hb : b ≤ l) (hl : l < 4611686018427387904) (R : Value → World → Prop)
    (h : ∀ w' ys, Ints .i64 e w' d l c ys → Seg a b xs ys → Srt ys a b → Mod (rowB d) w w' → R (.tuple #[]) w') :
    Ca Try.prog 54 #[.slice d l c, .int .i64 a, .int .i64 b] w R := by
  obtain ⟨hxl, hlc, hcm⟩ := hd.len
  refine ca54 d l c a b w R ?_
  have e1 : IntKind.i64.wrap ((a : Int) + 1) = ((a + 1 : Nat) : Int) := by rw [wrap64 (by omega) (by omega)]; omega
  rw [W54, e1]
  refine ⟨fun x w' => ∃ (i : Nat) (ys : List Int), x = i ∧ a < i ∧ (i ≤ b ∨ i = a + 1) ∧ Ints .i64 e w' d l c ys ∧ Seg a b xs ys ∧ Srt ys a (min i b) ∧ Mod (rowB d) w w',
    fun x _ => ((b : Int) - x).toNat, ⟨a + 1, xs, rfl, by omega, .inr rfl, hd, Seg.refl _ _ _, Srt.nil _ _ _ (by omega), Mod.refl _ _⟩, ?_⟩
  rintro _ x w4 ⟨i, ys, rfl, hai, hib, hys, hseg, hsrt, hm⟩
  refine ifK_of (fun hlt => ?_) (fun hge => ?_)
  · have hlt : i < b := by have := of_decide_eq_true hlt; omega
    have hsrt : Srt ys a i := by rwa [Nat.min_eq_left (by omega)] at hsrt
    refine ⟨fun x w' => ∃ (j : Nat) (zs : List Int), x = j ∧ a ≤ j ∧ j ≤ i ∧ Ints .i64 e w' d l c zs ∧ Seg a b xs zs ∧ Ins zs a i j ∧ Mod (rowB d) w w', fun x _ => (x - a).toNat,
      ⟨i, ys, rfl, by omega, Nat.le_refl _, hys, hseg, Ins.start hsrt, hm⟩, ?_⟩
    rintro _ x w9 ⟨j, zs, rfl, haj, hji, hzs, hsg, hins, hm9⟩
    obtain ⟨hzl, _, _⟩ := hzs.len
    intro w10 e10
    have m10 : Mod no w9 w10 := by subst e10; exact Mod.drew _
    clear e10
    have hz10 := hzs.no m10
    have hm10 := hm9.trans_no m10
    have next : ∀ w16, Mod no w10 w16 → (j ≤ a ∨ at0 zs (j - 1) ≤ at0 zs j) → (∃ (i' : Nat) (ys : List Int), IntKind.i64.wrap ((i : Int) + 1) = i' ∧ a < i' ∧ (i' ≤ b ∨ i' = a + 1) ∧ Ints .i64 e w16 d l c ys ∧ Seg a b xs ys ∧ Srt ys a (min i' b) ∧ Mod (rowB d) w w16) ∧
        ((b : Int) - IntKind.i64.wrap ((i : Int) + 1)).toNat < ((b : Int) - i).toNat := by
      intro w16 m16 hj
      have e2 : IntKind.i64.wrap ((i : Int) + 1) = ((i + 1 : Nat) : Int) := by rw [wrap64 (by omega) (by omega)]; omega
      rw [e2]
      refine ⟨⟨i + 1, zs, rfl, by omega, .inl (by omega), hz10.no m16, hsg, ?_, hm10.trans_no m16⟩, by omega⟩
      rw [Nat.min_eq_left (by omega)]
      exact hins.done hj
    refine ifK_of (fun hgt => ?_) (fun hle => next w10 (Mod.refl _ _) (.inl (by have := of_decide_eq_false hle; omega)))
    have hgt : a < j := by have := of_decide_eq_true hgt; omega
    have e3 : IntKind.i64.wrap ((j : Int) - 1) = ((j - 1 : Nat) : Int) := by rw [wrap64 (by omega) (by omega)]; omega
    rw [e3]
    obtain ⟨g, rfl, hcj⟩ := hz10.get (i := j) (by omega)
    obtain ⟨g', hg', hcj1⟩ := hz10.get (i := j - 1) (by omega)
    cases hg'
    refine ⟨_, rfl, by omega, by omega, _, hcj, _, rfl, by omega, by omega, _, hcj1, ?_⟩
    refine less_ok _ _ _ _ ⟨_, rfl, ifK_of (fun hls => ?_) (fun hls => next w10 (Mod.refl _ _) (.inr (by have := of_decide_eq_false hls; omega)))⟩
    have hls : at0 zs j < at0 zs (j - 1) := of_decide_eq_true hls
    intro w18 e18
    have m18 : Mod no w10 w18 := by subst e18; exact Mod.drew _
    clear e18
    have hz18 := hz10.no m18
    have hm18 := hm10.trans_no m18
    obtain ⟨g', hg', hcj⟩ := hz18.get (i := j) (by omega)
    cases hg'
    obtain ⟨g', hg', hcj1⟩ := hz18.get (i := j - 1) (by omega)
    cases hg'
    obtain ⟨ad, had, hold, hfz, m25, hz25⟩ := hz18.put (i := j) (by omega) (at0 zs (j - 1))
    cases had
    refine ⟨_, rfl, by omega, by omega, _, hcj1, _, rfl, by omega, by omega, _, hcj, _, rfl, by omega, by omega, hold, hfz, ?_⟩
    intro w25 e25
    have e25 : w25 = w18.setCell (Addr.add (Addr.add ⟨g, 0, none⟩ (j * 1)) 0) (.int .i64 (at0 zs (j - 1))) := e25
    rw [← e25] at m25 hz25
    clear e25
    obtain ⟨ad, had, hold, hfz, m28, hz28⟩ := hz25.put (i := j - 1) (by simp; omega) (at0 zs j)
    cases had
    refine ⟨_, rfl, by omega, by omega, hold, hfz, ?_⟩
    intro w28 e28
    have e28 : w28 = w25.setCell (Addr.add (Addr.add ⟨g, 0, none⟩ ((j - 1) * 1)) 0) (.int .i64 (at0 zs j)) := e28
    rw [← e28] at m28 hz28
    clear e28
    exact ⟨⟨j - 1, swapL zs j (j - 1), rfl, by omega, by omega, hz28, hsg.trans (Seg.swap (by omega) (by omega) (by omega) (by omega) (by omega) (by omega)),
      hins.step (by omega) hgt hji hls, (hm18.trans m25).trans m28⟩, by simp only; omega⟩
  · have hge : b ≤ i := by have := of_decide_eq_false hge; omega
    rw [Nat.min_eq_right hge] at hsrt
    exact h w4 ys hys hseg hsrt hm
end Go.Proofs.Ytgmafocfhepccaa.Sortint
