/- Plain laws on lists of whole numbers: swaps, parts that are sorted. It names no program. -/
namespace Go.Proofs.Ytgmafocfhepccaa.St

def at0 (xs : List Int) (i : Nat) : Int := xs.getD i 0
def swapL (xs : List Int) (i j : Nat) : List Int := (xs.set i (at0 xs j)).set j (at0 xs i)

theorem at0_eq {xs : List Int} {i : Nat} (h : i < xs.length) : at0 xs i = xs[i] := by simp [at0, h]
theorem at0_set {xs : List Int} {i k : Nat} {v : Int} (h : i < xs.length) : at0 (xs.set i v) k = if k = i then v else at0 xs k := by
  simp only [at0, List.getD_eq_getElem?_getD, List.getElem?_set]
  by_cases e : i = k
  · subst e; simp [h]
  · rw [if_neg e, if_neg (fun h => e h.symm)]
@[simp] theorem length_swapL (xs : List Int) (i j : Nat) : (swapL xs i j).length = xs.length := by simp [swapL]
theorem at0_swapL {xs : List Int} {i j k : Nat} (hi : i < xs.length) (hj : j < xs.length) : at0 (swapL xs i j) k = if k = j then at0 xs i else if k = i then at0 xs j else at0 xs k := by
  rw [swapL, at0_set (by simpa using hj), at0_set hi]

theorem swapL_perm {xs : List Int} {i j : Nat} (hi : i < xs.length) (hj : j < xs.length) : (swapL xs i j).Perm xs := by
  have h := Array.swap_perm (xs := xs.toArray) (i := i) (j := j) (by simpa using hi) (by simpa using hj)
  have e : (xs.toArray.swap i j (by simpa using hi) (by simpa using hj)).toList = swapL xs i j := by
    simp [Array.swap, swapL, at0_eq hi, at0_eq hj]
  rw [← e]
  exact Array.perm_iff_toList_perm.1 h

/-- Of the part [a, b) another order; all else as it was. -/
structure Seg (a b : Nat) (xs ys : List Int) : Prop where
  len : ys.length = xs.length
  out : ∀ k, k < a ∨ b ≤ k → at0 ys k = at0 xs k
  perm : ys.Perm xs

theorem Seg.refl (a b : Nat) (xs : List Int) : Seg a b xs xs := ⟨rfl, fun _ _ => rfl, .refl _⟩
theorem Seg.trans {a b : Nat} {xs ys zs : List Int} (h : Seg a b xs ys) (h' : Seg a b ys zs) : Seg a b xs zs :=
  ⟨h'.len.trans h.len, fun k hk => (h'.out k hk).trans (h.out k hk), h'.perm.trans h.perm⟩
theorem Seg.mono {a b a' b' : Nat} {xs ys : List Int} (h : Seg a b xs ys) (ha : a' ≤ a) (hb : b ≤ b') : Seg a' b' xs ys :=
  ⟨h.len, fun k hk => h.out k (by omega), h.perm⟩
theorem Seg.swap {a b i j : Nat} {xs : List Int} (hi : i < xs.length) (hj : j < xs.length) (h1 : a ≤ i) (h2 : i < b) (h3 : a ≤ j) (h4 : j < b) : Seg a b xs (swapL xs i j) :=
  ⟨length_swapL _ _ _, fun k hk => by rw [at0_swapL hi hj, if_neg (by omega), if_neg (by omega)], swapL_perm hi hj⟩

/-- The part [a, b) is sorted. -/
def Srt (xs : List Int) (a b : Nat) : Prop := ∀ p q, a ≤ p → p < q → q < b → at0 xs p ≤ at0 xs q

/-- A part's elements are the same ones. -/
theorem Seg.part {a b : Nat} {xs ys : List Int} (h : Seg a b xs ys) (hab : a ≤ b) : ((ys.take b).drop a).Perm ((xs.take b).drop a) := by
  have split : ∀ l : List Int, l = l.take a ++ ((l.take b).drop a ++ l.drop b) := by
    intro l
    have h1 : l.take b = l.take a ++ (l.take b).drop a := by
      have := (List.take_append_drop a (l.take b)).symm
      rwa [List.take_take, Nat.min_eq_left hab] at this
    rw [← List.append_assoc, ← h1, List.take_append_drop]
  have ext : ∀ (l l' : List Int), l.length = l'.length → (∀ k, k < l.length → at0 l k = at0 l' k) → l = l' := by
    intro l l' hl hk
    apply List.ext_getElem hl
    intro i h1 h2
    have := hk i h1
    rwa [at0_eq h1, at0_eq h2] at this
  have e1 : ys.take a = xs.take a := by
    refine ext _ _ (by simp [h.len]) fun k hk => ?_
    simp at hk
    have := h.out k (.inl (by omega))
    rw [at0_eq (by simp; omega), at0_eq (by have := h.len; simp; omega)]
    rw [at0_eq (by omega), at0_eq (by have := h.len; omega)] at this
    simpa using this
  have e2 : ys.drop b = xs.drop b := by
    refine ext _ _ (by simp [h.len]) fun k hk => ?_
    simp at hk
    have := h.out (b + k) (.inr (by omega))
    rw [at0_eq (by simp; omega), at0_eq (by have := h.len; simp; omega)]
    rw [at0_eq (by omega), at0_eq (by have := h.len; omega)] at this
    simpa using this
  have hp := h.perm
  rw [split ys, split xs, e1, e2] at hp
  exact (List.perm_append_right_iff _).1 ((List.perm_append_left_iff _).1 hp)

theorem Seg.all {a b : Nat} {xs ys : List Int} (h : Seg a b xs ys) (hb : b ≤ xs.length) {P : Int → Prop} (hx : ∀ k, a ≤ k → k < b → P (at0 xs k)) : ∀ k, a ≤ k → k < b → P (at0 ys k) := by
  intro k h1 h2
  have hp := h.part (by omega : a ≤ b)
  have hl := h.len
  have hm : at0 ys k ∈ (ys.take b).drop a := by
    rw [List.mem_drop_iff_getElem]
    refine ⟨k - a, by simp; omega, ?_⟩
    rw [at0_eq (by omega)]
    simp [show a + (k - a) = k by omega]
  have := hp.mem_iff.1 hm
  rw [List.mem_drop_iff_getElem] at this
  obtain ⟨i, hi, e⟩ := this
  simp at hi
  rw [← e]
  have := hx (a + i) (by omega) (by omega)
  rw [at0_eq (by omega)] at this
  simpa using this

theorem Srt.nil (xs : List Int) (a b : Nat) (h : b ≤ a + 1) : Srt xs a b := fun p q _ _ _ => by omega
theorem Srt.of_out {xs ys : List Int} {a b a' b' : Nat} (h : Srt xs a b) (hs : Seg a' b' xs ys) (hd : b ≤ a' ∨ b' ≤ a) : Srt ys a b := fun p q h1 h2 h3 => by
  rw [hs.out p (by omega), hs.out q (by omega)]; exact h p q h1 h2 h3

/-- Insertion: all is sorted but what stands at j. -/
def Ins (xs : List Int) (a i j : Nat) : Prop := ∀ p q, a ≤ p → p < q → q ≤ i → q ≠ j → at0 xs p ≤ at0 xs q
theorem Ins.start {xs : List Int} {a i : Nat} (h : Srt xs a i) : Ins xs a i i := fun p q h1 h2 h3 h4 => h p q h1 h2 (by omega)
theorem Ins.done {xs : List Int} {a i j : Nat} (h : Ins xs a i j) (hj : j ≤ a ∨ at0 xs (j - 1) ≤ at0 xs j) : Srt xs a (i + 1) := by
  intro p q h1 h2 h3
  by_cases e : q = j
  · subst e
    rcases hj with hj | hj
    · omega
    · by_cases e' : p = q - 1
      · subst e'; exact hj
      · exact Int.le_trans (h p (q - 1) h1 (by omega) (by omega) (by omega)) hj
  · exact h p q h1 h2 (by omega) e
theorem Ins.step {xs : List Int} {a i j : Nat} (h : Ins xs a i j) (hi : i < xs.length) (hja : a < j) (hji : j ≤ i) (hlt : at0 xs j < at0 xs (j - 1)) : Ins (swapL xs j (j - 1)) a i (j - 1) := by
  have hs : ∀ k, at0 (swapL xs j (j - 1)) k = if k = j - 1 then at0 xs j else if k = j then at0 xs (j - 1) else at0 xs k := fun k => at0_swapL (by omega) (by omega)
  intro p q h1 h2 h3 h4
  rw [hs p, hs q, if_neg h4]
  by_cases hq : q = j
  · subst hq
    rw [if_pos rfl]
    by_cases hp : p = q - 1
    · rw [if_pos hp]; omega
    · rw [if_neg hp, if_neg (by omega)]
      exact h p (q - 1) h1 (by omega) (by omega) (by omega)
  · rw [if_neg hq]
    by_cases hp : p = j - 1
    · rw [if_pos hp]
      exact h j q (by omega) (by omega) h3 hq
    · rw [if_neg hp]
      by_cases hp2 : p = j
      · rw [if_pos hp2]; exact h (j - 1) q (by omega) (by omega) h3 hq
      · rw [if_neg hp2]; exact h p q h1 h2 h3 hq
end Go.Proofs.Ytgmafocfhepccaa.St
