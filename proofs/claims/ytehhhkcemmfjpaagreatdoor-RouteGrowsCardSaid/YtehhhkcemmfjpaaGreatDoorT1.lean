/- Parts of the proof of RouteGrowsCard. -/
import Derived.Test.YtehhhkcemmfjpaaGreatDoorLib
import Derived.ChangeKeysEq
import Derived.DeepKeys3
import Derived.Test.YtehhhkcemmfjpaaGreatDoorCore9
import Derived.Test.YtehhhkcemmfjpaaGreatDoorProg
/- Plain laws on lists of whole numbers: swaps, parts that are sorted. It names no program. -/
namespace Go.Proofs.YtehhhkcemmfjpaaGreatDoor.St

/-- What can be sorted: of two, one is less or the other is at most so; and what is at most so goes on. -/
class Lin (α : Type) [LE α] [_root_.LT α] : Prop where
  nlt : ∀ {a b : α}, ¬ a < b → b ≤ a
  nle : ∀ {a b : α}, a ≤ b → ¬ b < a
  lle : ∀ {a b : α}, a < b → a ≤ b
  tr : ∀ {a b c : α}, a ≤ b → b ≤ c → a ≤ c
instance : Lin Int := ⟨fun h => by omega, fun h => by omega, fun h => by omega, fun h h' => by omega⟩

section
variable {α : Type} [Inhabited α]
def at0 (xs : List α) (i : Nat) : α := xs.getD i default
/-- At a stands v (a word of its own, so that no solver looks into it). -/
structure AtE (xs : List α) (a : Nat) (v : α) : Prop where
  eq : at0 xs a = v
def swapL (xs : List α) (i j : Nat) : List α := (xs.set i (at0 xs j)).set j (at0 xs i)

theorem at0_eq {xs : List α} {i : Nat} (h : i < xs.length) : at0 xs i = xs[i] := by simp [at0, h]
theorem at0_set {xs : List α} {i k : Nat} {v : α} (h : i < xs.length) : at0 (xs.set i v) k = if k = i then v else at0 xs k := by
  simp only [at0, List.getD_eq_getElem?_getD, List.getElem?_set]
  by_cases e : i = k
  · subst e; simp [h]
  · rw [if_neg e, if_neg (fun h => e h.symm)]
@[simp] theorem length_swapL (xs : List α) (i j : Nat) : (swapL xs i j).length = xs.length := by simp [swapL]
theorem at0_swapL {xs : List α} {i j k : Nat} (hi : i < xs.length) (hj : j < xs.length) : at0 (swapL xs i j) k = if k = j then at0 xs i else if k = i then at0 xs j else at0 xs k := by
  rw [swapL, at0_set (by simpa using hj), at0_set hi]

theorem swapL_perm {xs : List α} {i j : Nat} (hi : i < xs.length) (hj : j < xs.length) : (swapL xs i j).Perm xs := by
  have h := Array.swap_perm (xs := xs.toArray) (i := i) (j := j) (by simpa using hi) (by simpa using hj)
  have e : (xs.toArray.swap i j (by simpa using hi) (by simpa using hj)).toList = swapL xs i j := by
    simp [Array.swap, swapL, at0_eq hi, at0_eq hj]
  rw [← e]
  exact Array.perm_iff_toList_perm.1 h

/-- Of the part [a, b) another order; all else as it was. -/
structure Seg (a b : Nat) (xs ys : List α) : Prop where
  len : ys.length = xs.length
  out : ∀ k, k < a ∨ b ≤ k → at0 ys k = at0 xs k
  perm : ys.Perm xs

theorem Seg.refl (a b : Nat) (xs : List α) : Seg a b xs xs := ⟨rfl, fun _ _ => rfl, .refl _⟩
theorem Seg.trans {a b : Nat} {xs ys zs : List α} (h : Seg a b xs ys) (h' : Seg a b ys zs) : Seg a b xs zs :=
  ⟨h'.len.trans h.len, fun k hk => (h'.out k hk).trans (h.out k hk), h'.perm.trans h.perm⟩
theorem Seg.mono {a b a' b' : Nat} {xs ys : List α} (h : Seg a b xs ys) (ha : a' ≤ a) (hb : b ≤ b') : Seg a' b' xs ys :=
  ⟨h.len, fun k hk => h.out k (by omega), h.perm⟩
theorem Seg.swap {a b i j : Nat} {xs : List α} (hi : i < xs.length) (hj : j < xs.length) (h1 : a ≤ i) (h2 : i < b) (h3 : a ≤ j) (h4 : j < b) : Seg a b xs (swapL xs i j) :=
  ⟨length_swapL _ _ _, fun k hk => by rw [at0_swapL hi hj, if_neg (by omega), if_neg (by omega)], swapL_perm hi hj⟩

/-- The part [a, b) is sorted. -/
def Srt [LE α] (xs : List α) (a b : Nat) : Prop := ∀ p q, a ≤ p → p < q → q < b → at0 xs p ≤ at0 xs q

/-- A part's elements are the same ones. -/
theorem Seg.part {a b : Nat} {xs ys : List α} (h : Seg a b xs ys) (hab : a ≤ b) : ((ys.take b).drop a).Perm ((xs.take b).drop a) := by
  have split : ∀ l : List α, l = l.take a ++ ((l.take b).drop a ++ l.drop b) := by
    intro l
    have h1 : l.take b = l.take a ++ (l.take b).drop a := by
      have := (List.take_append_drop a (l.take b)).symm
      rwa [List.take_take, Nat.min_eq_left hab] at this
    rw [← List.append_assoc, ← h1, List.take_append_drop]
  have ext : ∀ (l l' : List α), l.length = l'.length → (∀ k, k < l.length → at0 l k = at0 l' k) → l = l' := by
    intro l l' hl hk
    apply List.ext_getElem hl
    intro i h1 h2
    have := hk i h1
    rwa [at0_eq h1, at0_eq h2] at this
  have e1 : ys.take a = xs.take a := by
    refine ext _ _ (by simp [h.len]) fun k hk => ?_
    simp at hk
    have := h.out k (.inl (by omega))
    rw [at0_eq (by simp; omega), at0_eq (by have := h.len; simp; omega)]
    rw [at0_eq (by omega), at0_eq (by have := h.len; omega)] at this
    simpa using this
  have e2 : ys.drop b = xs.drop b := by
    refine ext _ _ (by simp [h.len]) fun k hk => ?_
    simp at hk
    have := h.out (b + k) (.inr (by omega))
    rw [at0_eq (by simp; omega), at0_eq (by have := h.len; simp; omega)]
    rw [at0_eq (by omega), at0_eq (by have := h.len; omega)] at this
    simpa using this
  have hp := h.perm
  rw [split ys, split xs, e1, e2] at hp
  exact (List.perm_append_right_iff _).1 ((List.perm_append_left_iff _).1 hp)

theorem Seg.all {a b : Nat} {xs ys : List α} (h : Seg a b xs ys) (hb : b ≤ xs.length) {P : α → Prop} (hx : ∀ k, a ≤ k → k < b → P (at0 xs k)) : ∀ k, a ≤ k → k < b → P (at0 ys k) := by
  intro k h1 h2
  have hp := h.part (by omega : a ≤ b)
  have hl := h.len
  have hm : at0 ys k ∈ (ys.take b).drop a := by
    rw [List.mem_drop_iff_getElem]
    refine ⟨k - a, by simp; omega, ?_⟩
    rw [at0_eq (by omega)]
    simp [show a + (k - a) = k by omega]
  have := hp.mem_iff.1 hm
  rw [List.mem_drop_iff_getElem] at this
  obtain ⟨i, hi, e⟩ := this
  simp at hi
  rw [← e]
  have := hx (a + i) (by omega) (by omega)
  rw [at0_eq (by omega)] at this
  simpa using this

end

section
variable {α : Type} [Inhabited α] [LE α] [_root_.LT α] [Lin α]
omit [Inhabited α] in
theorem Lin.refl (x : α) : x ≤ x := by
  by_cases h : x < x
  · exact Lin.lle h
  · exact Lin.nlt h

omit [_root_.LT α] [Lin α] in
theorem Srt.nil (xs : List α) (a b : Nat) (h : b ≤ a + 1) : Srt xs a b := fun p q _ _ _ => by omega
omit [_root_.LT α] [Lin α] in
theorem Srt.of_out {xs ys : List α} {a b a' b' : Nat} (h : Srt xs a b) (hs : Seg a' b' xs ys) (hd : b ≤ a' ∨ b' ≤ a) : Srt ys a b := fun p q h1 h2 h3 => by
  rw [hs.out p (by omega), hs.out q (by omega)]; exact h p q h1 h2 h3

/-- Insertion: all is sorted but what stands at j. -/
def Ins (xs : List α) (a i j : Nat) : Prop := ∀ p q, a ≤ p → p < q → q ≤ i → q ≠ j → at0 xs p ≤ at0 xs q
omit [_root_.LT α] [Lin α] in
theorem Ins.start {xs : List α} {a i : Nat} (h : Srt xs a i) : Ins xs a i i := fun p q h1 h2 h3 h4 => h p q h1 h2 (by omega)
theorem Ins.done {xs : List α} {a i j : Nat} (h : Ins xs a i j) (hj : j ≤ a ∨ at0 xs (j - 1) ≤ at0 xs j) : Srt xs a (i + 1) := by
  intro p q h1 h2 h3
  by_cases e : q = j
  · subst e
    rcases hj with hj | hj
    · omega
    · by_cases e' : p = q - 1
      · subst e'; exact hj
      · exact Lin.tr (h p (q - 1) h1 (by omega) (by omega) (by omega)) hj
  · exact h p q h1 h2 (by omega) e
theorem Ins.step {xs : List α} {a i j : Nat} (h : Ins xs a i j) (hi : i < xs.length) (hja : a < j) (hji : j ≤ i) (hlt : at0 xs j < at0 xs (j - 1)) : Ins (swapL xs j (j - 1)) a i (j - 1) := by
  have hs : ∀ k, at0 (swapL xs j (j - 1)) k = if k = j - 1 then at0 xs j else if k = j then at0 xs (j - 1) else at0 xs k := fun k => at0_swapL (by omega) (by omega)
  intro p q h1 h2 h3 h4
  rw [hs p, hs q, if_neg h4]
  by_cases hq : q = j
  · subst hq
    rw [if_pos rfl]
    by_cases hp : p = q - 1
    · rw [if_pos hp]; exact Lin.lle hlt
    · rw [if_neg hp, if_neg (by omega)]
      exact h p (q - 1) h1 (by omega) (by omega) (by omega)
  · rw [if_neg hq]
    by_cases hp : p = j - 1
    · rw [if_pos hp]
      exact h j q (by omega) (by omega) h3 hq
    · rw [if_neg hp]
      by_cases hp2 : p = j
      · rw [if_pos hp2]; exact h (j - 1) q (by omega) (by omega) h3 hq
      · rw [if_neg hp2]; exact h p q h1 h2 h3 hq
end
end Go.Proofs.YtehhhkcemmfjpaaGreatDoor.St

/- Plain laws on lists that are sorted in parts: heaps, parting at an element, what is left to sort. It names no program. -/
namespace Go.Proofs.YtehhhkcemmfjpaaGreatDoor.St
variable {α : Type} [Inhabited α] [LE α] [_root_.LT α] [Lin α]

/-! ### Heaps -/
def Hp (xs : List α) (f lo hi : Nat) : Prop := ∀ p c, lo ≤ p → (c = 2 * p + 1 ∨ c = 2 * p + 2) → c < hi → at0 xs (f + c) ≤ at0 xs (f + p)
structure Sift (xs : List α) (f lo hi r : Nat) : Prop where
  a : ∀ p c, lo ≤ p → p ≠ r → (c = 2 * p + 1 ∨ c = 2 * p + 2) → c < hi → at0 xs (f + c) ≤ at0 xs (f + p)
  b : ∀ q c, lo ≤ q → (r = 2 * q + 1 ∨ r = 2 * q + 2) → (c = 2 * r + 1 ∨ c = 2 * r + 2) → c < hi → at0 xs (f + c) ≤ at0 xs (f + q)
omit [_root_.LT α] [Lin α] in
theorem Sift.start {xs : List α} {f lo hi : Nat} (h : Hp xs f (lo + 1) hi) : Sift xs f lo hi lo :=
  ⟨fun p c h1 h2 h3 h4 => h p c (by omega) h3 h4, fun q c h1 h2 => by omega⟩
omit [_root_.LT α] [Lin α] in
theorem Sift.done {xs : List α} {f lo hi r : Nat} (h : Sift xs f lo hi r) (hc : ∀ c, (c = 2 * r + 1 ∨ c = 2 * r + 2) → c < hi → at0 xs (f + c) ≤ at0 xs (f + r)) : Hp xs f lo hi := by
  intro p c h1 h2 h3
  by_cases e : p = r
  · subst e; exact hc c h2 h3
  · exact h.a p c h1 e h2 h3
theorem Sift.step {xs : List α} {f lo hi r c : Nat} (h : Sift xs f lo hi r) (hr : lo ≤ r) (hx : f + hi ≤ xs.length) (hc : c = 2 * r + 1 ∨ c = 2 * r + 2) (hch : c < hi)
    (hmax : ∀ e, (e = 2 * r + 1 ∨ e = 2 * r + 2) → e < hi → at0 xs (f + e) ≤ at0 xs (f + c)) (hlt : at0 xs (f + r) < at0 xs (f + c)) : Sift (swapL xs (f + r) (f + c)) f lo hi c := by
  have hs : ∀ k, at0 (swapL xs (f + r) (f + c)) (f + k) = if k = c then at0 xs (f + r) else if k = r then at0 xs (f + c) else at0 xs (f + k) := by
    intro k
    rw [at0_swapL (by omega) (by omega)]
    by_cases h1 : k = c
    · subst h1; rw [if_pos rfl, if_pos rfl]
    · rw [if_neg h1, if_neg (by omega)]
      by_cases h2 : k = r
      · subst h2; rw [if_pos rfl, if_pos rfl]
      · rw [if_neg h2, if_neg (by omega)]
  refine ⟨fun p e h1 h2 h3 h4 => ?_, fun q e h1 h2 h3 h4 => ?_⟩
  · rw [hs e, hs p, if_neg h2]
    by_cases hp : p = r
    · subst hp
      rw [if_pos rfl]
      by_cases he : e = c
      · subst he; rw [if_pos rfl]; exact Lin.lle hlt
      · rw [if_neg he, if_neg (by omega)]; exact hmax e h3 h4
    · rw [if_neg hp]
      by_cases he : e = c
      · omega
      · rw [if_neg he]
        by_cases he' : e = r
        · rw [if_pos he']
          subst he'
          exact h.b p c h1 h3 hc hch
        · rw [if_neg he']; exact h.a p e h1 hp h3 h4
  · have hq : q = r := by omega
    subst hq
    rw [hs e, hs q, if_neg (by omega), if_neg (by omega), if_neg (by omega), if_pos rfl]
    exact h.a c e (by omega) (by omega) h3 h4
theorem Hp.top {xs : List α} {f n : Nat} (h : Hp xs f 0 n) : ∀ k, k < n → at0 xs (f + k) ≤ at0 xs f := by
  intro k
  induction k using Nat.strongRecOn with
  | _ k ih =>
    intro hk
    by_cases h0 : k = 0
    · subst h0; exact Lin.refl _
    · refine Lin.tr (h ((k - 1) / 2) k (Nat.zero_le _) (by omega) hk) (ih _ (by omega) (by omega))

/-- While a heap is taken down: [0, n) is one, what is behind it is sorted, and not less. -/
structure Pop (xs : List α) (f n hi : Nat) : Prop where
  hp : Hp xs f 0 n
  srt : ∀ p q, n ≤ p → p < q → q < hi → at0 xs (f + p) ≤ at0 xs (f + q)
  le : ∀ k q, k < n → n ≤ q → q < hi → at0 xs (f + k) ≤ at0 xs (f + q)
omit [_root_.LT α] [Lin α] in
theorem Pop.swap {xs : List α} {f i hi : Nat} (h : Pop xs f (i + 1) hi) (hi1 : i < hi) (hx : f + hi ≤ xs.length) : Hp (swapL xs f (f + i)) f (0 + 1) i := by
  intro p c h1 h2 h3
  rw [at0_swapL (by omega) (by omega), at0_swapL (by omega) (by omega), if_neg (by omega), if_neg (by omega), if_neg (by omega), if_neg (by omega)]
  exact h.hp p c (by omega) h2 (by omega)
theorem Pop.step {xs zs : List α} {f i hi : Nat} (h : Pop xs f (i + 1) hi) (hi1 : i < hi) (hx : f + hi ≤ xs.length) (hs : Seg (f + 0) (f + i) (swapL xs f (f + i)) zs) (hz : Hp zs f 0 i) : Pop zs f i hi := by
  have hs : Seg f (f + i) (swapL xs f (f + i)) zs := hs
  have sw : ∀ k, at0 (swapL xs f (f + i)) k = if k = f + i then at0 xs f else if k = f then at0 xs (f + i) else at0 xs k := fun k => at0_swapL (by omega) (by omega)
  have hii : at0 zs (f + i) = at0 xs f := by rw [hs.out _ (by omega), sw, if_pos rfl]
  have hq : ∀ q, i < q → at0 zs (f + q) = at0 xs (f + q) := fun q hq => by rw [hs.out _ (by omega), sw, if_neg (by omega), if_neg (by omega)]
  have old : ∀ P : α → Prop, (∀ k, k < i + 1 → P (at0 xs (f + k))) → ∀ k, k < i → P (at0 zs (f + k)) := by
    intro P hP k hk
    refine hs.all (by simp; omega) (P := P) (fun m h1 h2 => ?_) (f + k) (by omega) (by omega)
    rw [sw, if_neg (by omega)]
    by_cases e : m = f
    · rw [if_pos e]; exact hP i (by omega)
    · rw [if_neg e]
      have := hP (m - f) (by omega)
      rwa [show f + (m - f) = m by omega] at this
  refine ⟨hz, fun p q h1 h2 h3 => ?_, fun k q h1 h2 h3 => ?_⟩
  · rw [hq q (by omega)]
    by_cases e : p = i
    · rw [e, hii]; exact h.le 0 q (by omega) (by omega) h3
    · rw [hq p (by omega)]; exact h.srt p q (by omega) h2 h3
  · by_cases e : q = i
    · rw [e, hii]; exact old (fun v => v ≤ at0 xs f) (fun m hm => h.hp.top m hm) k h1
    · rw [hq q (by omega)]; exact old (fun v => v ≤ at0 xs (f + q)) (fun m hm => h.le m q hm (by omega) h3) k h1
omit [_root_.LT α] [Lin α] in
theorem Pop.done {xs : List α} {f hi : Nat} (h : Pop xs f 0 hi) : Srt xs f (f + hi) := by
  intro p q h1 h2 h3
  have := h.srt (p - f) (q - f) (by omega) (by omega) (by omega)
  rwa [show f + (p - f) = p by omega, show f + (q - f) = q by omega] at this
omit [_root_.LT α] [Lin α] in
theorem Pop.start {xs : List α} {f hi : Nat} (h : Hp xs f 0 hi) : Pop xs f hi hi := ⟨h, fun _ _ _ _ _ => by omega, fun _ _ _ _ _ => by omega⟩

/-! ### Parting -/
structure Pt (xs : List α) (a b i j : Nat) : Prop where
  ai : a + 1 ≤ i
  ij : i ≤ j + 1
  jb : j < b
  lo : ∀ k, a < k → k < i → at0 xs k ≤ at0 xs a
  hi : ∀ k, j < k → k < b → at0 xs a ≤ at0 xs k
omit [_root_.LT α] [Lin α] in
theorem Pt.up {xs : List α} {a b i j : Nat} (h : Pt xs a b i j) (hij : i ≤ j) (hx : at0 xs i ≤ at0 xs a) : Pt xs a b (i + 1) j :=
  ⟨by have := h.ai; omega, by omega, h.jb, fun k h1 h2 => by
    by_cases e : k = i
    · rw [e]; exact hx
    · exact h.lo k h1 (by omega), h.hi⟩
omit [_root_.LT α] [Lin α] in
theorem Pt.down {xs : List α} {a b i j : Nat} (h : Pt xs a b i j) (hij : i ≤ j) (hx : at0 xs a ≤ at0 xs j) : Pt xs a b i (j - 1) :=
  ⟨h.ai, by have := h.ai; omega, by have := h.jb; omega, h.lo, fun k h1 h2 => by
    by_cases e : k = j
    · rw [e]; exact hx
    · exact h.hi k (by omega) h2⟩
omit [_root_.LT α] [Lin α] in
theorem Pt.swap {xs : List α} {a b i j : Nat} (h : Pt xs a b i j) (hb : b ≤ xs.length) (hij : i < j) (h1 : at0 xs j ≤ at0 xs a) (h2 : at0 xs a ≤ at0 xs i) : Pt (swapL xs i j) a b (i + 1) (j - 1) := by
  have hai := h.ai
  have hjb := h.jb
  have sw : ∀ k, at0 (swapL xs i j) k = if k = j then at0 xs i else if k = i then at0 xs j else at0 xs k := fun k => at0_swapL (by omega) (by omega)
  have swa : at0 (swapL xs i j) a = at0 xs a := by rw [sw, if_neg (by omega), if_neg (by omega)]
  refine ⟨by omega, by omega, by omega, fun k h3 h4 => ?_, fun k h3 h4 => ?_⟩
  · rw [swa, sw k, if_neg (by omega)]
    by_cases e : k = i
    · rw [if_pos e]; exact h1
    · rw [if_neg e]; exact h.lo k h3 (by omega)
  · rw [swa, sw k]
    by_cases e : k = j
    · rw [if_pos e]; exact h2
    · rw [if_neg e, if_neg (by omega)]; exact h.hi k (by omega) h4
/-- What is at m parts the others. -/
structure Parted (xs : List α) (a m b : Nat) : Prop where
  am : a ≤ m
  mb : m < b
  lo : ∀ k, a ≤ k → k < m → at0 xs k ≤ at0 xs m
  hi : ∀ k, m < k → k < b → at0 xs m ≤ at0 xs k
omit [_root_.LT α] [Lin α] in
theorem Pt.done {xs : List α} {a b i j : Nat} (h : Pt xs a b i j) (hb : b ≤ xs.length) (hij : j < i) : Parted (swapL xs j a) a j b := by
  have hai := h.ai
  have hjb := h.jb
  have hij' := h.ij
  have sw : ∀ k, at0 (swapL xs j a) k = if k = a then at0 xs j else if k = j then at0 xs a else at0 xs k := fun k => at0_swapL (by omega) (by omega)
  have swj : at0 (swapL xs j a) j = at0 xs a := by
    rw [sw]
    by_cases e : j = a
    · rw [if_pos e, e]
    · rw [if_neg e, if_pos rfl]
  refine ⟨by omega, hjb, fun k h1 h2 => ?_, fun k h1 h2 => ?_⟩
  · rw [swj, sw k]
    by_cases e : k = a
    · rw [if_pos e]; exact h.lo j (by omega) (by omega)
    · rw [if_neg e, if_neg (by omega)]; exact h.lo k (by omega) (by omega)
  · rw [swj, sw k, if_neg (by omega), if_neg (by omega)]
    exact h.hi k h1 h2
omit [_root_.LT α] [Lin α] in
theorem Parted.left {xs ys : List α} {a m b : Nat} (h : Parted xs a m b) (hb : b ≤ xs.length) (hs : Seg a m xs ys) : Parted ys a m b := by
  have hm := h.mb
  refine ⟨h.am, h.mb, fun k h1 h2 => ?_, fun k h1 h2 => ?_⟩
  · rw [hs.out m (by omega)]
    exact hs.all (by omega) (P := fun v => v ≤ at0 xs m) (fun k h1 h2 => h.lo k h1 h2) k h1 h2
  · rw [hs.out m (by omega), hs.out k (by omega)]; exact h.hi k h1 h2
omit [_root_.LT α] [Lin α] in
theorem Parted.right {xs ys : List α} {a m b : Nat} (h : Parted xs a m b) (hb : b ≤ xs.length) (hs : Seg (m + 1) b xs ys) : Parted ys a m b := by
  have hm := h.mb
  refine ⟨h.am, h.mb, fun k h1 h2 => ?_, fun k h1 h2 => ?_⟩
  · rw [hs.out m (by omega), hs.out k (by omega)]; exact h.lo k h1 h2
  · rw [hs.out m (by omega)]
    exact hs.all (by omega) (P := fun v => at0 xs m ≤ v) (fun k h1 h2 => h.hi k (by omega) h2) k (by omega) h2

/-! ### What is left to sort -/
/-- Of [a, b) all but [a', b') stands where it belongs. -/
def Alm (xs : List α) (a b a' b' : Nat) : Prop := ∀ p q, a ≤ p → p < q → q < b → ¬ (a' ≤ p ∧ q < b') → at0 xs p ≤ at0 xs q
/-- What stands before a is no more than any of [a, b). -/
def Bel (xs : List α) (a b : Nat) : Prop := 0 < a → ∀ k, a ≤ k → k < b → at0 xs (a - 1) ≤ at0 xs k
section
omit [_root_.LT α] [Lin α]
variable {xs ys : List α} {a b a' b' m : Nat}
theorem Alm.start (xs : List α) (a b : Nat) : Alm xs a b a b := fun _ _ h1 _ h3 h4 => absurd ⟨h1, h3⟩ h4
theorem Alm.seg (h : Alm xs a b a' b') (hs : Seg a' b' xs ys) (ha : a ≤ a') (hb : b' ≤ b) (hx : b ≤ xs.length) : Alm ys a b a' b' := by
  intro p q h1 h2 h3 h4
  by_cases hp : a' ≤ p ∧ p < b'
  · rw [hs.out q (by omega)]
    exact hs.all (by omega) (P := fun v => v ≤ at0 xs q) (fun k h5 h6 => h k q (by omega) (by omega) h3 (by omega)) p hp.1 hp.2
  · rw [hs.out p (by omega)]
    by_cases hq : a' ≤ q ∧ q < b'
    · exact hs.all (by omega) (P := fun v => at0 xs p ≤ v) (fun k h5 h6 => h p k h1 (by omega) (by omega) (by omega)) q hq.1 hq.2
    · rw [hs.out q (by omega)]; exact h p q h1 h2 h3 h4
theorem Alm.full (h : Alm xs a b a' b') (hs : Srt xs a' b') : Srt xs a b := by
  intro p q h1 h2 h3
  by_cases e : a' ≤ p ∧ q < b'
  · exact hs p q e.1 h2 e.2
  · exact h p q h1 h2 h3 e
theorem Bel.seg (h : Bel xs a b) (hs : Seg a b xs ys) (hx : b ≤ xs.length) : Bel ys a b := by
  intro h0 k h1 h2
  rw [hs.out (a - 1) (by omega)]
  exact hs.all hx (P := fun v => at0 xs (a - 1) ≤ v) (fun k h3 h4 => h h0 k h3 h4) k h1 h2
theorem Bel.mono (h : Bel xs a b) (hb : m ≤ b) : Bel xs a m := fun h0 k h1 h2 => h h0 k h1 (by omega)
theorem Parted.bel (h : Parted xs a m b) : Bel xs (m + 1) b := fun _ k h1 h2 => h.hi k (by omega) h2
end
theorem Alm.left {xs : List α} {a b a' b' m : Nat} (h : Alm xs a b a' b') (hp : Parted xs a' m b') (hs : Srt xs a' m) : Alm xs a b (m + 1) b' := by
  intro p q h1 h2 h3 h4
  have := hp.am
  by_cases e : a' ≤ p ∧ q < b'
  · have hpm : p ≤ m := by omega
    by_cases e1 : p = m
    · subst e1; exact hp.hi q h2 e.2
    · have h5 := hp.lo p e.1 (by omega)
      by_cases e2 : q < m
      · exact hs p q e.1 h2 e2
      · by_cases e3 : q = m
        · rw [e3]; exact h5
        · exact Lin.tr h5 (hp.hi q (by omega) e.2)
  · exact h p q h1 h2 h3 e
theorem Alm.right {xs : List α} {a b a' b' m : Nat} (h : Alm xs a b a' b') (hp : Parted xs a' m b') (hs : Srt xs (m + 1) b') : Alm xs a b a' m := by
  intro p q h1 h2 h3 h4
  have := hp.mb
  by_cases e : a' ≤ p ∧ q < b'
  · have hqm : m ≤ q := by omega
    by_cases e1 : q = m
    · subst e1; exact hp.lo p e.1 h2
    · have h5 := hp.hi q (by omega) e.2
      by_cases e2 : m < p
      · exact hs p q (by omega) h2 e.2
      · by_cases e3 : p = m
        · rw [e3]; exact h5
        · exact Lin.tr (hp.lo p e.1 (by omega)) h5
  · exact h p q h1 h2 h3 e
/-- [a, m) is of what is least, [m, b) of what is no less. -/
structure Eqd (xs : List α) (a m b : Nat) : Prop where
  am : a < m
  mb : m ≤ b
  srt : Srt xs a m
  le : ∀ p q, a ≤ p → p < m → m ≤ q → q < b → at0 xs p ≤ at0 xs q
  bel : Bel xs m b
theorem Pt.eqd {xs : List α} {a b i j : Nat} (h : Pt xs a b i j) (hij : j < i) (hmin : ∀ k, a ≤ k → k < b → at0 xs a ≤ at0 xs k) : Eqd xs a i b := by
  have h1 := h.ai
  have h2 := h.ij
  have h3 := h.jb
  have hlo : ∀ k, a ≤ k → k < i → at0 xs k ≤ at0 xs a := fun k h4 h5 => by
    by_cases e : k = a
    · rw [e]; exact Lin.refl _
    · exact h.lo k (by omega) h5
  refine ⟨by omega, by omega, fun p q h4 h5 h6 => ?_, fun p q h4 h5 h6 h7 => ?_, fun _ k h4 h5 => ?_⟩
  · exact Lin.tr (hlo p h4 (by omega)) (hmin q (by omega) (by omega))
  · exact Lin.tr (hlo p h4 h5) (hmin q (by omega) h7)
  · exact Lin.tr (hlo (i - 1) (by omega) (by omega)) (hmin k (by omega) h5)
omit [_root_.LT α] [Lin α] in
theorem Alm.eqd {xs : List α} {a b a' b' m : Nat} (h : Alm xs a b a' b') (he : Eqd xs a' m b') : Alm xs a b m b' := by
  intro p q h1 h2 h3 h4
  by_cases e : a' ≤ p ∧ q < b'
  · by_cases e1 : q < m
    · exact he.srt p q e.1 h2 e1
    · exact he.le p q e.1 (by omega) (by omega) e.2
  · exact h p q h1 h2 h3 e
end Go.Proofs.YtehhhkcemmfjpaaGreatDoor.St

/- Strings, ordered by their bytes. It names no program. -/
namespace Go.Proofs.YtehhhkcemmfjpaaGreatDoor.St
open Go

theorem byteAt_eq {s : ByteArray} {i : Nat} (h : i < s.size) : byteAt s i = ((s[i]'h).toNat : Int) := by
  have h' : i < s.data.size := h
  simp only [byteAt, Array.getElem?_eq_getElem h', Option.getD_some]
  rfl
theorem byteArray_toList (s : ByteArray) : s.toList = s.data.toList := by
  have h : ∀ (n : Nat) (i : Nat) (r : List UInt8), s.size - i = n → ByteArray.toList.loop s i r = r.reverse ++ s.data.toList.drop i := by
    intro n
    induction n with
    | zero =>
      intro i r hi
      unfold ByteArray.toList.loop
      have : ¬ i < s.size := by omega
      simp only [this, if_false]
      rw [List.drop_of_length_le (by have : s.size = s.data.size := rfl; simp; omega)]
      simp
    | succ n ih =>
      intro i r hi
      unfold ByteArray.toList.loop
      have hlt : i < s.size := by omega
      simp only [hlt, if_true]
      rw [ih (i + 1) _ (by omega)]
      have hlt' : i < s.data.toList.length := by have : s.size = s.data.size := rfl; simp; omega
      rw [List.drop_eq_getElem_cons hlt']
      have : s.get! i = s.data.toList[i] := by
        have hlt2 : i < s.data.size := by simpa using hlt'
        rw [Array.getElem_toList]
        show s.data[i]! = _
        rw [getElem!_pos s.data i hlt2]
      rw [this]
      simp
  have := h (s.size - 0) 0 [] rfl
  simpa [ByteArray.toList] using this
theorem bytes_empty (s : ByteArray) : (s.toList == (ByteArray.mk #[]).toList) = decide (s.size = 0) := by
  rw [byteArray_toList, byteArray_toList]
  have : s.size = s.data.toList.length := Array.length_toList.symm
  rw [this]
  cases s.data.toList with
  | nil => rfl
  | cons x r => exact (decide_eq_false (Nat.succ_ne_zero _)).symm

theorem bl_irr : ∀ x : List UInt8, Op.bytesLess x x = false
  | [] => rfl
  | a :: x => by
    have h1 : ¬ a < a := by simp
    simp [Op.bytesLess, h1, bl_irr x]
theorem bl_asym : ∀ x y : List UInt8, Op.bytesLess x y = true → Op.bytesLess y x = false
  | [], [], h => by simp [Op.bytesLess] at h
  | [], _ :: _, _ => by simp [Op.bytesLess]
  | _ :: _, [], h => by simp [Op.bytesLess] at h
  | a :: x, b :: y, h => by
    simp only [Op.bytesLess, Bool.or_eq_true, Bool.and_eq_true, decide_eq_true_eq, beq_iff_eq] at h
    rcases h with h | ⟨rfl, h⟩
    · have h1 : ¬ b < a := by
        simp only [UInt8.lt_iff_toNat_lt] at h ⊢
        omega
      have h2 : ¬ b = a := fun e => by subst e; simp at h
      simp [Op.bytesLess, h1, h2]
    · have h1 : ¬ a < a := by simp
      simp [Op.bytesLess, h1, bl_asym x y h]
theorem bl_ntr : ∀ x y z : List UInt8, Op.bytesLess y x = false → Op.bytesLess z y = false → Op.bytesLess z x = false
  | [], y, z, h1, h2 => by cases z <;> simp [Op.bytesLess]
  | a :: x, [], z, h1, h2 => by simp [Op.bytesLess] at h1
  | a :: x, b :: y, [], h1, h2 => by simp [Op.bytesLess] at h2
  | a :: x, b :: y, c :: z, h1, h2 => by
    simp only [Op.bytesLess, Bool.or_eq_false_iff, Bool.and_eq_false_iff, decide_eq_false_iff_not, beq_eq_false_iff_ne, UInt8.lt_iff_toNat_lt] at h1 h2 ⊢
    obtain ⟨h1, h1'⟩ := h1
    obtain ⟨h2, h2'⟩ := h2
    refine ⟨by omega, ?_⟩
    by_cases e : c = a
    · subst e
      have hbc : b = c := by
        apply UInt8.toNat_inj.1
        omega
      subst hbc
      right
      rcases h1' with h | h
      · exact absurd rfl h
      · rcases h2' with h' | h'
        · exact absurd rfl h'
        · exact bl_ntr x y z h h'
    · exact .inl e

instance strLT : _root_.LT ByteArray := ⟨fun x y => Op.bytesLess x.toList y.toList = true⟩
instance strLE : LE ByteArray := ⟨fun x y => ¬ y < x⟩
instance strDec : DecidableLT ByteArray := fun x y => inferInstanceAs (Decidable (Op.bytesLess x.toList y.toList = true))
instance strLin : Lin ByteArray where
  nlt h := h
  nle h := h
  lle {a b} h := by
    intro h'
    have := bl_asym a.toList b.toList h
    rw [show Op.bytesLess b.toList a.toList = true from h'] at this
    cases this
  tr {a b c} h h' := by
    intro h2
    have h1 : Op.bytesLess b.toList a.toList = false := by simpa using (show ¬ Op.bytesLess b.toList a.toList = true from h)
    have h3 : Op.bytesLess c.toList b.toList = false := by simpa using (show ¬ Op.bytesLess c.toList b.toList = true from h')
    have := bl_ntr a.toList b.toList c.toList h1 h3
    rw [show Op.bytesLess c.toList a.toList = true from h2] at this
    cases this
theorem strLess {x y : ByteArray} {w : World} {R : Value → World → Prop} (h : R (.bool (decide (x < y))) w) : R (.bool (Op.bytesLess x.toList y.toList)) w := by
  have : decide (x < y) = Op.bytesLess x.toList y.toList := by
    cases hb : Op.bytesLess x.toList y.toList with
    | true => exact decide_eq_true hb
    | false => exact decide_eq_false fun h => by rw [show Op.bytesLess x.toList y.toList = true from h] at hb; cases hb
  rwa [this] at h
end Go.Proofs.YtehhhkcemmfjpaaGreatDoor.St

/- Words that stand for a pattern's. It names no program. -/
namespace Go.Proofs.YtehhhkcemmfjpaaGreatDoor.St
open Go

def hashW : ByteArray := ⟨#[35]⟩
def starW : ByteArray := ⟨#[42]⟩
/-- The words k stand for the pattern's. -/
def Fits (one : ByteArray → ByteArray → Bool) : List ByteArray → List ByteArray → Prop
  | [], k => k = []
  | p :: ps, k => if p = hashW then ∃ i, i ≤ k.length ∧ Fits one ps (k.drop i) else ∃ w ws, k = w :: ws ∧ one p w = true ∧ Fits one ps ws
section
variable {one : ByteArray → ByteArray → Bool}
theorem fits_hash (ps k : List ByteArray) : Fits one (hashW :: ps) k ↔ ∃ i, i ≤ k.length ∧ Fits one ps (k.drop i) := by
  show (if hashW = hashW then _ else _) ↔ _
  rw [if_pos rfl]
theorem fits_word {p : ByteArray} (hp : p ≠ hashW) (ps k : List ByteArray) : Fits one (p :: ps) k ↔ ∃ w ws, k = w :: ws ∧ one p w = true ∧ Fits one ps ws := by
  show (if p = hashW then _ else _) ↔ _
  rw [if_neg hp]
theorem fits_append : ∀ (P Q k : List ByteArray), Fits one (P ++ Q) k ↔ ∃ i, i ≤ k.length ∧ Fits one P (k.take i) ∧ Fits one Q (k.drop i)
  | [], Q, k => by
    rw [List.nil_append]
    constructor
    · exact fun h => ⟨0, Nat.zero_le _, rfl, h⟩
    · rintro ⟨i, hi, h1, h2⟩
      have h1 : k.take i = [] := h1
      have hl := congrArg List.length h1
      rw [List.length_take, List.length_nil] at hl
      have : i = 0 := by omega
      subst this
      exact h2
  | p :: P, Q, k => by
    rw [List.cons_append]
    by_cases hp : p = hashW
    · subst hp
      rw [fits_hash]
      constructor
      · rintro ⟨i, hi, h⟩
        obtain ⟨j, hj, h1, h2⟩ := (fits_append P Q (k.drop i)).1 h
        rw [List.length_drop] at hj
        refine ⟨i + j, by omega, (fits_hash _ _).2 ⟨i, by rw [List.length_take]; omega, ?_⟩, ?_⟩
        · rw [List.drop_take, Nat.add_sub_cancel_left]; exact h1
        · rw [List.drop_drop] at h2; exact h2
      · rintro ⟨m, hm, h1, h2⟩
        obtain ⟨i, hi, h1⟩ := (fits_hash _ _).1 h1
        rw [List.length_take] at hi
        refine ⟨i, by omega, (fits_append P Q (k.drop i)).2 ⟨m - i, by rw [List.length_drop]; omega, ?_, ?_⟩⟩
        · rw [List.drop_take] at h1; exact h1
        · rw [List.drop_drop, show i + (m - i) = m by omega]; exact h2
    · rw [fits_word hp]
      constructor
      · rintro ⟨w, ws, rfl, ho, h⟩
        obtain ⟨j, hj, h1, h2⟩ := (fits_append P Q ws).1 h
        exact ⟨j + 1, by simpa using hj, (fits_word hp _ _).2 ⟨w, ws.take j, rfl, ho, h1⟩, h2⟩
      · rintro ⟨m, hm, h1, h2⟩
        obtain ⟨w, ws, he, ho, h⟩ := (fits_word hp _ _).1 h1
        cases k with
        | nil => simp at he
        | cons x k =>
          cases m with
          | zero => simp at he
          | succ m =>
            simp only [List.take_succ_cons, List.cons.injEq] at he
            obtain ⟨rfl, rfl⟩ := he
            exact ⟨_, k, rfl, ho, (fits_append P Q k).2 ⟨m, by simpa using hm, h, h2⟩⟩
/-- The first i words stand for the pattern's first j. -/
def Rea (one : ByteArray → ByteArray → Bool) (ps ws : List ByteArray) (j i : Nat) : Prop := Fits one (ps.take j) (ws.take i)
theorem reach_zero (ps ws : List ByteArray) {i : Nat} (hi : i ≤ ws.length) : Rea one ps ws 0 i ↔ i = 0 := by
  show ws.take i = [] ↔ _
  rw [List.take_eq_nil_iff]
  constructor
  · rintro (h | h)
    · exact h
    · subst h; simpa using hi
  · exact .inl
theorem reach_all (ps ws : List ByteArray) : Rea one ps ws ps.length ws.length ↔ Fits one ps ws := by
  rw [Rea, List.take_length, List.take_length]
theorem reach_hash {ps ws : List ByteArray} {j i : Nat} (hj : j < ps.length) (hp : ps[j] = hashW) (hi : i ≤ ws.length) : Rea one ps ws (j + 1) i ↔ ∃ m, m ≤ i ∧ Rea one ps ws j m := by
  rw [Rea, List.take_succ_eq_append_getElem hj, hp, fits_append]
  constructor
  · rintro ⟨m, hm, h1, _⟩
    rw [List.length_take] at hm
    rw [List.take_take] at h1
    exact ⟨min m i, by omega, h1⟩
  · rintro ⟨m, hm, h1⟩
    refine ⟨m, by rw [List.length_take]; omega, ?_, (fits_hash _ _).2 ⟨((ws.take i).drop m).length, Nat.le_refl _, ?_⟩⟩
    · rw [List.take_take, Nat.min_eq_left hm]; exact h1
    · rw [List.drop_length]; rfl
theorem reach_word0 {ps ws : List ByteArray} {j : Nat} (hj : j < ps.length) (hp : ps[j] ≠ hashW) : ¬ Rea one ps ws (j + 1) 0 := by
  rw [Rea, List.take_succ_eq_append_getElem hj, fits_append]
  rintro ⟨m, _, _, h2⟩
  obtain ⟨w, ws', he, _⟩ := (fits_word hp _ _).1 h2
  simp at he
theorem reach_word {ps ws : List ByteArray} {j i : Nat} (hj : j < ps.length) (hp : ps[j] ≠ hashW) (hi : i < ws.length) : Rea one ps ws (j + 1) (i + 1) ↔ Rea one ps ws j i ∧ one ps[j] ws[i] = true := by
  rw [Rea, List.take_succ_eq_append_getElem hj, fits_append]
  constructor
  · rintro ⟨m, hm, h1, h2⟩
    obtain ⟨w, ws', he, ho, h3⟩ := (fits_word hp _ _).1 h2
    have h3 : ws' = [] := h3
    subst h3
    have hl := congrArg List.length he
    rw [List.length_drop, List.length_take] at hl
    simp only [List.length_singleton] at hl
    have : m = i := by omega
    subst this
    rw [List.take_take, Nat.min_eq_left (by omega)] at h1
    refine ⟨h1, ?_⟩
    have : (ws.take (m + 1)).drop m = [ws[m]] := by
      rw [List.drop_take, show m + 1 - m = 1 by omega, List.drop_eq_getElem_cons hi]; rfl
    rw [this] at he
    cases he
    exact ho
  · rintro ⟨h1, ho⟩
    refine ⟨i, by rw [List.length_take]; omega, ?_, (fits_word hp _ _).2 ⟨ws[i], [], ?_, ho, rfl⟩⟩
    · rw [List.take_take, Nat.min_eq_left (by omega)]; exact h1
    · rw [List.drop_take, show i + 1 - i = 1 by omega, List.drop_eq_getElem_cons hi]; rfl
end
end Go.Proofs.YtehhhkcemmfjpaaGreatDoor.St

/- Rows of one-cell elements (numbers, strings). It names no program. -/
namespace Go.Proofs.YtehhhkcemmfjpaaGreatDoor.St
open Go

/-- The row a[:l:c] holds these elements. -/
def Els {α : Type} (val : α → Value) (e : TypeId) (w : World) (a : Option Addr) (l c : Nat) (xs : List α) : Prop := w.ownsRow 0 e 1 (.slice a l c) l (xs.map val)
/-- The row a[:l:c] holds these numbers. -/
abbrev Ints (ik : IntKind) (e : TypeId) (w : World) (a : Option Addr) (l c : Nat) (xs : List Int) : Prop := Els (Value.int ik) e w a l c xs

section
variable {α : Type} {val : α → Value} {e : TypeId} {w w' : World} {a : Option Addr} {l c : Nat} {xs : List α}
theorem Els.len (h : Els val e w a l c xs) : xs.length = l ∧ l ≤ c ∧ c ≤ 9223372036854775807 := by
  obtain ⟨_, h1, h2, h3⟩ := row_len h
  exact ⟨by simpa using h1, h2, h3⟩
theorem Els.blk (h : Els val e w a l c xs) : ∀ k, rowB a k → k < w.heap.size := by
  intro k hk
  rcases h.2 with ⟨hv, _⟩ | ⟨g, cap, cur, hv, _, hg, _⟩
  · injection hv with h1; subst h1; simp [rowB] at hk
  · injection hv with h1; subst h1; simp [rowB] at hk; subst hk; exact lt_of_heap hg
theorem Els.mod {S : Nat → Prop} (h : Els val e w a l c xs) (hm : Mod S w w') (hs : ∀ k, rowB a k → ¬ S k) : Els val e w' a l c xs := row_mod h hm hs
theorem Els.no (h : Els val e w a l c xs) (hm : Mod no w w') : Els val e w' a l c xs := row_mod h hm fun _ _ => id
theorem Els.at (h : Els val e w a l c xs) {i : Nat} (hi : i < xs.length) : ∃ g, a = some ⟨g, 0, none⟩ ∧ w.cell? (Addr.add ⟨g, 0, none⟩ (i * 1)) = some (val xs[i]) :=
  row_at h (i := i) (by simp [hi])
theorem Els.put (h : Els val e w a l c xs) {i : Nat} (hi : i < xs.length) (v : α) :
    ∃ ad, a = some ad ∧ (∃ u, w.cell? (Addr.add (Addr.add ad (i * 1)) 0) = some u) ∧ w.frozen? (Addr.add (Addr.add ad (i * 1)) 0) = false ∧
      Mod (rowB a) w (w.setCell (Addr.add (Addr.add ad (i * 1)) 0) (val v)) ∧ Els val e (w.setCell (Addr.add (Addr.add ad (i * 1)) 0) (val v)) a l c (xs.set i v) := by
  obtain ⟨ad, h1, h2, h3, h4, h5⟩ := row_put h (i := i) (by have := h.len; omega) (val v)
  exact ⟨ad, h1, h2, h3, h4, by rw [Els, List.map_set]; exact h5⟩
end

section
variable {α : Type} [Inhabited α] {val : α → Value} {e : TypeId} {w : World} {a : Option Addr} {l c : Nat} {xs : List α}
theorem Els.get (h : Els val e w a l c xs) {i : Nat} (hi : i < xs.length) : ∃ g, a = some ⟨g, 0, none⟩ ∧ w.cell? (Addr.add ⟨g, 0, none⟩ (i * 1)) = some (val (at0 xs i)) := by
  rw [at0_eq hi]; exact h.at hi
omit [Inhabited α] in
theorem Els.lt (h : Els val e w a l c xs) {i : Nat} (hi : i < l) : i < xs.length := by have := h.len.1; omega
omit [Inhabited α] in
theorem Els.le (h : Els val e w a l c xs) {i : Nat} (hi : i ≤ l) : i ≤ xs.length := by have := h.len.1; omega
/-- Two of a part are swapped. -/
theorem Els.seg (h : Els val e w a l c xs) {p q i j : Nat} (hi : i < l) (hj : j < l) (h1 : p ≤ i) (h2 : i < q) (h3 : p ≤ j) (h4 : j < q) : Seg p q xs (swapL xs i j) := Seg.swap (h.lt hi) (h.lt hj) h1 h2 h3 h4
/-- One is read. -/
theorem Els.rd (h : Els val e w a l c xs) {i : Int} (n : Nat) (hi : i = n) (hn : n < l) {K : α → Prop} (hk : K (at0 xs n)) :
    ∃ ad : Addr, a = some ad ∧ (0 : Int) ≤ i ∧ i < (↑l : Int) ∧ ∃ x : α, w.cell? (Addr.add ad (Int.toNat i * 1)) = some (val x) ∧ K x := by
  subst hi
  obtain ⟨g, rfl, hc⟩ := h.get (i := n) (by have := h.len; omega)
  exact ⟨_, rfl, by omega, by omega, _, hc, hk⟩
omit [Inhabited α] in
/-- One is written. -/
theorem Els.wr (h : Els val e w a l c xs) {i : Int} (n : Nat) (hi : i = n) (hn : n < l) (v : α) {K : World → Prop} (hk : ∀ w', Mod (rowB a) w w' → Els val e w' a l c (xs.set n v) → K w') :
    ∃ ad : Addr, a = some ad ∧ (0 : Int) ≤ i ∧ i < (↑l : Int) ∧ (∃ u : Value, w.cell? (Addr.add (Addr.add ad (Int.toNat i * 1)) 0) = some u) ∧ w.frozen? (Addr.add (Addr.add ad (Int.toNat i * 1)) 0) = false ∧
      atW (w.setCell (Addr.add (Addr.add ad (Int.toNat i * 1)) 0) (val v)) K := by
  subst hi
  obtain ⟨ad, had, hold, hfz, m, hp⟩ := h.put (i := n) (by have := h.len; omega) v
  refine ⟨ad, had, by omega, by omega, hold, hfz, fun w' e => ?_⟩
  subst e
  exact hk _ m hp
/-- Two are swapped. -/
theorem Els.swp (h : Els val e w a l c xs) {i j : Int} (m n : Nat) (hi : i = m) (hj : j = n) (hm : m < l) (hn : n < l) {K : World → Prop}
    (hk : ∀ w', Els val e w' a l c (swapL xs m n) → Mod (rowB a) w w' → K w') :
    ∃ ad : Addr, a = some ad ∧ (0 : Int) ≤ j ∧ j < (↑l : Int) ∧ ∃ x : α, w.cell? (Addr.add ad (Int.toNat j * 1)) = some (val x) ∧
    ∃ ad : Addr, a = some ad ∧ (0 : Int) ≤ i ∧ i < (↑l : Int) ∧ ∃ y : α, w.cell? (Addr.add ad (Int.toNat i * 1)) = some (val y) ∧
    ∃ ad : Addr, a = some ad ∧ (0 : Int) ≤ i ∧ i < (↑l : Int) ∧ (∃ u : Value, w.cell? (Addr.add (Addr.add ad (Int.toNat i * 1)) 0) = some u) ∧ w.frozen? (Addr.add (Addr.add ad (Int.toNat i * 1)) 0) = false ∧
      atW (w.setCell (Addr.add (Addr.add ad (Int.toNat i * 1)) 0) (val x)) fun w1 =>
    ∃ ad : Addr, a = some ad ∧ (0 : Int) ≤ j ∧ j < (↑l : Int) ∧ (∃ u : Value, w1.cell? (Addr.add (Addr.add ad (Int.toNat j * 1)) 0) = some u) ∧ w1.frozen? (Addr.add (Addr.add ad (Int.toNat j * 1)) 0) = false ∧
      atW (w1.setCell (Addr.add (Addr.add ad (Int.toNat j * 1)) 0) (val y)) K := by
  refine h.rd n hj hn (h.rd m hi hm (h.wr m hi hm _ fun w1 m1 h1 => h1.wr n hj hn _ fun w2 m2 h2 => hk w2 h2 (m1.trans m2)))
end

end Go.Proofs.YtehhhkcemmfjpaaGreatDoor.St

/- Iterators as they are ranged over. It names no program. -/
namespace Go.Proofs.YtehhhkcemmfjpaaGreatDoor.St
open Go

def isIt : Obj → Bool
  | .mapIter _ _ _ _ => true
  | .stringIter _ _ => true
  | _ => false

/-- What was older than B stands, and so do iterators. -/
structure Kp (B : Nat) (w w' : World) : Prop where
  os : w'.os = w.os
  tape : w'.tape = w.tape
  output : w'.output = w.output
  size : w.heap.size ≤ w'.heap.size
  old : ∀ k o, w.heap[k]? = some o → (k < B ∨ isIt o = true) → w'.heap[k]? = some o

theorem Kp.refl (B : Nat) (w : World) : Kp B w w := ⟨rfl, rfl, rfl, Nat.le_refl _, fun _ _ h _ => h⟩
theorem Kp.trans {B : Nat} {w w' w'' : World} (h : Kp B w w') (h' : Kp B w' w'') : Kp B w w'' :=
  ⟨h'.os.trans h.os, h'.tape.trans h.tape, h'.output.trans h.output, Nat.le_trans h.size h'.size, fun k o ho hk => h'.old k o (h.old k o ho hk) hk⟩
theorem Kp.of_mod {B : Nat} {S : Nat → Prop} {w w' : World} (h : Mod S w w') (hs : ∀ k o, w.heap[k]? = some o → (k < B ∨ isIt o = true) → ¬ S k) : Kp B w w' :=
  ⟨h.os, h.tape, h.output, h.size, fun k o ho hk => h.at ho (hs k o ho hk)⟩
theorem Kp.of_no {B : Nat} {w w' : World} (h : Mod no w w') : Kp B w w' := Kp.of_mod h fun _ _ _ _ => id
theorem Kp.mod {w w' : World} (h : Kp w.heap.size w w') : Mod no w w' :=
  ⟨h.os, h.tape, h.output, h.size, fun k hk _ => by rw [h.old k _ (Array.getElem?_eq_getElem hk) (.inl hk), Array.getElem?_eq_getElem hk]⟩

/-- What a yield gathers stands where nothing changes but an iterator. -/
def Stab (J : List Value → World → Prop) : Prop :=
  (∀ l w w', J l w → Mod no w w' → J l w') ∧ ∀ l w w' b o, J l w → w.heap[b]? = some o → isIt o = true → Mod (on b) w w' → J l w'

/-- The function value seq, called with a yield, hands it one of the lists of S, one by one: fewer than N, each a T. -/
def SeqOf (P : Program) (seq : Value) (B : Nat) (w0 : World) (N : Nat) (T : Value → Prop) (S : List Value → Prop) : Prop :=
  (∃ g first cap, seq = .func (.func g) first cap) ∧
  ∀ (J : List Value → World → Prop) (y : Value) (w : World) (R : Value → World → Prop), Kp B w0 w → Stab J → J [] w →
    (∀ pre x w', Kp B w0 w' → J pre w' → pre.length < N → T x → ∀ R' : Value → World → Prop, (∀ w'', Kp B w' w'' → J (pre ++ [x]) w'' → R' (.bool true) w'') → CaV P y #[x] w' R') →
    (∀ w' xs, S xs → J xs w' → Kp B w0 w' → R (.tuple #[]) w') → CaV P seq #[y] w R
end Go.Proofs.YtehhhkcemmfjpaaGreatDoor.St

/- A range over a map, wherever its iterator lies. It names no program. -/
namespace Go.Proofs.YtehhhkcemmfjpaaGreatDoor.St
open Go

section
variable {P : Program}
/-- 'next' over a map that stands as it was: nothing is left; or one that is left comes out. -/
theorem next_at {w : World} {ty : TypeId} {it bm since c0 : Nat} {seen : Array Nat} {es : Array MapEntry} {clock : Nat} (hit : w.heap[it]? = some (.mapIter (some bm) since seen c0)) (hb : w.heap[bm]? = some (.map es clock))
    (hold : ∀ x ∈ es.toList, x.born < since) (hsc : since ≤ c0) :
    ((leftOf es seen).size = 0 ∧ (Instr.next (.pointer (some ⟨it, 0, none⟩)) false ty).run P w = .ok (.tuple #[.bool false]) w) ∨
    ∃ e ∈ (leftOf es seen).toList, ∃ w' : World, (Instr.next (.pointer (some ⟨it, 0, none⟩)) false ty).run P w = .ok (.tuple #[.bool true, e.key, e.val]) w' ∧ Mod (on it) w w' ∧
      w'.heap[it]? = some (.mapIter (some bm) since (seen.push e.born) clock) := by
  simp only [Instr.next, getObj, Sem.run_bind, Sem.run, hit, hb, Result.andThen, next_test_false seen es since c0 hold hsc, Bool.false_eq_true, if_false]
  unfold leftOf
  have hmem : ∀ x ∈ (Array.filter (fun e => !seen.contains e.born) es).toList, x.born < since := fun x hx => hold x (by simp at hx ⊢; exact hx.1)
  generalize Array.filter (fun e => !seen.contains e.born) es = L at hmem ⊢
  have e1 : L.filter (fun x => decide (x.born < since)) = L := Array.filter_eq_self.2 (fun x hx => by simpa using hmem x (by simpa using hx))
  have e2 : L.filter (fun x => decide (x.born ≥ since)) = #[] := by
    rw [Array.filter_eq_empty_iff]
    intro x hx
    have := hmem x (by simpa using hx)
    simp
    omega
  simp only [e1, e2, Array.append_empty]
  by_cases h0 : L.size = 0
  · left
    have : L = #[] := Array.eq_empty_of_size_eq_zero h0
    subst this
    refine ⟨rfl, ?_⟩
    simp [choose, Sem.run, Question.forced]
  · right
    have hne : L.isEmpty = false := by simp [Array.isEmpty, h0]
    simp only [hne, Bool.false_eq_true, if_false, Array.empty_append, Array.size_map]
    have hch : ∃ (j : Nat) (w1 : World), j < L.size ∧ Mod no w w1 ∧ w1.heap = w.heap ∧ (choose (Question.mapNext L.size)).run P w = .ok j w1 := by
      by_cases hf : L.size ≤ 1
      · exact ⟨0, w, by omega, Mod.refl _ _, rfl, by simp [choose, Sem.run, Question.forced, hf]⟩
      · exact ⟨_, w.drew, Nat.mod_lt _ (by omega), Mod.drew w, rfl, by
          simp only [choose, Sem.run, Question.forced, decide_eq_true_eq, hf, if_false, Question.cut]
          rfl⟩
    obtain ⟨j, w1, hj, hm1, hheap, hrun⟩ := hch
    have hit1 : w1.heap[it]? = some (.mapIter (some bm) since seen c0) := by rw [hheap, hit]
    have hset : ∀ o' : Obj, (setObj it o').run P w1 = .ok () (w1.putObj it o') := fun o' => by
      simp [setObj, Sem.run, hit1, World.putObj]
    refine ⟨L[j], by simp, w1.putObj it (.mapIter (some bm) since (seen.push L[j].born) clock), ?_, hm1.no_trans (Mod.putObj w1 it _), put_at _ hit1⟩
    simp only [hrun, Array.getElem?_map, Array.getElem?_eq_getElem hj, Option.map_some, Sem.run_bind, hset, Result.andThen]
    rfl

theorem entry_at {w : World} {it bm since : Nat} {seen : Array Nat} {es : Array MapEntry} {clock : Nat} {e : MapEntry} (hit : w.heap[it]? = some (.mapIter (some bm) since (seen.push e.born) clock)) (hb : w.heap[bm]? = some (.map es clock))
    (he : e ∈ es.toList) (hn : (es.toList.map (·.born)).Nodup) : (Instr.entry (.pointer (some ⟨it, 0, none⟩))).run P w = .ok (.tuple #[e.key, e.val]) w := by
  have hf : es.find? (·.born == e.born) = some e := by rw [← Array.find?_toList]; exact find_born e es.toList hn he
  simp only [Instr.entry, getObj, Sem.run_bind, Sem.run, hit, hb, Result.andThen, Array.back?_push, bne_self_eq_false, Bool.false_eq_true, if_false, hf]
  rfl
end

theorem filter_perm {p q : MapEntry → Bool} {e : MapEntry} : ∀ {l : List MapEntry}, (l.map (·.born)).Nodup → e ∈ l → p e = true → (∀ x ∈ l, q x = (p x && !(x.born == e.born))) → (l.filter p).Perm (e :: l.filter q)
  | [], _, h, _, _ => by simp at h
  | x :: l, hn, he, hp, hq => by
    rw [List.map_cons, List.nodup_cons] at hn
    have hqx := hq x (by simp)
    rcases List.mem_cons.1 he with rfl | he'
    · have hqe : q e = false := by rw [hqx]; simp
      rw [List.filter_cons_of_pos hp, List.filter_cons_of_neg (by simp [hqe])]
      have : l.filter p = l.filter q := by
        apply List.filter_congr
        intro y hy
        rw [hq y (by simp [hy])]
        have : (y.born == e.born) = false := beq_false_of_ne fun h => hn.1 (by rw [← h]; exact List.mem_map_of_mem hy)
        simp [this]
      rw [this]
    · have hne : (x.born == e.born) = false := beq_false_of_ne fun h => hn.1 (by rw [h]; exact List.mem_map_of_mem he')
      have ih := filter_perm (l := l) hn.2 he' hp fun y hy => hq y (by simp [hy])
      have hqp : q x = p x := by rw [hqx, hne]; simp
      cases hpx : p x with
      | true =>
        rw [List.filter_cons_of_pos hpx, List.filter_cons_of_pos (by rw [hqp, hpx])]
        exact (List.Perm.cons x ih).trans (List.Perm.swap e x _)
      | false =>
        rw [List.filter_cons_of_neg (by simp [hpx]), List.filter_cons_of_neg (by simp [hqp, hpx])]
        exact ih

theorem left_perm {es : Array MapEntry} {seen : Array Nat} {e : MapEntry} (hn : (es.toList.map (·.born)).Nodup) (he : e ∈ (leftOf es seen).toList) :
    (leftOf es seen).toList.Perm (e :: (leftOf es (seen.push e.born)).toList) := by
  obtain ⟨h1, h2⟩ := mem_left he
  simp only [leftOf, Array.toList_filter]
  refine filter_perm hn h1 (by simpa using h2) fun x _ => ?_
  rw [contains_push, Bool.not_or]
end Go.Proofs.YtehhhkcemmfjpaaGreatDoor.St

/- Maps with keys of any kind that can be told apart (numbers, strings, pointers). It names no program. -/
namespace Go.Proofs.YtehhhkcemmfjpaaGreatDoor.St
open Go

section
variable {κ : Type} [BEq κ] [LawfulBEq κ]
/-- The entries, as they lie. -/
def kvL (kv : κ → Value) (L : List (κ × Value)) : List (Value × Value) := L.map fun p => (kv p.1, p.2)
/-- A key's place, and what stands there. -/
def posG (k : κ) : List (κ × Value) → Nat → Option (Nat × Value)
  | [], _ => none
  | p :: r, i => if k == p.1 then some (i, p.2) else posG k r (i + 1)

theorem posG_none {k : κ} : ∀ {L : List (κ × Value)} {i : Nat}, posG k L i = none ↔ k ∉ L.map (·.1)
  | [], i => by simp [posG]
  | p :: r, i => by
    simp only [posG]
    by_cases h : (k == p.1) = true
    · rw [if_pos h]; simp [eq_of_beq h]
    · rw [if_neg h, posG_none]
      have : ¬ k = p.1 := fun e => h (by rw [e]; exact beq_self_eq_true _)
      simp [this]
theorem posG_some {k : κ} {v : Value} {j : Nat} : ∀ {L : List (κ × Value)} {i : Nat}, posG k L i = some (j, v) → ∃ n, j = i + n ∧ ∃ h : n < L.length, L[n] = (k, v) ∧ ∀ m (h' : m < L.length), m < n → L[m].1 ≠ k
  | [], i, h => by simp [posG] at h
  | p :: r, i, h => by
    simp only [posG] at h
    by_cases hk : (k == p.1) = true
    · rw [if_pos hk] at h
      simp only [Option.some.injEq, Prod.mk.injEq] at h
      refine ⟨0, h.1.symm, by simp, ?_, fun m _ hm => by omega⟩
      rw [List.getElem_cons_zero, ← h.2, eq_of_beq hk]
    · rw [if_neg hk] at h
      obtain ⟨n, h1, h2, h3, h4⟩ := posG_some h
      refine ⟨n + 1, by omega, by simpa using h2, by simpa using h3, fun m h' hm => ?_⟩
      cases m with
      | zero => exact fun e => hk (by rw [← e]; exact beq_self_eq_true _)
      | succ m => simpa using h4 m (by simpa using h') (by omega)
/-- What a key has. -/
def getG (k : κ) (L : List (κ × Value)) : Option Value := (L.find? (fun p => k == p.1)).map (·.2)
omit [LawfulBEq κ] in
theorem posG_getG {k : κ} : ∀ {L : List (κ × Value)} {i : Nat}, (posG k L i).map (·.2) = getG k L
  | [], _ => rfl
  | p :: r, i => by
    simp only [posG, getG, List.find?_cons]
    cases h : (k == p.1) with
    | true => rfl
    | false => exact posG_getG (L := r) (i := i + 1)
/-- A key gets a value: where it stands, or at the end. -/
def setG (k : κ) (v : Value) : List (κ × Value) → List (κ × Value)
  | [] => [(k, v)]
  | p :: r => if k == p.1 then (k, v) :: r else p :: setG k v r
def delG (k : κ) : List (κ × Value) → List (κ × Value)
  | [] => []
  | p :: r => if k == p.1 then r else p :: delG k r
theorem posG_del {k : κ} {v : Value} {j : Nat} : ∀ {L : List (κ × Value)} {i : Nat}, posG k L i = some (j, v) → L.eraseIdx (j - i) = delG k L
  | [], i, h => by simp [posG] at h
  | p :: r, i, h => by
    simp only [posG] at h
    by_cases hk : (k == p.1) = true
    · rw [if_pos hk] at h
      simp only [Option.some.injEq, Prod.mk.injEq] at h
      rw [delG, if_pos hk, ← h.1, Nat.sub_self]; rfl
    · rw [if_neg hk] at h
      obtain ⟨n, h1, _⟩ := posG_some h
      have := posG_del h
      rw [delG, if_neg hk, show j - i = (j - (i + 1)) + 1 by omega, List.eraseIdx_cons_succ, this]
theorem delG_none {k : κ} : ∀ {L : List (κ × Value)}, k ∉ L.map (·.1) → delG k L = L
  | [], _ => rfl
  | p :: r, h => by
    simp only [List.map_cons, List.mem_cons, not_or] at h
    rw [delG, if_neg (fun e => h.1 (eq_of_beq e)), delG_none h.2]
theorem setG_none {k : κ} {v : Value} : ∀ {L : List (κ × Value)}, k ∉ L.map (·.1) → setG k v L = L ++ [(k, v)]
  | [], _ => rfl
  | p :: r, h => by
    simp only [List.map_cons, List.mem_cons, not_or] at h
    rw [setG, if_neg (fun e => h.1 (eq_of_beq e)), setG_none h.2]; rfl
theorem posG_set {k : κ} {v u : Value} {j : Nat} : ∀ {L : List (κ × Value)} {i : Nat}, posG k L i = some (j, u) → L.modify (j - i) (fun _ => (k, v)) = setG k v L
  | [], i, h => by simp [posG] at h
  | p :: r, i, h => by
    simp only [posG] at h
    by_cases hk : (k == p.1) = true
    · rw [if_pos hk] at h
      simp only [Option.some.injEq, Prod.mk.injEq] at h
      rw [setG, if_pos hk, ← h.1, Nat.sub_self]; rfl
    · rw [if_neg hk] at h
      obtain ⟨n, h1, _⟩ := posG_some h
      have := posG_set (v := v) h
      rw [setG, if_neg hk, show j - i = (j - (i + 1)) + 1 by omega, List.modify_succ_cons, this]
end

/-- Keys of the type kt are told apart as κ's are, where G holds. -/
structure Keys (P : Program) (kt : TypeId) {κ : Type} [BEq κ] (kv : κ → Value) (G : World → κ → Prop) : Prop where
  check : ∀ b k w, (Instr.checkKey b 10000 kt (kv k)).run P w = .ok () w
  find : ∀ k (L : List (κ × Value)) (es : List MapEntry) w, G w k → (∀ p ∈ L, G w p.1) → es.map (fun e => (e.key, e.val)) = kvL kv L → (Instr.findKey kt (kv k) es).run P w = .ok (posG k L 0) w
  stays : ∀ k w, (Instr.keyThatStays (kv k) (kv k)).run P w = .ok (kv k) w

instance : LawfulBEq ByteArray where
  eq_of_beq {a b} h := by
    cases a; cases b
    exact congrArg ByteArray.mk (eq_of_beq h)
  rfl {a} := by
    cases a
    exact beq_self_eq_true (α := Array UInt8) _

section
variable {P : Program} {kt : TypeId}
theorem find_string {k : ByteArray} : ∀ (es : List MapEntry) (L : List (ByteArray × Value)) (i : Nat), es.map (fun e => (e.key, e.val)) = kvL Value.string L → Instr.findNow .string (.string k) es i = some (posG k L i)
  | [], [], _, _ => rfl
  | [], _ :: _, _, h => by simp [kvL] at h
  | _ :: _, [], _, h => by simp [kvL] at h
  | e :: es, p :: L, i, h => by
    simp only [kvL, List.map_cons, List.cons.injEq, Prod.mk.injEq] at h
    obtain ⟨⟨hk, hv⟩, ht⟩ := h
    simp only [Instr.findNow, hk, Instr.sameNow]
    cases hb : (k == p.1) with
    | true => simp [posG, hb, hv]
    | false =>
      simp only [posG, hb]
      exact find_string es L (i + 1) ht
theorem keys_string (hk : P.underlying kt = some .string) : Keys P kt (κ := ByteArray) Value.string fun _ _ => True := by
  refine ⟨fun b k w => ?_, fun k L es w _ _ h => ?_, fun k w => ?_⟩
  · have h : ∀ n, (Instr.checkKey b (n + 1) kt (.string k)).run P w = .ok () w := by
      intro n
      simp [Instr.checkKey, run_underlying' hk, Result.andThen]
    exact h 9999
  · simp [Instr.findKey, run_underlying' hk, Result.andThen, find_string es L 0 h]
  · simp [Instr.keyThatStays, Instr.sameBits]

variable {κ : Type} [BEq κ] [LawfulBEq κ] {kv : κ → Value} {G : World → κ → Prop} {w : World} {t et : TypeId} {r : Nat} {L : List (κ × Value)}
omit [LawfulBEq κ] in
theorem lookup_k (K : Keys P kt kv G) (hu : P.underlying t = some (.map kt et)) {z : Value} (hz : ∀ w, (zeroValue et).run P w = .ok z w) (hm : MapAt w r (kvL kv L)) (k : κ) (hg : G w k) (hG : ∀ p ∈ L, G w p.1) (b : Bool) :
    (Instr.lookup t (.map (some r)) (kv k) b).run P w = .ok (match getG k L with | some v => if b then .tuple #[v, .bool true] else v | none => if b then .tuple #[z, .bool false] else z) w := by
  obtain ⟨es, clock, hb, he, _⟩ := hm
  have hf := K.find k L es.toList w hg hG he
  rw [← posG_getG (i := 0)]
  cases hp : posG k L 0 with
  | none => rw [hp] at hf; cases b <;> simp [Instr.lookup, run_underlying' hu, Result.andThen, MapKept.run_getObj_map hb, K.check, hf, hz]
  | some p => rw [hp] at hf; cases b <;> simp [Instr.lookup, run_underlying' hu, Result.andThen, MapKept.run_getObj_map hb, K.check, hf]
theorem update_k (K : Keys P kt kv G) (hu : P.underlying t = some (.map kt et)) (hm : MapAt w r (kvL kv L)) (k : κ) (hg : G w k) (hG : ∀ p ∈ L, G w p.1) (v : Value) :
    ∃ w', (Instr.mapUpdate t (.map (some r)) (kv k) v).run P w = .ok () w' ∧ Mod (on r) w w' ∧ MapAt w' r (kvL kv (setG k v L)) := by
  obtain ⟨es, clock, hb, he, hn, hc⟩ := hm
  have hf := K.find k L es.toList w hg hG he
  have hrun : ∀ (es' : Array MapEntry) (c : Nat), (setObj r (.map es' c)).run P w = .ok () (w.putObj r (.map es' c)) := by
    intro es' c; simp [setObj, Sem.run, World.putObj, hb]
  cases hp : posG k L 0 with
  | none =>
    rw [hp] at hf
    refine ⟨w.putObj r (.map (es.push { key := kv k, val := v, born := clock }) (clock + 1)), ?_, Mod.putObj w r _, ⟨_, _, put_at _ hb, ?_, ?_, ?_⟩⟩
    · simp [Instr.mapUpdate, run_underlying' hu, Result.andThen, MapKept.run_getObj_map hb, K.check, hf, hrun]
    · rw [setG_none (posG_none.1 hp)]
      simp [he, kvL]
    · simp only [Array.toList_push, List.map_append, List.map_cons, List.map_nil]
      rw [List.nodup_append]
      refine ⟨hn, by simp, ?_⟩
      intro a ha b hb' hab
      simp only [List.mem_cons, List.not_mem_nil, or_false] at hb'
      obtain ⟨e, he', rfl⟩ := List.mem_map.1 ha
      have := hc e he'
      omega
    · intro e h
      simp only [Array.toList_push, List.mem_append, List.mem_cons, List.not_mem_nil, or_false] at h
      rcases h with h | rfl
      · have := hc e h; omega
      · simp
  | some p =>
    obtain ⟨j, u⟩ := p
    rw [hp] at hf
    obtain ⟨n, hjn, hnl, hLn, _⟩ := posG_some hp
    have hjn : j = n := by omega
    subst hjn
    have hlen : es.size = L.length := by
      have := congrArg List.length he
      simpa [kvL] using this
    have hje : j < es.size := by omega
    have hkey : es[j].key = kv k := by
      have h1 : (es.toList.map fun e => (e.key, e.val))[j]? = some (es[j].key, es[j].val) := by simp [hje]
      rw [he, kvL, List.getElem?_map, List.getElem?_eq_getElem hnl, hLn] at h1
      simp only [Option.map_some, Option.some.injEq, Prod.mk.injEq] at h1
      exact h1.1.symm
    have hst := K.stays k w
    refine ⟨w.putObj r (.map (es.modify j fun e => { e with key := kv k, val := v }) clock), ?_, Mod.putObj w r _, ⟨_, _, put_at _ hb, ?_, ?_, ?_⟩⟩
    · simp [Instr.mapUpdate, run_underlying' hu, Result.andThen, MapKept.run_getObj_map hb, K.check, hf, hje, hkey, hst, hrun]
    · have h2 := posG_set (v := v) hp
      rw [Nat.sub_zero] at h2
      rw [← h2, kvL, Array.toList_modify]
      apply List.ext_getElem?
      intro m
      have h3 : (es.toList.map fun e => (e.key, e.val))[m]? = (kvL kv L)[m]? := by rw [he]
      simp only [kvL, List.getElem?_map] at h3
      simp only [List.getElem?_map, List.getElem?_modify]
      by_cases hmj : j = m
      · subst hmj
        simp [hje, hnl]
      · simp only [hmj, if_false]
        simpa using h3
    · have : (es.modify j fun e => { e with key := kv k, val := v }).toList.map (·.born) = es.toList.map (·.born) := by
        rw [Array.toList_modify]
        apply List.ext_getElem?
        intro m
        simp only [List.getElem?_map, List.getElem?_modify]
        by_cases hmj : j = m
        · subst hmj; simp [hje]
        · simp [hmj]
      rw [this]
      exact hn
    · intro e h
      rw [Array.toList_modify] at h
      obtain ⟨m, hm, rfl⟩ := List.getElem_of_mem h
      have hm' : m < es.toList.length := by simpa using hm
      rw [List.getElem_modify]
      split
      · exact hc es.toList[m] (List.getElem_mem hm')
      · exact hc es.toList[m] (List.getElem_mem hm')
theorem delete_k (K : Keys P kt kv G) {u ty : TypeId} (hu : P.underlying t = some (.map kt et)) (hm : MapAt w r (kvL kv L)) (k : κ) (hg : G w k) (hG : ∀ p ∈ L, G w p.1) :
    ∃ w', (Builtin.delete_ #[t, u] ty #[.map (some r), kv k]).run P w = .ok (.tuple #[]) w' ∧ Mod (on r) w w' ∧ MapAt w' r (kvL kv (delG k L)) := by
  obtain ⟨es, clock, hb, he, hn, hc⟩ := hm
  have hf := K.find k L es.toList w hg hG he
  have hrun : ∀ es' : Array MapEntry, (setObj r (.map es' clock)).run P w = .ok () (w.putObj r (.map es' clock)) := by
    intro es'; simp [setObj, Sem.run, World.putObj, hb]
  cases hp : posG k L 0 with
  | none =>
    rw [hp] at hf
    refine ⟨w.putObj r (.map es clock), ?_, Mod.putObj w r _, ⟨es, clock, put_at _ hb, by rw [delG_none (posG_none.1 hp)]; exact he, hn, hc⟩⟩
    simp [Builtin.delete_, run_underlying' hu, Result.andThen, MapKept.run_getObj_map hb, K.check, hf, hrun]
  | some p =>
    obtain ⟨j, v⟩ := p
    rw [hp] at hf
    refine ⟨w.putObj r (.map (es.eraseIdxIfInBounds j) clock), ?_, Mod.putObj w r _, ⟨es.eraseIdxIfInBounds j, clock, put_at _ hb, ?_, ?_, ?_⟩⟩
    · simp [Builtin.delete_, run_underlying' hu, Result.andThen, MapKept.run_getObj_map hb, K.check, hf, hrun]
    · have := posG_del hp
      rw [Nat.sub_zero] at this
      simp only [Array.toList_eraseIdxIfInBounds, ← eraseIdx_map', he, kvL]
      rw [← this, eraseIdx_map']
    · rw [Array.toList_eraseIdxIfInBounds, ← eraseIdx_map']; exact hn.eraseIdx _
    · intro e h
      rw [Array.toList_eraseIdxIfInBounds] at h
      exact hc e (List.mem_of_mem_eraseIdx h)
end
end Go.Proofs.YtehhhkcemmfjpaaGreatDoor.St

/- Struct variables, written whole; entries of a map, deleted while they are gone through. It names no program. -/
namespace Go.Proofs.YtehhhkcemmfjpaaGreatDoor.St
open Go

theorem stCells_go {k : Nat} {e : TypeId} {K : World → Prop} : ∀ (vs rest done : List Value) (i : Nat) (w : World), w.heap[k]? = some (.cells (done ++ rest).toArray e (0, 0)) → rest.length = vs.length → done.length = i → (∀ v ∈ vs, v.oneCell' = true) →
    (∀ w', Mod (on k) w w' → w'.heap[k]? = some (.cells (done ++ vs).toArray e (0, 0)) → K w') → stCells vs ⟨k, 0, none⟩ i w K
  | [], rest, done, i, w, h, hl, _, _, hk => by
    have : rest = [] := List.eq_nil_of_length_eq_zero hl
    subst this
    exact hk w (Mod.refl _ _) h
  | v :: vs, [], done, i, w, h, hl, _, _, hk => by simp at hl
  | v :: vs, r :: rest, done, i, w, h, hl, hi, ho, hk => by
    show (bif v.oneCell' then st1 (Addr.add ⟨k, 0, none⟩ i) v w fun w' => stCells vs ⟨k, 0, none⟩ (i + 1) w' K else False)
    rw [ho v (by simp)]
    refine ⟨⟨r, ?_⟩, fz1 h _, fun w2 e2 => ?_⟩
    · rw [cl1 h]
      simp [← hi]
    subst e2
    refine stCells_go vs rest (done ++ [v]) (i + 1) _ ?_ (by simpa using hl) (by simp [hi]) (fun u hu => ho u (by simp [hu])) fun w' m h' => hk w' ((Mod.set1 _ _ _ _).trans m) (by simpa using h')
    rw [set1 h]
    congr 2
    apply Array.ext'
    rw [Array.toList_setIfInBounds]
    show (done ++ r :: rest).set i v = _
    rw [List.set_append_right _ _ (by omega), hi, Nat.sub_self]
    simp
/-- A whole variable is written. -/
theorem stCells_var {k : Nat} {e : TypeId} {K : World → Prop} {vs cur : List Value} {w : World} (h : w.heap[k]? = some (.cells cur.toArray e (0, 0))) (hl : cur.length = vs.length) (ho : ∀ v ∈ vs, v.oneCell' = true)
    (hk : ∀ w', Mod (on k) w w' → w'.heap[k]? = some (.cells vs.toArray e (0, 0)) → K w') : stCells vs ⟨k, 0, none⟩ 0 w K := stCells_go vs cur [] 0 w h hl rfl ho hk

/-! ### Entries that go -/
theorem erase_born {e : MapEntry} : ∀ {l : List MapEntry} {j : Nat}, (l.map (·.born)).Nodup → l[j]? = some e → l.eraseIdx j = l.filter fun x => !(x.born == e.born)
  | [], j, _, h => by simp at h
  | x :: l, 0, hn, h => by
    rw [List.map_cons, List.nodup_cons] at hn
    simp only [List.getElem?_cons_zero, Option.some.injEq] at h
    subst h
    rw [List.eraseIdx_cons_zero, List.filter_cons_of_neg (by simp), List.filter_eq_self.2]
    intro y hy
    have : (y.born == x.born) = false := beq_false_of_ne fun h => hn.1 (by rw [← h]; exact List.mem_map_of_mem hy)
    simp [this]
  | x :: l, j + 1, hn, h => by
    rw [List.map_cons, List.nodup_cons] at hn
    simp only [List.getElem?_cons_succ] at h
    have hne : (x.born == e.born) = false := beq_false_of_ne fun h' => hn.1 (by rw [h']; exact List.mem_map_of_mem (List.mem_of_getElem? h))
    rw [List.eraseIdx_cons_succ, erase_born hn.2 h, List.filter_cons_of_pos (by simp [hne])]
section
variable {P : Program} {kt : TypeId} {κ : Type} [BEq κ] [LawfulBEq κ] {kv : κ → Value} {G : World → κ → Prop} {w : World} {t et : TypeId} {r : Nat} {L : List (κ × Value)}
/-- An entry is deleted by its key. -/
theorem delete_entry (K : Keys P kt kv G) {u ty : TypeId} (hu : P.underlying t = some (.map kt et)) {es : Array MapEntry} {clock : Nat} (hb : w.heap[r]? = some (.map es clock)) (he : es.toList.map (fun e => (e.key, e.val)) = kvL kv L)
    (hn : (es.toList.map (·.born)).Nodup) (hk : (L.map (·.1)).Nodup) {e : MapEntry} {k : κ} (hin : e ∈ es.toList) (hek : e.key = kv k) (hinj : ∀ a b, kv a = kv b → a = b) (hg : G w k) (hG : ∀ p ∈ L, G w p.1) :
    ∃ w' es', (Builtin.delete_ #[t, u] ty #[.map (some r), kv k]).run P w = .ok (.tuple #[]) w' ∧ Mod (on r) w w' ∧ w'.heap[r]? = some (.map es' clock) ∧ es'.toList = es.toList.filter fun x => !(x.born == e.born) := by
  have hf := K.find k L es.toList w hg hG he
  have hrun : ∀ es' : Array MapEntry, (setObj r (.map es' clock)).run P w = .ok () (w.putObj r (.map es' clock)) := by
    intro es'; simp [setObj, Sem.run, World.putObj, hb]
  obtain ⟨j, hj, hje⟩ := List.getElem_of_mem hin
  have hLl : L.length = es.toList.length := by have := congrArg List.length he; simpa [kvL] using this.symm
  have hLj : L[j].1 = k := by
    have h1 : (es.toList.map fun e => (e.key, e.val))[j]? = some (e.key, e.val) := by rw [List.getElem?_map, List.getElem?_eq_getElem hj, hje]; rfl
    rw [he, kvL, List.getElem?_map, List.getElem?_eq_getElem (by omega)] at h1
    simp only [Option.map_some, Option.some.injEq, Prod.mk.injEq] at h1
    exact hinj _ _ (h1.1.trans hek)
  cases hp : posG k L 0 with
  | none => exact absurd (List.mem_map.2 ⟨L[j], List.getElem_mem _, hLj⟩) (posG_none.1 hp)
  | some p =>
    obtain ⟨i, v⟩ := p
    rw [hp] at hf
    obtain ⟨n, hin', hnl, hLn, _⟩ := posG_some hp
    have hi : i = n := by omega
    subst hi
    have hij : i = j := by
      have h1 : (L.map (·.1))[i]'(by simpa using hnl) = (L.map (·.1))[j]'(by simpa using (by omega : j < L.length)) := by simp [hLn, hLj]
      have hp := List.pairwise_iff_getElem.1 hk
      rcases Nat.lt_trichotomy i j with h | h | h
      · exact absurd h1 (hp i j _ _ h)
      · exact h
      · exact absurd h1.symm (hp j i _ _ h)
    subst hij
    refine ⟨w.putObj r (.map (es.eraseIdxIfInBounds i) clock), es.eraseIdxIfInBounds i, ?_, Mod.putObj w r _, put_at _ hb, ?_⟩
    · simp [Builtin.delete_, run_underlying' hu, Result.andThen, MapKept.run_getObj_map hb, K.check, hf, hrun]
    · rw [Array.toList_eraseIdxIfInBounds]
      exact erase_born hn (by rw [List.getElem?_eq_getElem hj, hje])
end
end Go.Proofs.YtehhhkcemmfjpaaGreatDoor.St

/- Rows of elements of any number of cells. It names no program. -/
namespace Go.Proofs.YtehhhkcemmfjpaaGreatDoor.St
open Go

/-- How an element lies: s cells, one word each. -/
structure Lay (α : Type) where
  cs : α → List Value
  s : Nat
  pos : 0 < s
  len : ∀ x, (cs x).length = s
  one : ∀ x, ∀ v ∈ cs x, v.oneCell' = true

section
variable {α : Type} (L : Lay α)
/-- The row a[:l:c] holds these elements. -/
def Row (e : TypeId) (w : World) (a : Option Addr) (l c : Nat) (xs : List α) : Prop := w.ownsRow 0 e L.s (.slice a l c) l (xs.flatMap L.cs)
variable {L : Lay α} {e : TypeId} {w w' : World} {a : Option Addr} {l c : Nat} {xs : List α}

theorem Lay.length (L : Lay α) (xs : List α) : (xs.flatMap L.cs).length = xs.length * L.s := by
  induction xs with
  | nil => simp
  | cons x r ih => rw [List.flatMap_cons, List.length_append, L.len, ih, List.length_cons, Nat.add_mul, Nat.one_mul, Nat.add_comm]
theorem Lay.at (L : Lay α) {xs : List α} {i : Nat} (hi : i < xs.length) {j : Nat} {v : Value} (hj : (L.cs xs[i])[j]? = some v) : (xs.flatMap L.cs)[i * L.s + j]? = some v := by
  induction xs generalizing i with
  | nil => simp at hi
  | cons x r ih =>
    have hjs : j < L.s := by
      obtain ⟨h, _⟩ := List.getElem?_eq_some_iff.1 hj
      rwa [L.len] at h
    rw [List.flatMap_cons]
    cases i with
    | zero =>
      rw [List.getElem?_append_left (by rw [L.len]; omega)]
      simpa using hj
    | succ k =>
      rw [List.getElem?_append_right (by rw [L.len, Nat.add_mul, Nat.one_mul]; omega), L.len]
      have := ih (i := k) (by simpa using hi) (by simpa using hj)
      rwa [show (k + 1) * L.s + j - L.s = k * L.s + j by rw [Nat.add_mul, Nat.one_mul]; omega]
theorem Lay.take (L : Lay α) (xs : List α) (i : Nat) : (xs.take i).flatMap L.cs = (xs.flatMap L.cs).take (i * L.s) := by
  induction xs generalizing i with
  | nil => simp
  | cons x r ih =>
    cases i with
    | zero => simp
    | succ k =>
      rw [List.take_succ_cons, List.flatMap_cons, List.flatMap_cons, ih, List.take_append, L.len, List.take_of_length_le (l := L.cs x) (by rw [L.len, Nat.add_mul, Nat.one_mul]; omega), show (k + 1) * L.s - L.s = k * L.s by rw [Nat.add_mul, Nat.one_mul]; omega]
theorem Lay.drop (L : Lay α) (xs : List α) (i : Nat) : (xs.drop i).flatMap L.cs = (xs.flatMap L.cs).drop (i * L.s) := by
  induction xs generalizing i with
  | nil => simp
  | cons x r ih =>
    cases i with
    | zero => simp
    | succ k =>
      rw [List.drop_succ_cons, List.flatMap_cons, ih, List.drop_append, L.len, List.drop_of_length_le (l := L.cs x) (by rw [L.len, Nat.add_mul, Nat.one_mul]; omega), show (k + 1) * L.s - L.s = k * L.s by rw [Nat.add_mul, Nat.one_mul]; omega, List.nil_append]
theorem Lay.ones (L : Lay α) (xs : List α) : ∀ v ∈ xs.flatMap L.cs, v.oneCell' = true := by
  intro v hv
  obtain ⟨x, _, h⟩ := List.mem_flatMap.1 hv
  exact L.one x v h

theorem Row.len (h : Row L e w a l c xs) : xs.length = l ∧ l ≤ c ∧ c ≤ 9223372036854775807 := by
  have h1 : xs.length = l := by
    have := h.1
    rw [L.length] at this
    exact Nat.eq_of_mul_eq_mul_right L.pos this
  rcases h.2 with ⟨hv, h0⟩ | ⟨g, cap, cur, hv, _, _, hn, hm, _⟩
  · injection hv with _ h2 h3; exact ⟨h1, by omega, by omega⟩
  · injection hv with _ h2 h3; subst h3; exact ⟨h1, hn, by simpa [maxLen] using hm⟩
theorem Row.mod {S : Nat → Prop} (h : Row L e w a l c xs) (hm : Mod S w w') (hs : ∀ k, rowB a k → ¬ S k) : Row L e w' a l c xs := by
  refine ⟨h.1, ?_⟩
  rcases h.2 with hn | ⟨g, cap, cur, hv, hb, hg, rest⟩
  · exact .inl hn
  · injection hv with h1 h2 h3
    subst h1; subst h3
    exact .inr ⟨g, c, cur, rfl, hb, hm.at hg (hs g (by simp [rowB])), rest⟩
theorem Row.no (h : Row L e w a l c xs) (hm : Mod no w w') : Row L e w' a l c xs := h.mod hm fun _ _ => id
theorem Row.block (h : Row L e w a l c xs) : (a = none ∧ l = 0 ∧ c = 0 ∧ xs = []) ∨ ∃ g cur, a = some ⟨g, 0, none⟩ ∧ w.heap[g]? = some (.cells cur e (0, 0)) ∧ l ≤ c ∧ c ≤ maxLen ∧ cur.size = c * L.s ∧ cur.toList.take (l * L.s) = xs.flatMap L.cs := by
  have hl := h.len
  rcases h.2 with ⟨hv, h0⟩ | ⟨g, cap, cur, hv, _, hg, h1, h2, h3, h4⟩
  · injection hv with e1 e2 e3
    exact .inl ⟨e1, e2, e3, List.eq_nil_of_length_eq_zero (by omega)⟩
  · injection hv with e1 e2 e3
    subst e1; subst e3
    exact .inr ⟨g, cur, rfl, hg, h1, h2, h3, h4⟩
/-- A row that is there lies in the heap. -/
theorem Row.lt (h : Row L e w a l c xs) : ∀ k, rowB a k → k < w.heap.size := by
  intro k hk
  rcases h.block with ⟨rfl, _⟩ | ⟨g, cur, rfl, hg, _⟩
  · simp [rowB] at hk
  · simp [rowB] at hk; subst hk; exact lt_of_heap hg
theorem Row.empty (L : Lay α) (e : TypeId) (w : World) : Row L e w none 0 0 [] := ⟨by simp, .inl ⟨rfl, rfl⟩⟩
theorem Row.cellAt {g : Nat} (h : Row L e w (some ⟨g, 0, none⟩) l c xs) {k : Nat} {v : Value} (hk : (xs.flatMap L.cs)[k]? = some v) : w.cell? (Addr.add ⟨g, 0, none⟩ k) = some v := by
  rcases h.block with ⟨h0, _⟩ | ⟨g', cur, hg', hg, _, _, _, h4⟩
  · cases h0
  · injection hg' with hg'; injection hg' with hg'; subst hg'
    rw [cl1 hg]
    rw [← h4, List.getElem?_take] at hk
    split at hk
    · simpa using hk
    · cases hk
/-- An element's cells. -/
theorem Row.get (h : Row L e w a l c xs) {i : Nat} (hi : i < xs.length) : ∃ g, a = some ⟨g, 0, none⟩ ∧ ∀ j v, (L.cs xs[i])[j]? = some v → w.cell? (Addr.add (Addr.add ⟨g, 0, none⟩ (i * L.s)) j) = some v := by
  have hl := h.len
  rcases h.block with ⟨_, h0, _⟩ | ⟨g, cur, rfl, _⟩
  · omega
  · refine ⟨g, rfl, fun j v hj => ?_⟩
    have := h.cellAt (L.at hi hj)
    rw [add_lit] at this
    rw [add_lit, add_lit, Nat.add_assoc]
    exact this
/-- The same of a smaller row's place. -/
theorem Row.getS (h : Row L e w a l c xs) {i : Nat} (hi : i < xs.length) {s : Nat} (hs : L.s = s) : ∃ g, a = some ⟨g, 0, none⟩ ∧ ∀ j v, (L.cs xs[i])[j]? = some v → w.cell? (Addr.add (Addr.add ⟨g, 0, none⟩ (i * s)) j) = some v := by
  subst hs; exact h.get hi

/-- t is a slice of e; an e has s cells, and b bytes. -/
def laidOk (P : Program) (t e : TypeId) (s : Nat) : Bool :=
  (match P.underlying t with | some (.slice e') => Nat.beq e' e | _ => false) &&
  (match P.info? e with
    | some i => Nat.beq i.size s && Nat.ble i.bytes 128 && (match i.zero with | some z => Nat.beq z.cells.size s | none => false)
    | none => false)
theorem laidOk_of {P : Program} {t e : TypeId} {s : Nat} (h : laidOk P t e s = true) :
    P.underlying t = some (.slice e) ∧ ∃ i z, P.info? e = some i ∧ i.zero = some z ∧ i.size = s ∧ i.bytes ≤ 128 ∧ z.cells.size = s := by
  simp only [laidOk, Bool.and_eq_true] at h
  obtain ⟨h1, h2⟩ := h
  constructor
  · split at h1
    · rename_i e' hu; rw [hu, Nat.eq_of_beq_eq_true h1]
    · cases h1
  · split at h2
    · rename_i i hi
      simp only [Bool.and_eq_true] at h2
      obtain ⟨⟨h2, h3⟩, h4⟩ := h2
      split at h4
      · rename_i z hz
        exact ⟨i, z, hi, hz, Nat.eq_of_beq_eq_true h2, Nat.le_of_ble_eq_true h3, Nat.eq_of_beq_eq_true h4⟩
      · cases h4
    · cases h2

theorem bytesOf_info {P : Program} {e : TypeId} {i : TypeInfo} (hi : P.info? e = some i) : P.bytesOf e = i.bytes := by simp [Program.bytesOf, hi]
/-- append(row, others..): behind it the row of both; only the row's own block changed, or a new one was made. The others lie where b begins, or there are none. -/
theorem Row.pushBig {P : Program} {t ty : TypeId} (ho : laidOk P t e L.s = true) (h : Row L e w a l c xs) {b : Option Addr} {m cc : Nat} {ys : List α} (hm : ys.length = m)
    (hb : ∀ ad, b = some ad → ∀ j v, (ys.flatMap L.cs)[j]? = some v → w.cell? (ad.add j) = some v) (hb0 : b = none → m = 0 ∧ cc = 0) (hn : (l + m) * P.bytesOf e ≤ 140737488355328) (hmx : l + m ≤ maxLen) :
    ∃ a' c' w', (Builtin.append_ #[t, t] ty #[.slice a l c, .slice b m cc]).run P w = .ok (.slice a' (l + m) c') w' ∧ Row L e w' a' (l + m) c' (xs ++ ys) ∧
      Mod (rowB a) w w' ∧ (∀ k, rowB a' k → rowB a k ∨ w.heap.size ≤ k) := by
  obtain ⟨ht, i, z, hi, hz, hsize, hby, hzs⟩ := laidOk_of ho
  have hxl : xs.length = l := h.len.1
  have hlx : (xs.flatMap L.cs).length = l * i.size := by rw [L.length, hxl, hsize]
  have hnl : (ys.flatMap L.cs).length = m * i.size := by rw [L.length, hm, hsize]
  have same : a = a → ∀ k, rowB a k → rowB a k ∨ w.heap.size ≤ k := fun _ k hk => .inl hk
  rcases hbb : b with _ | ad
  · obtain ⟨rfl, rfl⟩ := hb0 hbb
    have : ys = [] := List.eq_nil_of_length_eq_zero hm
    subst this
    have hr := run_append_owned_none (P := P) w 0 t ty e i L.s ht hi (.slice a l c) l (xs.flatMap L.cs) h
    exact ⟨a, c, w, hr, by simpa using h, Mod.refl _ _, fun k hk => .inl hk⟩
  have hb := hb ad hbb
  have hbytes : (l + m) * i.bytes ≤ 140737488355328 := by rw [bytesOf_info hi] at hn; exact hn
  have grown : ∀ (old : Nat), old < l + m →
      Row L e (w.drew.alloc (.cells ((xs.flatMap L.cs).toArray ++ (ys.flatMap L.cs).toArray ++ Builtin.zeroCells z.cells (grownCap w (l + m) old e - (l + m))) e)) (some ⟨w.heap.size, 0, none⟩) (l + m) (grownCap w (l + m) old e) (xs ++ ys) ∧
      Mod (rowB a) w (w.drew.alloc (.cells ((xs.flatMap L.cs).toArray ++ (ys.flatMap L.cs).toArray ++ Builtin.zeroCells z.cells (grownCap w (l + m) old e - (l + m))) e)) := by
    intro old ho
    have hge := grownCap_ge w (l + m) old e
    have hcm : grownCap w (l + m) old e ≤ maxLen := grownCap_le_maxLen w (l + m) old e hmx
    refine ⟨⟨by rw [L.length]; simp [hxl, hm], .inr ⟨w.heap.size, _, _, rfl, Nat.zero_le _, heap_alloc_new w.drew _, hge, hcm, ?_, ?_⟩⟩, ⟨rfl, rfl, rfl, by simp, fun k hk _ => heap_alloc_old w.drew _ hk⟩⟩
    · simp only [Array.size_append, List.size_toArray, size_zeroCells, hzs, hlx, hnl, hsize]
      rw [← Nat.add_mul, ← Nat.add_mul]
      congr 1
      omega
    · simp only [Array.toList_append, List.flatMap_append]
      exact List.take_left' (by simp [hlx, hnl, hsize, Nat.add_mul])
  have hnew : ∀ k, rowB (some (⟨w.heap.size, 0, none⟩ : Addr)) k → rowB a k ∨ w.heap.size ≤ k := by
    intro k hk
    simp [rowB] at hk
    exact .inr (by omega)
  rcases h.block with ⟨rfl, rfl, rfl, rfl⟩ | ⟨g, cur, rfl, hg, hnc, hcm, hcs, htake⟩
  · by_cases hm0 : m = 0
    · subst hm0
      have : ys = [] := List.eq_nil_of_length_eq_zero hm
      subst this
      have hr := run_append_own (P := P) w 0 t ty e i z L.s i.bytes ht hi hz hsize rfl hzs L.pos (.slice none 0 0) 0 [] ⟨by simp, .inl ⟨rfl, rfl⟩⟩ ad 0 cc [] (by simp) (by simp) (by simp) (by simp [maxLen]) (by simp) (Nat.zero_le _)
      obtain ⟨v', w', hr, ho', hg', hv'⟩ := hr
      have hv : v' = .slice none 0 0 := hv'.2 ⟨rfl, rfl⟩
      subst hv
      refine ⟨none, 0, w', hr, Row.empty _ _ _, (Mod.grown hg').mono fun k _ hk => ?_, fun k hk => by simp [rowB] at hk⟩
      simp [Value.ownBlock] at hk
    · have e63 : (m : Int) ≤ 9223372036854775807 := by simp only [maxLen] at hmx; omega
      have e48 : m * i.bytes ≤ 281474976710656 := by rw [Nat.zero_add] at hbytes; omega
      have hr := run_append_nil (P := P) w t ty e i z ht hi hz ad m cc _ hnl hb (by omega) e63 e48
      have hgr := grown 0 (by omega)
      simp only [Nat.zero_add, List.nil_append, Array.empty_append, List.flatMap_nil] at hgr hr ⊢
      exact ⟨_, _, _, hr, hgr.1, hgr.2, hnew⟩
  · by_cases hroom : l + m ≤ c
    · have hown : w.ownsRow 0 e i.size (.slice (some ⟨g, 0, none⟩) l c) l (xs.flatMap L.cs) := by rw [hsize]; exact h
      obtain ⟨w', hr, ho', hgr⟩ := run_append_fits (P := P) (ty := ty) w 0 t e i i.size ht hi rfl g l c _ hown ad m cc _ hnl hb (L.ones ys) hroom
      rw [hsize, ← List.flatMap_append] at ho'
      refine ⟨_, _, _, hr, ho', (Mod.grown hgr).mono fun k _ hk => ?_, fun k hk => .inl hk⟩
      simp [rowB]
      injection hk with hk
      exact hk.symm
    · have holds : ∀ j u, (xs.flatMap L.cs)[j]? = some u → w.cell? ((⟨g, 0, none⟩ : Addr).add j) = some u := fun j u hj => h.cellAt hj
      have hr := run_append_grow (P := P) w t ty e i z ht hi hz ⟨g, 0, none⟩ l c _ hlx holds ad m cc _ hnl hb (by omega) (by simp only [maxLen] at hmx; omega) (growslice_fits (by omega) hbytes)
      have hgr := grown c (by omega)
      exact ⟨_, _, _, hr, hgr.1, hgr.2, hnew⟩

/-- The same, where there are few. -/
theorem Row.push {P : Program} {t ty : TypeId} (ho : laidOk P t e L.s = true) (h : Row L e w a l c xs) {b : Option Addr} {m cc : Nat} {ys : List α} (hm : ys.length = m)
    (hb : ∀ ad, b = some ad → ∀ j v, (ys.flatMap L.cs)[j]? = some v → w.cell? (ad.add j) = some v) (hb0 : b = none → m = 0 ∧ cc = 0) (hn : l + m ≤ 1099511627776) :
    ∃ a' c' w', (Builtin.append_ #[t, t] ty #[.slice a l c, .slice b m cc]).run P w = .ok (.slice a' (l + m) c') w' ∧ Row L e w' a' (l + m) c' (xs ++ ys) ∧
      Mod (rowB a) w w' ∧ (∀ k, rowB a' k → rowB a k ∨ w.heap.size ≤ k) := by
  obtain ⟨_, i, z, hi, _, _, hby, _⟩ := laidOk_of ho
  exact h.pushBig ho hm hb hb0 (by rw [bytesOf_info hi]; exact Nat.le_trans (Nat.mul_le_mul hn hby) (by decide)) (Nat.le_trans hn (by decide))

/-- The cells of row[k:]. -/
theorem Row.tail (h : Row L e w a l c xs) {k : Nat} (hk : k ≤ l) {s : Nat} (hs : L.s = s) :
    (∀ ad, (if c = k then a else a.map fun x => Addr.add x (k * s)) = some ad → ∀ j v, ((xs.drop k).flatMap L.cs)[j]? = some v → w.cell? (ad.add j) = some v) ∧
    ((if c = k then a else a.map fun x => Addr.add x (k * s)) = none → l - k = 0 ∧ c - k = 0) ∧ (xs.drop k).length = l - k := by
  subst hs
  have hl := h.len
  refine ⟨fun ad had j v hj => ?_, fun hn => ?_, by rw [List.length_drop]; omega⟩
  · split at had
    · rw [List.drop_eq_nil_of_le (by omega)] at hj
      simp at hj
    · rcases h.block with ⟨rfl, _⟩ | ⟨g, cur, rfl, _⟩
      · cases had
      · simp only [Option.map_some, Option.some.injEq] at had
        subst had
        rw [L.drop, List.getElem?_drop] at hj
        have := h.cellAt hj
        rw [add_lit] at this
        rw [add_lit, add_lit, Nat.add_assoc]
        exact this
  · rcases h.block with ⟨rfl, h1, h2, _⟩ | ⟨g, cur, rfl, _⟩
    · omega
    · split at hn <;> cases hn
/-- The cells of row[:k]. -/
theorem Row.head (h : Row L e w a l c xs) {k : Nat} (hk : k ≤ l) :
    (∀ ad, (if c = 0 then a else a.map fun x => Addr.add x 0) = some ad → ∀ j v, ((xs.take k).flatMap L.cs)[j]? = some v → w.cell? (ad.add j) = some v) ∧
    ((if c = 0 then a else a.map fun x => Addr.add x 0) = none → k - 0 = 0 ∧ c - 0 = 0) ∧ (xs.take k).length = k - 0 := by
  have hl := h.len
  refine ⟨fun ad had j v hj => ?_, fun hn => ?_, by rw [List.length_take]; omega⟩
  · rw [L.take, List.getElem?_take] at hj
    split at hj
    · rcases h.block with ⟨rfl, h1, h2, h3⟩ | ⟨g, cur, rfl, _⟩
      · subst h3; simp at hj
      · have := h.cellAt hj
        split at had
        · cases had; exact this
        · simp only [Option.map_some, Option.some.injEq] at had
          subst had
          rw [add_lit] at this
          rw [add_lit, add_lit, Nat.add_assoc]
          simpa using this
    · cases hj
  · rcases h.block with ⟨rfl, h1, h2, _⟩ | ⟨g, cur, rfl, _⟩
    · omega
    · split at hn <;> cases hn
/-- The cells of the whole row. -/
theorem Row.all (h : Row L e w a l c xs) : (∀ ad, a = some ad → ∀ j v, (xs.flatMap L.cs)[j]? = some v → w.cell? (ad.add j) = some v) ∧ (a = none → l = 0 ∧ c = 0) := by
  refine ⟨fun ad had j v hj => ?_, fun hn => ?_⟩
  · rcases h.block with ⟨rfl, _⟩ | ⟨g, cur, rfl, _⟩
    · cases had
    · cases had; exact h.cellAt hj
  · rcases h.block with ⟨_, h1, h2, _⟩ | ⟨g, cur, rfl, _⟩
    · exact ⟨h1, h2⟩
    · cases hn
/-- A row of what a literal made. -/
theorem Row.lit (L : Lay α) {e : TypeId} {w : World} {k : Nat} {cur : Array Value} (hg : w.heap[k]? = some (.cells cur e (0, 0))) (xs : List α) (h : cur.toList = xs.flatMap L.cs) (hn : xs.length ≤ maxLen) :
    Row L e w (some ⟨k, 0, none⟩) xs.length xs.length xs := by
  have hl : cur.size = xs.length * L.s := by rw [← L.length, ← h, Array.length_toList]
  exact ⟨L.length xs, .inr ⟨k, xs.length, cur, rfl, Nat.zero_le _, hg, Nat.le_refl _, hn, hl, by rw [← h, List.take_of_length_le (by rw [Array.length_toList, hl]; exact Nat.le_refl _)]⟩⟩
theorem Lay.set (L : Lay α) (xs : List α) {i : Nat} (hi : i < xs.length) (y : α) {j : Nat} {v : Value} (hj : j < L.s) (hy : L.cs y = (L.cs xs[i]).set j v) : (xs.set i y).flatMap L.cs = (xs.flatMap L.cs).set (i * L.s + j) v := by
  induction xs generalizing i with
  | nil => simp at hi
  | cons x r ih =>
    cases i with
    | zero =>
      rw [List.set_cons_zero, List.flatMap_cons, List.flatMap_cons, hy, Nat.zero_mul, Nat.zero_add, List.set_append, if_pos (by rw [L.len]; exact hj)]
      rfl
    | succ k =>
      rw [List.set_cons_succ, List.flatMap_cons, List.flatMap_cons, ih (by simpa using hi) (by simpa using hy), List.set_append, if_neg (by rw [L.len, Nat.add_mul, Nat.one_mul]; omega), L.len,
        show (k + 1) * L.s + j - L.s = k * L.s + j by rw [Nat.add_mul, Nat.one_mul]; omega]
/-- A cell of an element is written. -/
theorem Row.put (h : Row L e w a l c xs) {i : Nat} (hi : i < xs.length) {j s : Nat} (hs : L.s = s) (hj : j < L.s) (v : Value) (y : α) (hy : L.cs y = (L.cs xs[i]).set j v) :
    ∃ g, a = some ⟨g, 0, none⟩ ∧ (∃ u, w.cell? (Addr.add (Addr.add (Addr.add ⟨g, 0, none⟩ (i * s)) j) 0) = some u) ∧ w.frozen? (Addr.add (Addr.add (Addr.add ⟨g, 0, none⟩ (i * s)) j) 0) = false ∧
      Mod (on g) w (w.setCell (Addr.add (Addr.add (Addr.add ⟨g, 0, none⟩ (i * s)) j) 0) v) ∧ Row L e (w.setCell (Addr.add (Addr.add (Addr.add ⟨g, 0, none⟩ (i * s)) j) 0) v) a l c (xs.set i y) := by
  subst hs
  have hl := h.len
  rcases h.block with ⟨_, h0, _⟩ | ⟨g, cur, rfl, hg, hnc, hcm, hcs, htake⟩
  · omega
  have hlt : i * L.s + j < l * L.s := by
    have : (i + 1) * L.s ≤ l * L.s := Nat.mul_le_mul_right _ (by omega)
    rw [Nat.add_mul, Nat.one_mul] at this
    omega
  have hlc : l * L.s ≤ c * L.s := Nat.mul_le_mul_right _ hnc
  refine ⟨g, rfl, ⟨_, by rw [add_lit, add_lit, add_lit, cl hg]; exact Array.getElem?_eq_getElem (by omega)⟩, by rw [add_lit, add_lit, add_lit]; exact fz0 hg _, by rw [add_lit, add_lit, add_lit]; exact Mod.setCell w ⟨g, _, none⟩ v, ?_⟩
  refine ⟨by rw [L.length, List.length_set, hl.1], .inr ⟨g, c, _, rfl, Nat.zero_le _, by rw [add_lit, add_lit, add_lit]; exact set0 hg _ v, hnc, hcm, by simpa using hcs, ?_⟩⟩
  rw [L.set xs hi y hj hy, ← htake, Array.toList_setIfInBounds, Nat.zero_add, Nat.add_zero, List.take_set]
end

/-! ### Two lists, held against each other -/
structure AllAt {α β : Type} (P : α → β → Prop) (xs : List α) (ys : List β) : Prop where
  len : xs.length = ys.length
  get : ∀ (i : Nat) (h : i < xs.length) (h' : i < ys.length), P xs[i] ys[i]
section
variable {α β : Type} {P Q : α → β → Prop} {xs xs' : List α} {ys ys' : List β}
theorem AllAt.imp (h : AllAt P xs ys) (hq : ∀ x y, P x y → Q x y) : AllAt Q xs ys := ⟨h.len, fun i h1 h2 => hq _ _ (h.get i h1 h2)⟩
theorem AllAt.nil : AllAt P [] [] := ⟨rfl, fun i h => by simp at h⟩
theorem AllAt.append (h : AllAt P xs ys) (h' : AllAt P xs' ys') : AllAt P (xs ++ xs') (ys ++ ys') := by
  refine ⟨by simp [h.len, h'.len], fun i h1 h2 => ?_⟩
  have hl := h.len
  by_cases hi : i < xs.length
  · rw [List.getElem_append_left hi, List.getElem_append_left (by omega)]; exact h.get i _ _
  · rw [List.getElem_append_right (by omega), List.getElem_append_right (by omega)]
    have := h'.get (i - xs.length) (by simp at h1; omega) (by simp at h2; omega)
    simpa only [hl] using this
theorem AllAt.one {x : α} {y : β} (h : P x y) : AllAt P [x] [y] := ⟨rfl, fun i h1 h2 => by
  have : i = 0 := by simpa using h1
  subst this; exact h⟩
theorem AllAt.take (h : AllAt P xs ys) (k : Nat) : AllAt P (xs.take k) (ys.take k) :=
  ⟨by simp [h.len], fun i h1 h2 => by rw [List.getElem_take, List.getElem_take]; exact h.get i _ _⟩
theorem AllAt.drop (h : AllAt P xs ys) (k : Nat) : AllAt P (xs.drop k) (ys.drop k) :=
  ⟨by simp [h.len], fun i h1 h2 => by rw [List.getElem_drop, List.getElem_drop]; exact h.get (k + i) _ _⟩
theorem AllAt.set (h : AllAt P xs ys) (k : Nat) {x : α} {y : β} (hp : P x y) : AllAt P (xs.set k x) (ys.set k y) := by
  refine ⟨by simp [h.len], fun i h1 h2 => ?_⟩
  rw [List.getElem_set, List.getElem_set]
  split
  · exact hp
  · exact h.get i _ _
end

/-! ### A struct of its own, filled cell by cell -/
def fillC (b : Nat) : List Value → Nat → World → (World → Prop) → Prop
  | [], _, w, K => K w
  | v :: r, i, w, K => (∃ u : Value, w.cell? (Addr.add ⟨b, 0, none⟩ i) = some u) ∧ w.frozen? (Addr.add ⟨b, 0, none⟩ i) = false ∧ atW (w.setCell (Addr.add ⟨b, 0, none⟩ i) v) fun w' => fillC b r (i + 1) w' K
theorem fillC_at {b : Nat} {t : TypeId} {K : World → Prop} : ∀ (vs : List Value) (done old : List Value) (w : World), old.length = vs.length → w.heap[b]? = some (.cells (done ++ old).toArray t (0, 0)) →
    (∀ w', w'.heap[b]? = some (.cells (done ++ vs).toArray t (0, 0)) → Mod (on b) w w' → w'.heap.size = w.heap.size → K w') → fillC b vs done.length w K
  | [], done, old, w, hl, h, hk => by
    have : old = [] := List.eq_nil_of_length_eq_zero hl
    subst this
    exact hk w h (Mod.refl _ _) rfl
  | v :: r, done, [], w, hl, h, hk => by simp at hl
  | v :: r, done, o :: old, w, hl, h, hk => by
    refine ⟨⟨o, by rw [cl1 h]; simp⟩, fz1 h _, fun w' e => ?_⟩
    subst e
    have h1 : (w.setCell (Addr.add ⟨b, 0, none⟩ done.length) v).heap[b]? = some (.cells ((done ++ [v]) ++ old).toArray t (0, 0)) := by
      rw [set1 h]
      simp
    have := fillC_at (K := K) r (done ++ [v]) old _ (by simpa using hl) h1 (fun w' h' m' s' => hk w' (by simpa using h') ((Mod.set1 _ _ _ _).trans m') (by rw [s']; simp))
    simpa using this
theorem fillC_ok {b : Nat} {t : TypeId} {K : World → Prop} {vs : List Value} {w : World} {old : Array Value} (h : w.heap[b]? = some (.cells old t (0, 0))) (hl : old.size = vs.length)
    (hk : ∀ w', w'.heap[b]? = some (.cells vs.toArray t (0, 0)) → Mod (on b) w w' → w'.heap.size = w.heap.size → K w') : fillC b vs 0 w K :=
  fillC_at vs [] old.toList w (by simpa using hl) (by simpa using h) (by simpa using hk)
end Go.Proofs.YtehhhkcemmfjpaaGreatDoor.St

/- Exchanges and bindings as plain data, and their orders. It names no program. -/
namespace Go.Proofs.YtehhhkcemmfjpaaGreatDoor.St
open Go

structure Exc where
  n : ByteArray
  k : Int
  f : Bool
  deriving Inhabited, DecidableEq
structure Bnd where
  x : ByteArray
  q : ByteArray
  p : ByteArray
  deriving Inhabited, DecidableEq
def Exc.cs (e : Exc) : List Value := [.string e.n, .int .i64 e.k, .bool e.f]
def Bnd.cs (b : Bnd) : List Value := [.string b.x, .string b.q, .string b.p]
def excL : Lay Exc := ⟨Exc.cs, 3, by decide, fun _ => rfl, fun x v h => by
  simp only [Exc.cs, List.mem_cons, List.not_mem_nil, or_false] at h
  rcases h with rfl | rfl | rfl <;> rfl⟩
def bndL : Lay Bnd := ⟨Bnd.cs, 3, by decide, fun _ => rfl, fun x v h => by
  simp only [Bnd.cs, List.mem_cons, List.not_mem_nil, or_false] at h
  rcases h with rfl | rfl | rfl <;> rfl⟩

/-! ### Exchanges go by their names -/
instance excLT : _root_.LT Exc := ⟨fun x y => x.n < y.n⟩
instance excLE : LE Exc := ⟨fun x y => ¬ y < x⟩
instance excLin : Lin Exc where
  nlt h := h
  nle h := h
  lle {a b} h := strLin.lle (a := a.n) (b := b.n) h
  tr {a b c} h h' := strLin.tr (a := a.n) (b := b.n) (c := c.n) h h'

/-! ### Bindings go by exchange, queue, pattern -/
theorem bl_total : ∀ x y : List UInt8, Op.bytesLess x y = false → Op.bytesLess y x = false → x = y
  | [], [], _, _ => rfl
  | [], _ :: _, h, _ => by simp [Op.bytesLess] at h
  | _ :: _, [], _, h => by simp [Op.bytesLess] at h
  | a :: x, b :: y, h1, h2 => by
    simp only [Op.bytesLess, Bool.or_eq_false_iff, Bool.and_eq_false_iff, decide_eq_false_iff_not, beq_eq_false_iff_ne, UInt8.lt_iff_toNat_lt] at h1 h2
    have e : a = b := UInt8.toNat_inj.1 (by omega)
    subst e
    rw [bl_total x y (h1.2.resolve_left fun h => h rfl) (h2.2.resolve_left fun h => h rfl)]
theorem ba_toList (x y : ByteArray) (h : x.toList = y.toList) : x = y := by
  rw [byteArray_toList, byteArray_toList] at h
  exact ByteArray.ext (Array.toList_inj.1 h)
theorem str_irr (a : ByteArray) : ¬ a < a := fun h => by
  have : Op.bytesLess a.toList a.toList = true := h
  rw [bl_irr] at this; cases this
theorem str_total {a b : ByteArray} (h1 : ¬ a < b) (h2 : ¬ b < a) : a = b :=
  ba_toList _ _ (bl_total _ _ (by simpa using (show ¬ Op.bytesLess a.toList b.toList = true from h1)) (by simpa using (show ¬ Op.bytesLess b.toList a.toList = true from h2)))
theorem str_asym {a b : ByteArray} (h : a < b) : ¬ b < a := strLin.lle h
theorem str_tr {a b c : ByteArray} (h1 : a < b) (h2 : b < c) : a < c := Classical.byContradiction fun h => (strLin.tr (a := b) (b := c) (c := a) (strLin.lle h2) h) h1
instance bndLT : _root_.LT Bnd := ⟨fun a b => a.x < b.x ∨ a.x = b.x ∧ (a.q < b.q ∨ a.q = b.q ∧ a.p < b.p)⟩
instance bndLE : LE Bnd := ⟨fun x y => ¬ y < x⟩
theorem bnd_irr (a : Bnd) : ¬ a < a := by
  rintro (h | ⟨_, h | ⟨_, h⟩⟩) <;> exact str_irr _ h
theorem bnd_tr {a b c : Bnd} (h1 : a < b) (h2 : b < c) : a < c := by
  rcases h1 with h1 | ⟨e1, h1⟩
  · rcases h2 with h2 | ⟨e2, h2⟩
    · exact .inl (str_tr h1 h2)
    · exact .inl (e2 ▸ h1)
  · rcases h2 with h2 | ⟨e2, h2⟩
    · exact .inl (e1 ▸ h2)
    · refine .inr ⟨e1.trans e2, ?_⟩
      rcases h1 with h1 | ⟨e1, h1⟩
      · rcases h2 with h2 | ⟨e2, h2⟩
        · exact .inl (str_tr h1 h2)
        · exact .inl (e2 ▸ h1)
      · rcases h2 with h2 | ⟨e2, h2⟩
        · exact .inl (e1 ▸ h2)
        · exact .inr ⟨e1.trans e2, str_tr h1 h2⟩
theorem bnd_total {a b : Bnd} (h1 : ¬ a < b) (h2 : ¬ b < a) : a = b := by
  have ex : a.x = b.x := str_total (fun h => h1 (.inl h)) (fun h => h2 (.inl h))
  have eq : a.q = b.q := str_total (fun h => h1 (.inr ⟨ex, .inl h⟩)) (fun h => h2 (.inr ⟨ex.symm, .inl h⟩))
  have ep : a.p = b.p := str_total (fun h => h1 (.inr ⟨ex, .inr ⟨eq, h⟩⟩)) (fun h => h2 (.inr ⟨ex.symm, .inr ⟨eq.symm, h⟩⟩))
  cases a; cases b; simp only at ex eq ep; rw [ex, eq, ep]
instance bndLin : Lin Bnd where
  nlt h := h
  nle h := h
  lle {a b} h := fun h' => bnd_irr a (bnd_tr h h')
  tr {a b c} h h' := fun h2 => by
    by_cases hab : a < b
    · by_cases hbc : b < c
      · exact bnd_irr a (bnd_tr (bnd_tr hab hbc) h2)
      · have : b = c := bnd_total hbc h'
        subst this
        exact h h2
    · have : a = b := bnd_total hab h
      subst this
      exact h' h2
end Go.Proofs.YtehhhkcemmfjpaaGreatDoor.St

/- Structs of plain fields as keys of maps, and compared. It names no program. -/
namespace Go.Proofs.YtehhhkcemmfjpaaGreatDoor.St
open Go

/-- A struct of three texts. -/
structure Str3 (P : Program) (t : TypeId) : Prop where
  ex : ∃ f0 f1 f2 : Field, P.underlying t = some (.struct #[f0, f1, f2]) ∧ f0.name ≠ "_" ∧ f1.name ≠ "_" ∧ f2.name ≠ "_" ∧ P.underlying f0.type = some .string ∧ P.underlying f1.type = some .string ∧ P.underlying f2.type = some .string ∧ f0.offset = 0 ∧ f1.offset = 1 ∧ f2.offset = 2
  held : P.stoodInHeld t = false
  guard : P.eqGuardType P.depth t = false
/-- A struct of a text, a whole number and a bool. -/
structure Str4 (P : Program) (t : TypeId) : Prop where
  ex : ∃ f0 f1 f2 : Field, P.underlying t = some (.struct #[f0, f1, f2]) ∧ f0.name ≠ "_" ∧ f1.name ≠ "_" ∧ f2.name ≠ "_" ∧ P.underlying f0.type = some .string ∧ P.underlying f1.type = some (.int .i64) ∧ P.underlying f2.type = some .bool ∧ f0.offset = 0 ∧ f1.offset = 1 ∧ f2.offset = 2
  held : P.stoodInHeld t = false
  guard : P.eqGuardType P.depth t = false
variable {P : Program} {t : TypeId} {w : World}
theorem plain_str {e : TypeId} (h : P.underlying e = some .string) : P.plainKey e = true := by simp [Program.plainKey, h]
theorem eqIn_str (n : Nat) {e : TypeId} (h : P.underlying e = some .string) (a b : ByteArray) : (Op.equalIn (n + 1) e (.string a) (.string b)).run P w = .ok (a == b) w := by
  simp [Op.equalIn, run_underlying' h, Result.andThen]
theorem Str3.eqIn (S : Str3 P t) (n : Nat) (a b : Bnd) : (Op.equalIn (n + 2) t (.agg ⟨a.cs⟩) (.agg ⟨b.cs⟩)).run P w = .ok (decide (a = b)) w := by
  obtain ⟨f0, f1, f2, hu, n0, n1, n2, t0, t1, t2, o0, o1, o2⟩ := S.ex
  have p0 : ∀ x : Bnd, (part f0.type ⟨x.cs⟩ f0.offset).run P w = .ok (.string x.x) w := fun x => run_part_plain w (plain_str t0) (by rw [o0]; rfl)
  have p1 : ∀ x : Bnd, (part f1.type ⟨x.cs⟩ f1.offset).run P w = .ok (.string x.q) w := fun x => run_part_plain w (plain_str t1) (by rw [o1]; rfl)
  have p2 : ∀ x : Bnd, (part f2.type ⟨x.cs⟩ f2.offset).run P w = .ok (.string x.p) w := fun x => run_part_plain w (plain_str t2) (by rw [o2]; rfl)
  have hd : decide (a = b) = (a.x == b.x && (a.q == b.q && a.p == b.p)) := by
    rw [Bool.eq_iff_iff]
    cases a; cases b
    simp
  rw [hd]
  rw [Op.equalIn]
  simp only [Sem.run_bind, run_underlying' hu, Result.andThen]
  cases h0 : (a.x == b.x) <;> cases h1 : (a.q == b.q) <;> cases h2 : (a.p == b.p) <;>
    simp [Result.andThen, S.held, n0, n1, n2, p0, p1, p2, eqIn_str n t0, eqIn_str n t1, eqIn_str n t2, h0, h1, h2]
theorem Str3.eq (S : Str3 P t) (a b : Bnd) : (Op.equal t (.agg ⟨a.cs⟩) (.agg ⟨b.cs⟩)).run P w = .ok (decide (a = b)) w := S.eqIn 9998 a b
theorem eqA_agg {t : TypeId} (hg : P.eqGuardType P.depth t = false) {x y : Array Value} {b : Bool} (he : (Op.equal t (.agg x) (.agg y)).run P w = .ok b w) {K : Bool → World → Prop} (hk : K b w) : eqA P t (.agg x) (.agg y) w K := by
  refine ⟨b, w, ?_, hk⟩
  have h1 : (eqGuard .eql t (.tmp 0) (.tmp 0) (.agg x) (.agg y)).run P w = .ok () w := by
    simp [eqGuard, Result.andThen, hg]
  simp [h1, Result.andThen, he]
theorem Str4.eqIn (S : Str4 P t) (n : Nat) (a b : Exc) : (Op.equalIn (n + 2) t (.agg ⟨a.cs⟩) (.agg ⟨b.cs⟩)).run P w = .ok (decide (a = b)) w := by
  obtain ⟨f0, f1, f2, hu, n0, n1, n2, t0, t1, t2, o0, o1, o2⟩ := S.ex
  have p0 : ∀ x : Exc, (part f0.type ⟨x.cs⟩ f0.offset).run P w = .ok (.string x.n) w := fun x => run_part_plain w (plain_str t0) (by rw [o0]; rfl)
  have p1 : ∀ x : Exc, (part f1.type ⟨x.cs⟩ f1.offset).run P w = .ok (.int .i64 x.k) w := fun x => run_part_plain w (by simp [Program.plainKey, t1]) (by rw [o1]; rfl)
  have p2 : ∀ x : Exc, (part f2.type ⟨x.cs⟩ f2.offset).run P w = .ok (.bool x.f) w := fun x => run_part_plain w (by simp [Program.plainKey, t2]) (by rw [o2]; rfl)
  have q1 : ∀ x y : Int, (Op.equalIn (n + 1) f1.type (.int .i64 x) (.int .i64 y)).run P w = .ok (x == y) w := by
    intro x y
    simp [Op.equalIn, run_underlying' t1, Result.andThen]
  have q2 : ∀ x y : Bool, (Op.equalIn (n + 1) f2.type (.bool x) (.bool y)).run P w = .ok (x == y) w := by
    intro x y
    simp [Op.equalIn, run_underlying' t2, Result.andThen]
  have hd : decide (a = b) = (a.n == b.n && (a.k == b.k && a.f == b.f)) := by
    rw [Bool.eq_iff_iff]
    cases a; cases b
    simp
  rw [hd]
  rw [Op.equalIn]
  simp only [Sem.run_bind, run_underlying' hu, Result.andThen]
  cases h0 : (a.n == b.n) <;> cases h1 : (a.k == b.k) <;> cases h2 : (a.f == b.f) <;>
    simp [Result.andThen, S.held, n0, n1, n2, p0, p1, p2, eqIn_str n t0, q1, q2, h0, h1, h2]
theorem Str4.eq (S : Str4 P t) (a b : Exc) : (Op.equal t (.agg ⟨a.cs⟩) (.agg ⟨b.cs⟩)).run P w = .ok (decide (a = b)) w := S.eqIn 9998 a b
theorem Str3.check (S : Str3 P t) (e : Bool) (k : Bnd) : (Instr.checkKey e 10000 t (.agg ⟨k.cs⟩)).run P w = .ok () w := by
  obtain ⟨f0, f1, f2, hu, n0, n1, n2, t0, t1, t2, o0, o1, o2⟩ := S.ex
  have p0 : ∀ x : Bnd, (part f0.type ⟨x.cs⟩ f0.offset).run P w = .ok (.string x.x) w := fun x => run_part_plain w (plain_str t0) (by rw [o0]; rfl)
  have p1 : ∀ x : Bnd, (part f1.type ⟨x.cs⟩ f1.offset).run P w = .ok (.string x.q) w := fun x => run_part_plain w (plain_str t1) (by rw [o1]; rfl)
  have p2 : ∀ x : Bnd, (part f2.type ⟨x.cs⟩ f2.offset).run P w = .ok (.string x.p) w := fun x => run_part_plain w (plain_str t2) (by rw [o2]; rfl)
  have hs : ∀ n (e' : TypeId) (s : ByteArray), P.underlying e' = some .string → (Instr.checkKey e (n + 1) e' (.string s)).run P w = .ok () w := by
    intro n e' s h
    simp [Instr.checkKey, run_underlying' h, Result.andThen]
  have : ∀ n, (Instr.checkKey e (n + 2) t (.agg ⟨k.cs⟩)).run P w = .ok () w := by
    intro n
    rw [Instr.checkKey]
    simp only [Sem.run_bind, run_underlying' hu, Result.andThen]
    simp [Result.andThen, n0, n1, n2, p0, p1, p2, hs n _ _ t0, hs n _ _ t1, hs n _ _ t2]
  exact this 9998
instance : BEq Bnd := ⟨fun a b => decide (a = b)⟩
instance : LawfulBEq Bnd where
  eq_of_beq h := of_decide_eq_true h
  rfl := decide_eq_true rfl
def bndV (b : Bnd) : Value := .agg ⟨b.cs⟩
theorem Str3.asking (S : Str3 P t) (k : Bnd) : ∀ (es : List MapEntry) (L : List (Bnd × Value)) (i : Nat), es.map (fun e => (e.key, e.val)) = kvL bndV L → (Instr.findAsking t (bndV k) es i).run P w = .ok (posG k L i) w
  | [], [], _, _ => rfl
  | [], _ :: _, _, h => by simp [kvL] at h
  | _ :: _, [], _, h => by simp [kvL] at h
  | e :: es, p :: L, i, h => by
    simp only [kvL, List.map_cons, List.cons.injEq, Prod.mk.injEq] at h
    obtain ⟨⟨hk, hv⟩, ht⟩ := h
    have he : (Op.equal t (bndV k) e.key).run P w = .ok (decide (k = p.1)) w := by rw [hk]; exact S.eq k p.1
    simp only [Instr.findAsking, Sem.run_bind, he, Result.andThen]
    by_cases hb : k = p.1
    · simp [posG, hb, hv]
    · have hb' : (k == p.1) = false := decide_eq_false hb
      simp only [posG, hb', hb, decide_false]
      exact S.asking k es L (i + 1) ht
theorem Str3.find (S : Str3 P t) (k : Bnd) (es : List MapEntry) (L : List (Bnd × Value)) (h : es.map (fun e => (e.key, e.val)) = kvL bndV L) : (Instr.findKey t (bndV k) es).run P w = .ok (posG k L 0) w := by
  obtain ⟨f0, f1, f2, hu, _⟩ := S.ex
  have hq := S.asking (w := w) k es L 0 h
  cases es with
  | nil =>
    cases L with
    | nil => simp [Instr.findKey, run_underlying' hu, Result.andThen, Instr.findNow, posG]
    | cons _ _ => simp [kvL] at h
  | cons e es =>
    have hn : Instr.findNow (.struct #[f0, f1, f2]) (bndV k) (e :: es) 0 = none := by
      simp only [Instr.findNow, Instr.sameNow]
    simp only [Instr.findKey, Sem.run_bind, run_underlying' hu, Result.andThen, hn]
    exact hq
theorem keys_bnd (S : Str3 P t) : Keys P t (κ := Bnd) bndV fun _ _ => True := by
  refine ⟨fun b k w => S.check b k, fun k L es w _ _ h => S.find k es L h, fun k w => ?_⟩
  simp [Instr.keyThatStays, Instr.sameBits, bndV, Bnd.cs]
end Go.Proofs.YtehhhkcemmfjpaaGreatDoor.St

/- Rows of structs, whose elements are loaded and stored as a whole ('ldW', 'stW'). It names no program. -/
namespace Go.Proofs.YtehhhkcemmfjpaaGreatDoor.St
open Go

/-- A value of this kind. -/
def okC : CT → Value → Prop
  | .int k, v => ∃ x : Int, v = .int k x
  | .bool, v => ∃ b : Bool, v = .bool b
  | .str, v => ∃ s : ByteArray, v = .string s
  | .ptr, v => ∃ p : Option Addr, v = .pointer p
  | .slice, v => ∃ (a : Option Addr) (l c : Nat), v = .slice a l c
  | .map, v => ∃ m : Option Nat, v = .map m
  | .func, _ => True
  | .other, _ => True
theorem exC_in {c : CT} {K : Value → Prop} {v : Value} (h : okC c v) (hk : K v) : exC c K := by
  cases c <;> simp only [okC] at h <;> simp only [exC]
  · obtain ⟨x, rfl⟩ := h; exact ⟨x, hk⟩
  · obtain ⟨x, rfl⟩ := h; exact ⟨x, hk⟩
  · obtain ⟨x, rfl⟩ := h; exact ⟨x, hk⟩
  · obtain ⟨x, rfl⟩ := h; exact ⟨x, hk⟩
  · obtain ⟨a, l, c, rfl⟩ := h; exact ⟨a, l, c, hk⟩
  · obtain ⟨x, rfl⟩ := h; exact ⟨x, hk⟩
  · exact ⟨v, hk⟩
  · exact ⟨v, hk⟩
def okCs : List CT → List Value → Prop
  | [], [] => True
  | c :: cs, v :: vs => okC c v ∧ okCs cs vs
  | _, _ => False
theorem okCs_len : ∀ {cs : List CT} {vs : List Value}, okCs cs vs → cs.length = vs.length
  | [], [], _ => rfl
  | c :: cs, v :: vs, h => by simp [okCs_len h.2]
  | [], _ :: _, h => h.elim
  | _ :: _, [], h => h.elim
theorem ldCells_in {ad : Addr} {w : World} {K : List Value → Prop} : ∀ {cs : List CT} {vs : List Value} {i : Nat} {acc : List Value}, okCs cs vs → (∀ j v, vs[j]? = some v → w.cell? (ad.add (i + j)) = some v) → K (acc.reverse ++ vs) → ldCells cs ad i acc w K
  | [], [], i, acc, _, _, hk => by simpa [ldCells] using hk
  | c :: cs, v :: vs, i, acc, h, hc, hk => by
    refine exC_in (v := v) h.1 ⟨by simpa using hc 0 v rfl, ldCells_in h.2 (fun j u hj => ?_) (by simpa using hk)⟩
    have := hc (j + 1) u (by simpa using hj)
    rwa [show i + (j + 1) = i + 1 + j by omega] at this
  | [], _ :: _, _, _, h, _, _ => h.elim
  | _ :: _, [], _, _, h, _, _ => h.elim

/-- e is a struct that lies as L says. -/
structure LayOk {α : Type} (P : Program) (e : TypeId) (L : Lay α) : Prop where
  info : ∃ i, P.info? e = some i ∧ i.size = L.s
  und : ∃ fs, P.underlying e = some (.struct fs)
  kinds : ∀ x, okCs (cellsT P 8 e) (L.cs x)

section
variable {α : Type} {P : Program} {e : TypeId} {L : Lay α}
theorem ldW_in (ho : LayOk P e L) {ad : Addr} {w : World} {x : α} (hc : ∀ j v, (L.cs x)[j]? = some v → w.cell? (ad.add j) = some v) {K : Value → Prop} (hk : K (.agg ⟨L.cs x⟩)) : ldW P e (.pointer (some ad)) w K := by
  obtain ⟨i, hi, hs⟩ := ho.info
  obtain ⟨fs, hu⟩ := ho.und
  have hl := okCs_len (ho.kinds x)
  show (match P.info? e, P.underlying e with | some i, some (.struct _) | some i, some (.array _ _) => bif Nat.beq i.size (cellsT P 8 e).length then ldCells (cellsT P 8 e) ad 0 [] w fun cs => K (.agg ⟨cs⟩) else False | some _, some d => exC (ctOf d) fun v => w.cell? ad = some v ∧ K v | _, _ => False)
  rw [hi, hu]
  have hb : Nat.beq i.size (cellsT P 8 e).length = true := by rw [hs, hl, L.len]; exact Nat.beq_refl _
  simp only [hb]
  exact ldCells_in (ho.kinds x) (fun j v hj => by rw [Nat.zero_add]; exact hc j v hj) (by simpa using hk)
end

section
variable {α : Type} [Inhabited α] (L : Lay α)
/-- The row a[:l:c] holds these elements. -/
def Rx (e : TypeId) (w : World) (a : Option Addr) (l c : Nat) (xs : List α) : Prop := Row L e w a l c xs
variable {L : Lay α} {e : TypeId} {w w' : World} {a : Option Addr} {l c : Nat} {xs : List α} {P : Program}
omit [Inhabited α]
theorem Rx.len (h : Rx L e w a l c xs) : xs.length = l ∧ l ≤ c ∧ c ≤ 9223372036854775807 := Row.len h
theorem Rx.mod {S : Nat → Prop} (h : Rx L e w a l c xs) (hm : Mod S w w') (hs : ∀ k, rowB a k → ¬ S k) : Rx L e w' a l c xs := Row.mod h hm hs
theorem Rx.no (h : Rx L e w a l c xs) (hm : Mod no w w') : Rx L e w' a l c xs := Row.no h hm
theorem Rx.lt (h : Rx L e w a l c xs) {i : Nat} (hi : i < l) : i < xs.length := by have := h.len.1; omega
theorem Rx.le (h : Rx L e w a l c xs) {i : Nat} (hi : i ≤ l) : i ≤ xs.length := by have := h.len.1; omega
variable [Inhabited α]
theorem Rx.seg (h : Rx L e w a l c xs) {p q i j : Nat} (hi : i < l) (hj : j < l) (h1 : p ≤ i) (h2 : i < q) (h3 : p ≤ j) (h4 : j < q) : Seg p q xs (swapL xs i j) := Seg.swap (h.lt hi) (h.lt hj) h1 h2 h3 h4
/-- One is read. -/
theorem Rx.rd (ho : LayOk P e L) (h : Rx L e w a l c xs) {s : Nat} (hs : L.s = s) {i : Int} (n : Nat) (hi : i = n) (hn : n < l) {K : Value → Prop} (hk : K (.agg ⟨L.cs (at0 xs n)⟩)) :
    ∃ ad : Addr, a = some ad ∧ (0 : Int) ≤ i ∧ i < (↑l : Int) ∧ ldW P e (.pointer (some (Addr.add ad (Int.toNat i * s)))) w K := by
  subst hi
  have hnl : n < xs.length := h.lt hn
  obtain ⟨g, rfl, hc⟩ := Row.getS h hnl hs
  refine ⟨_, rfl, by omega, by omega, ldW_in ho (x := at0 xs n) (fun j v hj => ?_) hk⟩
  rw [Int.toNat_natCast]
  rw [at0_eq hnl] at hj
  exact hc j v hj
omit [Inhabited α] in
/-- One is written, cell by cell. -/
theorem wr_cells {g n : Nat} (h : Rx L e w (some ⟨g, 0, none⟩) l c xs) (hn : n < l) (v : α) {K : World → Prop} (hk : ∀ w', Mod (on g) w w' → Rx L e w' (some ⟨g, 0, none⟩) l c (xs.set n v) → K w') :
    stCells (L.cs v) (Addr.add ⟨g, 0, none⟩ (n * L.s)) 0 w K := by
  obtain ⟨g', cur, hg', hg, hlc, hcm, hsz, htake⟩ : ∃ g' cur, some (⟨g, 0, none⟩ : Addr) = some ⟨g', 0, none⟩ ∧ w.heap[g']? = some (.cells cur e (0, 0)) ∧ l ≤ c ∧ c ≤ maxLen ∧ cur.size = c * L.s ∧ cur.toList.take (l * L.s) = xs.flatMap L.cs := by
    rcases Row.block h with ⟨h0, _⟩ | h
    · cases h0
    · exact h
  injection hg' with hg'; injection hg' with hg'
  subst hg'
  have hxl := h.len.1
  have hlt : (n + 1) * L.s ≤ l * L.s := Nat.mul_le_mul_right _ (by omega)
  have hlc' : l * L.s ≤ c * L.s := Nat.mul_le_mul_right _ hlc
  rw [Nat.add_mul, Nat.one_mul] at hlt
  -- as far as it has been written
  have step : ∀ (vs : List Value) (i : Nat) (w1 : World) (done : List Value), L.cs v = done ++ vs → done.length = i → Mod (on g) w w1 →
      w1.heap[g]? = some (.cells ((cur.toList.take (n * L.s) ++ (done ++ cur.toList.drop (n * L.s + i)))).toArray e (0, 0)) → stCells vs (Addr.add ⟨g, 0, none⟩ (n * L.s)) i w1 K := by
    intro vs
    induction vs with
    | nil =>
      intro i w1 done hd hi m1 h1
      rw [List.append_nil] at hd
      have hi' : i = L.s := by rw [← hi, ← hd, L.len]
      refine hk w1 m1 ⟨by rw [L.length, List.length_set, hxl], .inr ⟨g, c, _, rfl, Nat.zero_le _, h1, hlc, hcm, ?_, ?_⟩⟩
      · rw [List.size_toArray, List.length_append, List.length_append, List.length_take, List.length_drop, Array.length_toList, hi, hi']
        omega
      · show ((cur.toList.take (n * L.s) ++ (done ++ cur.toList.drop (n * L.s + i)))).take (l * L.s) = _
        have e1 : xs.set n v = xs.take n ++ v :: xs.drop (n + 1) := List.set_eq_take_append_cons_drop.trans (by rw [if_pos (by omega)])
        rw [e1, List.flatMap_append, List.flatMap_cons, L.take, L.drop, ← htake, List.take_take, Nat.min_eq_left (by omega), hd, hi', Nat.add_mul, Nat.one_mul]
        have hA : (cur.toList.take (n * L.s)).length = n * L.s := by rw [List.length_take, Array.length_toList]; omega
        have hB : done.length = L.s := by omega
        rw [List.take_append, hA, List.take_of_length_le (l := cur.toList.take (n * L.s)) (by omega), List.take_append, hB, List.take_of_length_le (l := done) (by omega), List.drop_take]
        congr 3
        omega
    | cons u vs ih =>
      intro i w1 done hd hi m1 h1
      have hone : u.oneCell' = true := L.one v u (by rw [hd]; simp)
      have hil : i < L.s := by
        have := congrArg List.length hd
        rw [L.len, List.length_append, List.length_cons] at this
        omega
      have hA : (cur.toList.take (n * L.s)).length = n * L.s := by rw [List.length_take, Array.length_toList]; omega
      have hsz1 : n * L.s + i < ((cur.toList.take (n * L.s) ++ (done ++ cur.toList.drop (n * L.s + i)))).length := by
        rw [List.length_append, List.length_append, List.length_drop, hA, show cur.toList.length = cur.size from rfl]
        omega
      show (bif u.oneCell' then st1 (Addr.add (Addr.add ⟨g, 0, none⟩ (n * L.s)) i) u w1 fun w' => stCells vs (Addr.add ⟨g, 0, none⟩ (n * L.s)) (i + 1) w' K else False)
      rw [hone]
      refine ⟨⟨_, by rw [cl2 h1]; exact Array.getElem?_eq_getElem (by simpa using hsz1)⟩, fz2 h1 _ _, fun w2 e2 => ?_⟩
      subst e2
      refine ih (i + 1) _ (done ++ [u]) (by rw [hd]; simp) (by simp [hi]) (m1.trans (Mod.set2 _ _ _ _ _)) ?_
      rw [set2 h1]
      congr 2
      apply Array.ext'
      rw [Array.toList_setIfInBounds]
      show ((cur.toList.take (n * L.s) ++ (done ++ cur.toList.drop (n * L.s + i)))).set (n * L.s + i) u = _
      rw [List.set_append_right _ _ (by omega), hA, show n * L.s + i - n * L.s = i by omega, List.set_append_right _ _ (by omega), hi, Nat.sub_self]
      have hd2 : cur.toList.drop (n * L.s + i) = cur.toList[n * L.s + i]'(by rw [Array.length_toList]; omega) :: cur.toList.drop (n * L.s + (i + 1)) := by
        rw [List.drop_eq_getElem_cons (by rw [Array.length_toList]; omega)]
        rfl
      rw [hd2, List.set_cons_zero]
      simp
  exact step (L.cs v) 0 w [] rfl rfl (Mod.refl _ _) (by simpa using hg)
omit [Inhabited α] in
/-- One is written. -/
theorem Rx.wr (ho : LayOk P e L) (h : Rx L e w a l c xs) {s : Nat} (hs : L.s = s) {i : Int} (n : Nat) (hi : i = n) (hn : n < l) (v : α) {K : World → Prop} (hk : ∀ w', Mod (rowB a) w w' → Rx L e w' a l c (xs.set n v) → K w') :
    ∃ ad : Addr, a = some ad ∧ (0 : Int) ≤ i ∧ i < (↑l : Int) ∧ stW P e (.pointer (some (Addr.add ad (Int.toNat i * s)))) (.agg ⟨L.cs v⟩) w K := by
  subst hi
  subst hs
  have hnl : n < xs.length := h.lt hn
  obtain ⟨g, rfl, _⟩ := Row.get h hnl
  refine ⟨_, rfl, by omega, by omega, ?_⟩
  obtain ⟨i, hi, hsz⟩ := ho.info
  show (match P.info? e with | some i => bif Nat.beq (Value.agg ⟨L.cs v⟩).cells.size i.size then stCells (Value.agg ⟨L.cs v⟩).cells.toList (Addr.add ⟨g, 0, none⟩ (Int.toNat (n : Int) * L.s)) 0 w K else False | none => False)
  rw [hi]
  have hb : Nat.beq (Value.agg ⟨L.cs v⟩).cells.size i.size = true := by
    rw [hsz]
    show Nat.beq (L.cs v).length L.s = true
    rw [L.len]; exact Nat.beq_refl _
  simp only [hb, Int.toNat_natCast]
  exact wr_cells h hn v fun w' m hx => hk w' (m.mono fun k _ hk => by cases hk; rfl) hx
/-- Two are swapped. -/
theorem Rx.swp (ho : LayOk P e L) (h : Rx L e w a l c xs) {s : Nat} (hs : L.s = s) {i j : Int} (m n : Nat) (hi : i = m) (hj : j = n) (hm : m < l) (hn : n < l) {K : World → Prop}
    (hk : ∀ w', Rx L e w' a l c (swapL xs m n) → Mod (rowB a) w w' → K w') :
    ∃ ad : Addr, a = some ad ∧ (0 : Int) ≤ j ∧ j < (↑l : Int) ∧ ldW P e (.pointer (some (Addr.add ad (Int.toNat j * s)))) w fun x =>
    ∃ ad : Addr, a = some ad ∧ (0 : Int) ≤ i ∧ i < (↑l : Int) ∧ ldW P e (.pointer (some (Addr.add ad (Int.toNat i * s)))) w fun y =>
    ∃ ad : Addr, a = some ad ∧ (0 : Int) ≤ i ∧ i < (↑l : Int) ∧ stW P e (.pointer (some (Addr.add ad (Int.toNat i * s)))) x w fun w1 =>
    ∃ ad : Addr, a = some ad ∧ (0 : Int) ≤ j ∧ j < (↑l : Int) ∧ stW P e (.pointer (some (Addr.add ad (Int.toNat j * s)))) y w1 K :=
  h.rd ho hs n hj hn (h.rd ho hs m hi hm (h.wr ho hs m hi hm _ fun _ m1 h1 => h1.wr ho hs n hj hn _ fun w2 m2 h2 => hk w2 h2 (m1.trans m2)))
end
end Go.Proofs.YtehhhkcemmfjpaaGreatDoor.St

/- The formulas of functions, printed by a program of mine (gen.py) out of the translation. -/
namespace Go.Proofs.YtehhhkcemmfjpaaGreatDoor
open Go Go.Proofs.YtehhhkcemmfjpaaGreatDoor.St
open _root_.Go.Value (string int bool slice pointer agg tuple map func nilFunc iface)
open _root_.Go.World (cell? frozen? setCell alloc drew)
open _root_.Go.Addr (add)
open _root_.Go.Obj (cells)
open _root_.Go.IntKind (wrap i64 u64 i32 u32 u8)
set_option maxRecDepth 100000

/-- slices.insertionSortCmpFunc[staith/api.Binding] -/
noncomputable def C120 : Code := (Tryz.f120.body).getD .skip
def pl120 : Nat → Plan
  | 4 => (.quiet 0 (.quiet 1 (.quiet 2 (.quiet 3 (.quiet 4 (.quiet 5 (.quiet 6 (.quiet 7 (.quiet 8 (.quiet 9 (.quiet 10 (.quiet 11 (.quiet 12 (.quiet 13 (.eff 14 [] (.quiet 15 (.quiet 16 .done)))))))))))))))))
  | 6 => (.quiet 0 (.quiet 1 (.quiet 2 (.quiet 3 (.quiet 4 (.quiet 5 (.quiet 6 (.quiet 7 (.quiet 8 (.quiet 9 (.quiet 10 (.quiet 11 (.quiet 12 (.quiet 13 (.quiet 14 (.eff 15 [] (.quiet 16 (.eff 17 [] .done))))))))))))))))))
  | _ => .done
def ls120 : Nat → List (Nat × LT)
  | 1 => [(8, (.one (.int .i64)))]
  | 6 => [(9, (.one (.int .i64)))]
  | _ => []
def W120 (dataa : Option Addr) (datal : Nat) (_datac : Nat) (a_ : Int) (b : Int) (cmp : Value) (w : World) (R : Value → World → Prop) : Prop :=
  (∃ z0 : Int → World → Prop, (∃ z1 : Int → World → Nat, ((z0 (wrap i64 (a_ + 1)) (w)) ∧ (∀ (_ : Nat → Value), (∀ (x3 : Int), (∀ (w4 : World), ((z0 (x3) (w4)) → (ifK (decide (x3 < b))
(∃ z5 : Int → World → Prop, (∃ z6 : Int → World → Nat, ((z5 (x3) (w4)) ∧ (∀ (_ : Nat → Value), (∀ (x8 : Int), (∀ (w9 : World), ((z5 (x8) (w9)) → (atW (drew w9) (fun w10 =>
(ifK (decide (x8 > a_))
(∃ a11 : Addr, ((dataa = some a11) ∧ (((0 : Int) ≤ x8) ∧ (((x8 : Int) < (↑datal : Int)) ∧ (ldW Tryz.prog 35 (pointer (some (add a11 (Int.toNat x8 * 3)))) (w10) (fun v12 =>
(∃ a13 : Addr, ((dataa = some a13) ∧ (((0 : Int) ≤ wrap i64 (x8 - 1)) ∧ (((wrap i64 (x8 - 1) : Int) < (↑datal : Int)) ∧ (ldW Tryz.prog 35 (pointer (some (add a13 (Int.toNat (wrap i64 (x8 - 1)) * 3)))) (w10) (fun v14 =>
(CaV Tryz.prog (cmp) (Array.mk [v12, v14]) (w10) (fun v15 => (fun w16 =>
(∃ x17 : Int, ((v15 = int i64 x17) ∧ (ifK (decide (x17 < 0))
(atW (drew w16) (fun w18 =>
(∃ a19 : Addr, ((dataa = some a19) ∧ (((0 : Int) ≤ wrap i64 (x8 - 1)) ∧ (((wrap i64 (x8 - 1) : Int) < (↑datal : Int)) ∧ (ldW Tryz.prog 35 (pointer (some (add a19 (Int.toNat (wrap i64 (x8 - 1)) * 3)))) (w18) (fun v20 =>
(∃ a21 : Addr, ((dataa = some a21) ∧ (((0 : Int) ≤ x8) ∧ (((x8 : Int) < (↑datal : Int)) ∧ (ldW Tryz.prog 35 (pointer (some (add a21 (Int.toNat x8 * 3)))) (w18) (fun v22 =>
(∃ a23 : Addr, ((dataa = some a23) ∧ (((0 : Int) ≤ x8) ∧ (((x8 : Int) < (↑datal : Int)) ∧ (stW Tryz.prog 35 (pointer (some (add a23 (Int.toNat x8 * 3)))) (v20) (w18) (fun w24 =>
(∃ a25 : Addr, ((dataa = some a25) ∧ (((0 : Int) ≤ wrap i64 (x8 - 1)) ∧ (((wrap i64 (x8 - 1) : Int) < (↑datal : Int)) ∧ (stW Tryz.prog 35 (pointer (some (add a25 (Int.toNat (wrap i64 (x8 - 1)) * 3)))) (v22) (w24) (fun w26 =>
((z5 (wrap i64 (x8 - 1)) (w26)) ∧ (z6 (wrap i64 (x8 - 1)) w26 < z6 x8 w9))))))))))))))))))))))))))))
((z0 (wrap i64 (x3 + 1)) (w16)) ∧ (z1 (wrap i64 (x3 + 1)) w16 < z1 x3 w4))))))))))))))))))))
((z0 (wrap i64 (x3 + 1)) (w10)) ∧ (z1 (wrap i64 (x3 + 1)) w10 < z1 x3 w4))))))))))))
(R (tuple (Array.mk (List.reverse []))) (w4))))))))))
theorem ca120 (dataa : Option Addr) (datal : Nat) (datac : Nat) (a_ : Int) (b : Int) (cmp : Value) (w : World) (R : Value → World → Prop) (h : W120 dataa datal datac a_ b cmp w R) : Ca Tryz.prog 120 ⟨[(.slice dataa datal datac), (.int .i64 a_), (.int .i64 b), cmp]⟩ w R :=
  caB (fn := Tryz.f120) (pl := pl120) (ls := ls120) Tryz.func120 (by kernel_rfl) (by kernel_rfl) h
end Go.Proofs.YtehhhkcemmfjpaaGreatDoor

/- The library's sort with a comparison, at one type of elements (structs): insertion sort. -/
namespace Go.Proofs.YtehhhkcemmfjpaaGreatDoor.SrtB
open Go Go.Proofs.YtehhhkcemmfjpaaGreatDoor Go.Proofs.YtehhhkcemmfjpaaGreatDoor.St

/-- The comparison is less than nothing just where the order is. -/
structure Cmp (cv : Value) : Prop where
  ho : LayOk Tryz.prog 35 bndL
  hs : (bndL).s = 3
  cmp : ∀ (x y : Bnd) (w : World) (R : Value → World → Prop), (∀ w' (n : Int), Mod no w w' → (n < 0 ↔ x < y) → R (.int .i64 n) w') → CaV Tryz.prog cv #[.agg ⟨(bndL).cs x⟩, .agg ⟨(bndL).cs y⟩] w R
theorem Rx.nblk {d : Option Addr} {l c : Nat} {xs : List Bnd} {w : World} (hd : Rx bndL 35 w d l c xs) : ¬ rowB d w.heap.size := fun hk => absurd (Row.lt hd _ hk) (Nat.lt_irrefl _)

section
variable {cv : Value} {d : Option Addr} {l c : Nat} {xs : List Bnd} {w : World}
/-- Is the one less than the other? -/
theorem lss (hc : Cmp cv) (hd : Rx bndL 35 w d l c xs) {i j : Int} (m n : Nat) (hi : i = m) (hj : j = n) (hm : m < l) (hn : n < l) {A B : World → Prop} (hA : at0 xs m < at0 xs n → ∀ w', Mod no w w' → A w') (hB : ¬ at0 xs m < at0 xs n → ∀ w', Mod no w w' → B w') :
    ∃ ad : Addr, d = some ad ∧ (0 : Int) ≤ i ∧ i < (↑l : Int) ∧ ldW Tryz.prog 35 (.pointer (some (Addr.add ad (Int.toNat i * 3)))) w fun x =>
    ∃ ad : Addr, d = some ad ∧ (0 : Int) ≤ j ∧ j < (↑l : Int) ∧ ldW Tryz.prog 35 (.pointer (some (Addr.add ad (Int.toNat j * 3)))) w fun y =>
    CaV Tryz.prog cv (Array.mk [x, y]) w (fun v w' => ∃ k : Int, v = Value.int .i64 k ∧ ifK (decide (k < 0)) (A w') (B w')) :=
  hd.rd hc.ho hc.hs m hi hm (hd.rd hc.ho hc.hs n hj hn (hc.cmp _ _ _ _ fun w' k mm h => ⟨k, rfl, ifK_dec (fun h' => hA (h.1 h') w' mm) (fun h' => hB (fun h'' => h' (h.2 h'')) w' mm)⟩))
/-- Is the one not less than the other? -/
theorem nls (hc : Cmp cv) (hd : Rx bndL 35 w d l c xs) {i j : Int} (m n : Nat) (hi : i = m) (hj : j = n) (hm : m < l) (hn : n < l) {A B : World → Prop} (hA : ¬ at0 xs m < at0 xs n → ∀ w', Mod no w w' → A w') (hB : at0 xs m < at0 xs n → ∀ w', Mod no w w' → B w') :
    ∃ ad : Addr, d = some ad ∧ (0 : Int) ≤ i ∧ i < (↑l : Int) ∧ ldW Tryz.prog 35 (.pointer (some (Addr.add ad (Int.toNat i * 3)))) w fun x =>
    ∃ ad : Addr, d = some ad ∧ (0 : Int) ≤ j ∧ j < (↑l : Int) ∧ ldW Tryz.prog 35 (.pointer (some (Addr.add ad (Int.toNat j * 3)))) w fun y =>
    CaV Tryz.prog cv (Array.mk [x, y]) w (fun v w' => ∃ k : Int, v = Value.int .i64 k ∧ ifK (!decide (k < 0)) (A w') (B w')) :=
  hd.rd hc.ho hc.hs m hi hm (hd.rd hc.ho hc.hs n hj hn (hc.cmp _ _ _ _ fun w' k mm h => ⟨k, rfl, ifK_not (fun h' => hA (fun h'' => of_decide_eq_false h' (h.2 h'')) w' mm) (fun h' => hB (h.1 (of_decide_eq_true h')) w' mm)⟩))
end

theorem insertion_ok (cv : Value) (hc : Cmp cv) (d : Option Addr) (l c : Nat) (a b : Nat) (xs : List Bnd) (w : World) (hd : Rx bndL 35 w d l c xs) (hab : a ≤ b) (hb : b ≤ l) (hl : l < 4611686018427387904) (R : Value → World → Prop)
    (h : ∀ w' ys, Rx bndL 35 w' d l c ys → Seg a b xs ys → Srt ys a b → Mod (rowB d) w w' → R (.tuple #[]) w') :
    Ca Tryz.prog 120 #[.slice d l c, .int .i64 a, .int .i64 b, cv] w R := by
  obtain ⟨hxl, hlc, hcm⟩ := hd.len
  refine ca120 d l c a b cv w R ?_
  refine ⟨fun x w' => ∃ (i : Nat) (ys : List Bnd), x = i ∧ a < i ∧ (i ≤ b ∨ i = a + 1) ∧ Rx bndL 35 w' d l c ys ∧ Seg a b xs ys ∧ Srt ys a (min i b) ∧ Mod (rowB d) w w',
    fun x _ => ((b : Int) - x).toNat, ⟨a + 1, xs, (by first | (simp only [IntKind.wrap_i64]; omega) | omega), by omega, .inr rfl, hd, Seg.refl _ _ _, Srt.nil _ _ _ (by omega), Mod.refl _ _⟩, ?_⟩
  rintro _ x w4 ⟨i, ys, rfl, hai, hib, hys, hseg, hsrt, hm⟩
  refine ifK_dec (fun hlt => ?_) (fun hge => ?_)
  · have hsrt : Srt ys a i := by rwa [Nat.min_eq_left (by omega)] at hsrt
    refine ⟨fun x w' => ∃ (j : Nat) (zs : List Bnd), x = j ∧ a ≤ j ∧ j ≤ i ∧ Rx bndL 35 w' d l c zs ∧ Seg a b xs zs ∧ Ins zs a i j ∧ Mod (rowB d) w w', fun x _ => (x - a).toNat,
      ⟨i, ys, rfl, by omega, Nat.le_refl _, hys, hseg, Ins.start hsrt, hm⟩, ?_⟩
    rintro _ x w9 ⟨j, zs, rfl, haj, hji, hzs, hsg, hins, hm9⟩
    have hzl := hzs.len.1
    intro w10 e10
    have m10 : Mod no w9 w10 := by subst e10; exact Mod.drew _
    clear e10
    have hz10 := hzs.no m10
    have hm10 := hm9.trans_no m10
    have next : ∀ w17, Mod no w10 w17 → (j ≤ a ∨ at0 zs (j - 1) ≤ at0 zs j) → (∃ (i' : Nat) (ys : List Bnd), IntKind.i64.wrap ((i : Int) + 1) = i' ∧ a < i' ∧ (i' ≤ b ∨ i' = a + 1) ∧ Rx bndL 35 w17 d l c ys ∧ Seg a b xs ys ∧ Srt ys a (min i' b) ∧ Mod (rowB d) w w17) ∧
        ((b : Int) - IntKind.i64.wrap ((i : Int) + 1)).toNat < ((b : Int) - i).toNat := by
      intro w17 m17 hj
      refine ⟨⟨i + 1, zs, (by first | (simp only [IntKind.wrap_i64]; omega) | omega), by omega, .inl (by omega), hz10.no m17, hsg, ?_, hm10.trans_no m17⟩, (by first | (simp only [IntKind.wrap_i64]; omega) | omega)⟩
      rw [Nat.min_eq_left (by omega)]
      exact hins.done hj
    refine ifK_dec (fun hgt => ?_) (fun hle => next w10 (Mod.refl _ _) (.inl (by omega)))
    refine lss hc hz10 j (j - 1) rfl (by first | (simp only [IntKind.wrap_i64]; omega) | omega) (by omega) (by omega) (fun hls w17 m17 => ?_) (fun hls w17 m17 => next w17 m17 (.inr (Lin.nlt hls)))
    intro w18 e18
    have m18 : Mod no w10 w18 := by subst e18; exact m17.trans (Mod.drew _)
    clear e18
    refine (hz10.no m18).swp hc.ho hc.hs j (j - 1) rfl (by first | (simp only [IntKind.wrap_i64]; omega) | omega) (by omega) (by omega) fun w28 hz28 m28 => ?_
    exact ⟨⟨j - 1, swapL zs j (j - 1), (by first | (simp only [IntKind.wrap_i64]; omega) | omega), by omega, by omega, hz28, hsg.trans (Seg.swap (by omega) (by omega) (by omega) (by omega) (by omega) (by omega)),
      hins.step (by omega) (by omega) hji hls, (hm10.trans_no m18).trans m28⟩, (by first | (simp only [IntKind.wrap_i64]; omega) | omega)⟩
  · rw [Nat.min_eq_right (by omega)] at hsrt
    exact h w4 ys hys hseg hsrt hm
end Go.Proofs.YtehhhkcemmfjpaaGreatDoor.SrtB

/- The formulas of functions, printed by a program of mine (gen.py) out of the translation. -/
namespace Go.Proofs.YtehhhkcemmfjpaaGreatDoor
open Go Go.Proofs.YtehhhkcemmfjpaaGreatDoor.St
open _root_.Go.Value (string int bool slice pointer agg tuple map func nilFunc iface)
open _root_.Go.World (cell? frozen? setCell alloc drew)
open _root_.Go.Addr (add)
open _root_.Go.Obj (cells)
open _root_.Go.IntKind (wrap i64 u64 i32 u32 u8)
set_option maxRecDepth 100000

/-- math/bits.Len64 -/
noncomputable def C119 : Code := (Tryz.f119.body).getD .skip
def pl119 : Nat → Plan := fun _ => .done
def ls119 : Nat → List (Nat × LT) := fun _ => []
def W119 (x : Int) (w : World) (R : Value → World → Prop) : Prop :=
  (ifK (decide (x ≥ 4294967296))
(((0 : Int) ≤ 32) ∧ (ifK (decide (Int.fdiv x (2 ^ 32) ≥ 65536))
(((0 : Int) ≤ 16) ∧ (ifK (decide (Int.fdiv (Int.fdiv x (2 ^ 32)) (2 ^ 16) ≥ 256))
(((0 : Int) ≤ 8) ∧ (((0 : Int) ≤ wrap u8 (Int.fdiv (Int.fdiv (Int.fdiv x (2 ^ 32)) (2 ^ 16)) (2 ^ 8))) ∧ (((wrap u8 (Int.fdiv (Int.fdiv (Int.fdiv x (2 ^ 32)) (2 ^ 16)) (2 ^ 8)) : Int) < (↑256 : Int)) ∧ (R (int i64 (wrap i64 (wrap i64 (wrap i64 (32 + 16) + 8) + wrap i64 (byteAt (ByteArray.mk #[0, 1, 2, 2, 3, 3, 3, 3, 4, 4, 4, 4, 4, 4, 4, 4, 5, 5, 5, 5, 5, 5, 5, 5, 5, 5, 5, 5, 5, 5, 5, 5, 6, 6, 6, 6, 6, 6, 6, 6, 6, 6, 6, 6, 6, 6, 6, 6, 6, 6, 6, 6, 6, 6, 6, 6, 6, 6, 6, 6, 6, 6, 6, 6, 7, 7, 7, 7, 7, 7, 7, 7, 7, 7, 7, 7, 7, 7, 7, 7, 7, 7, 7, 7, 7, 7, 7, 7, 7, 7, 7, 7, 7, 7, 7, 7, 7, 7, 7, 7, 7, 7, 7, 7, 7, 7, 7, 7, 7, 7, 7, 7, 7, 7, 7, 7, 7, 7, 7, 7, 7, 7, 7, 7, 7, 7, 7, 7, 8, 8, 8, 8, 8, 8, 8, 8, 8, 8, 8, 8, 8, 8, 8, 8, 8, 8, 8, 8, 8, 8, 8, 8, 8, 8, 8, 8, 8, 8, 8, 8, 8, 8, 8, 8, 8, 8, 8, 8, 8, 8, 8, 8, 8, 8, 8, 8, 8, 8, 8, 8, 8, 8, 8, 8, 8, 8, 8, 8, 8, 8, 8, 8, 8, 8, 8, 8, 8, 8, 8, 8, 8, 8, 8, 8, 8, 8, 8, 8, 8, 8, 8, 8, 8, 8, 8, 8, 8, 8, 8, 8, 8, 8, 8, 8, 8, 8, 8, 8, 8, 8, 8, 8, 8, 8, 8, 8, 8, 8, 8, 8, 8, 8, 8, 8, 8, 8, 8, 8, 8, 8, 8, 8, 8, 8, 8, 8]) (Int.toNat (wrap u8 (Int.fdiv (Int.fdiv (Int.fdiv x (2 ^ 32)) (2 ^ 16)) (2 ^ 8)))))))) (w)))))
(((0 : Int) ≤ wrap u8 (Int.fdiv (Int.fdiv x (2 ^ 32)) (2 ^ 16))) ∧ (((wrap u8 (Int.fdiv (Int.fdiv x (2 ^ 32)) (2 ^ 16)) : Int) < (↑256 : Int)) ∧ (R (int i64 (wrap i64 (wrap i64 (32 + 16) + wrap i64 (byteAt (ByteArray.mk #[0, 1, 2, 2, 3, 3, 3, 3, 4, 4, 4, 4, 4, 4, 4, 4, 5, 5, 5, 5, 5, 5, 5, 5, 5, 5, 5, 5, 5, 5, 5, 5, 6, 6, 6, 6, 6, 6, 6, 6, 6, 6, 6, 6, 6, 6, 6, 6, 6, 6, 6, 6, 6, 6, 6, 6, 6, 6, 6, 6, 6, 6, 6, 6, 7, 7, 7, 7, 7, 7, 7, 7, 7, 7, 7, 7, 7, 7, 7, 7, 7, 7, 7, 7, 7, 7, 7, 7, 7, 7, 7, 7, 7, 7, 7, 7, 7, 7, 7, 7, 7, 7, 7, 7, 7, 7, 7, 7, 7, 7, 7, 7, 7, 7, 7, 7, 7, 7, 7, 7, 7, 7, 7, 7, 7, 7, 7, 7, 8, 8, 8, 8, 8, 8, 8, 8, 8, 8, 8, 8, 8, 8, 8, 8, 8, 8, 8, 8, 8, 8, 8, 8, 8, 8, 8, 8, 8, 8, 8, 8, 8, 8, 8, 8, 8, 8, 8, 8, 8, 8, 8, 8, 8, 8, 8, 8, 8, 8, 8, 8, 8, 8, 8, 8, 8, 8, 8, 8, 8, 8, 8, 8, 8, 8, 8, 8, 8, 8, 8, 8, 8, 8, 8, 8, 8, 8, 8, 8, 8, 8, 8, 8, 8, 8, 8, 8, 8, 8, 8, 8, 8, 8, 8, 8, 8, 8, 8, 8, 8, 8, 8, 8, 8, 8, 8, 8, 8, 8, 8, 8, 8, 8, 8, 8, 8, 8, 8, 8, 8, 8, 8, 8, 8, 8, 8, 8]) (Int.toNat (wrap u8 (Int.fdiv (Int.fdiv x (2 ^ 32)) (2 ^ 16)))))))) (w))))))
(ifK (decide (Int.fdiv x (2 ^ 32) ≥ 256))
(((0 : Int) ≤ 8) ∧ (((0 : Int) ≤ wrap u8 (Int.fdiv (Int.fdiv x (2 ^ 32)) (2 ^ 8))) ∧ (((wrap u8 (Int.fdiv (Int.fdiv x (2 ^ 32)) (2 ^ 8)) : Int) < (↑256 : Int)) ∧ (R (int i64 (wrap i64 (wrap i64 (32 + 8) + wrap i64 (byteAt (ByteArray.mk #[0, 1, 2, 2, 3, 3, 3, 3, 4, 4, 4, 4, 4, 4, 4, 4, 5, 5, 5, 5, 5, 5, 5, 5, 5, 5, 5, 5, 5, 5, 5, 5, 6, 6, 6, 6, 6, 6, 6, 6, 6, 6, 6, 6, 6, 6, 6, 6, 6, 6, 6, 6, 6, 6, 6, 6, 6, 6, 6, 6, 6, 6, 6, 6, 7, 7, 7, 7, 7, 7, 7, 7, 7, 7, 7, 7, 7, 7, 7, 7, 7, 7, 7, 7, 7, 7, 7, 7, 7, 7, 7, 7, 7, 7, 7, 7, 7, 7, 7, 7, 7, 7, 7, 7, 7, 7, 7, 7, 7, 7, 7, 7, 7, 7, 7, 7, 7, 7, 7, 7, 7, 7, 7, 7, 7, 7, 7, 7, 8, 8, 8, 8, 8, 8, 8, 8, 8, 8, 8, 8, 8, 8, 8, 8, 8, 8, 8, 8, 8, 8, 8, 8, 8, 8, 8, 8, 8, 8, 8, 8, 8, 8, 8, 8, 8, 8, 8, 8, 8, 8, 8, 8, 8, 8, 8, 8, 8, 8, 8, 8, 8, 8, 8, 8, 8, 8, 8, 8, 8, 8, 8, 8, 8, 8, 8, 8, 8, 8, 8, 8, 8, 8, 8, 8, 8, 8, 8, 8, 8, 8, 8, 8, 8, 8, 8, 8, 8, 8, 8, 8, 8, 8, 8, 8, 8, 8, 8, 8, 8, 8, 8, 8, 8, 8, 8, 8, 8, 8, 8, 8, 8, 8, 8, 8, 8, 8, 8, 8, 8, 8, 8, 8, 8, 8, 8, 8]) (Int.toNat (wrap u8 (Int.fdiv (Int.fdiv x (2 ^ 32)) (2 ^ 8)))))))) (w)))))
(((0 : Int) ≤ wrap u8 (Int.fdiv x (2 ^ 32))) ∧ (((wrap u8 (Int.fdiv x (2 ^ 32)) : Int) < (↑256 : Int)) ∧ (R (int i64 (wrap i64 (32 + wrap i64 (byteAt (ByteArray.mk #[0, 1, 2, 2, 3, 3, 3, 3, 4, 4, 4, 4, 4, 4, 4, 4, 5, 5, 5, 5, 5, 5, 5, 5, 5, 5, 5, 5, 5, 5, 5, 5, 6, 6, 6, 6, 6, 6, 6, 6, 6, 6, 6, 6, 6, 6, 6, 6, 6, 6, 6, 6, 6, 6, 6, 6, 6, 6, 6, 6, 6, 6, 6, 6, 7, 7, 7, 7, 7, 7, 7, 7, 7, 7, 7, 7, 7, 7, 7, 7, 7, 7, 7, 7, 7, 7, 7, 7, 7, 7, 7, 7, 7, 7, 7, 7, 7, 7, 7, 7, 7, 7, 7, 7, 7, 7, 7, 7, 7, 7, 7, 7, 7, 7, 7, 7, 7, 7, 7, 7, 7, 7, 7, 7, 7, 7, 7, 7, 8, 8, 8, 8, 8, 8, 8, 8, 8, 8, 8, 8, 8, 8, 8, 8, 8, 8, 8, 8, 8, 8, 8, 8, 8, 8, 8, 8, 8, 8, 8, 8, 8, 8, 8, 8, 8, 8, 8, 8, 8, 8, 8, 8, 8, 8, 8, 8, 8, 8, 8, 8, 8, 8, 8, 8, 8, 8, 8, 8, 8, 8, 8, 8, 8, 8, 8, 8, 8, 8, 8, 8, 8, 8, 8, 8, 8, 8, 8, 8, 8, 8, 8, 8, 8, 8, 8, 8, 8, 8, 8, 8, 8, 8, 8, 8, 8, 8, 8, 8, 8, 8, 8, 8, 8, 8, 8, 8, 8, 8, 8, 8, 8, 8, 8, 8, 8, 8, 8, 8, 8, 8, 8, 8, 8, 8, 8, 8]) (Int.toNat (wrap u8 (Int.fdiv x (2 ^ 32)))))))) (w)))))))
(ifK (decide (x ≥ 65536))
(((0 : Int) ≤ 16) ∧ (ifK (decide (Int.fdiv x (2 ^ 16) ≥ 256))
(((0 : Int) ≤ 8) ∧ (((0 : Int) ≤ wrap u8 (Int.fdiv (Int.fdiv x (2 ^ 16)) (2 ^ 8))) ∧ (((wrap u8 (Int.fdiv (Int.fdiv x (2 ^ 16)) (2 ^ 8)) : Int) < (↑256 : Int)) ∧ (R (int i64 (wrap i64 (wrap i64 (wrap i64 (0 + 16) + 8) + wrap i64 (byteAt (ByteArray.mk #[0, 1, 2, 2, 3, 3, 3, 3, 4, 4, 4, 4, 4, 4, 4, 4, 5, 5, 5, 5, 5, 5, 5, 5, 5, 5, 5, 5, 5, 5, 5, 5, 6, 6, 6, 6, 6, 6, 6, 6, 6, 6, 6, 6, 6, 6, 6, 6, 6, 6, 6, 6, 6, 6, 6, 6, 6, 6, 6, 6, 6, 6, 6, 6, 7, 7, 7, 7, 7, 7, 7, 7, 7, 7, 7, 7, 7, 7, 7, 7, 7, 7, 7, 7, 7, 7, 7, 7, 7, 7, 7, 7, 7, 7, 7, 7, 7, 7, 7, 7, 7, 7, 7, 7, 7, 7, 7, 7, 7, 7, 7, 7, 7, 7, 7, 7, 7, 7, 7, 7, 7, 7, 7, 7, 7, 7, 7, 7, 8, 8, 8, 8, 8, 8, 8, 8, 8, 8, 8, 8, 8, 8, 8, 8, 8, 8, 8, 8, 8, 8, 8, 8, 8, 8, 8, 8, 8, 8, 8, 8, 8, 8, 8, 8, 8, 8, 8, 8, 8, 8, 8, 8, 8, 8, 8, 8, 8, 8, 8, 8, 8, 8, 8, 8, 8, 8, 8, 8, 8, 8, 8, 8, 8, 8, 8, 8, 8, 8, 8, 8, 8, 8, 8, 8, 8, 8, 8, 8, 8, 8, 8, 8, 8, 8, 8, 8, 8, 8, 8, 8, 8, 8, 8, 8, 8, 8, 8, 8, 8, 8, 8, 8, 8, 8, 8, 8, 8, 8, 8, 8, 8, 8, 8, 8, 8, 8, 8, 8, 8, 8, 8, 8, 8, 8, 8, 8]) (Int.toNat (wrap u8 (Int.fdiv (Int.fdiv x (2 ^ 16)) (2 ^ 8)))))))) (w)))))
(((0 : Int) ≤ wrap u8 (Int.fdiv x (2 ^ 16))) ∧ (((wrap u8 (Int.fdiv x (2 ^ 16)) : Int) < (↑256 : Int)) ∧ (R (int i64 (wrap i64 (wrap i64 (0 + 16) + wrap i64 (byteAt (ByteArray.mk #[0, 1, 2, 2, 3, 3, 3, 3, 4, 4, 4, 4, 4, 4, 4, 4, 5, 5, 5, 5, 5, 5, 5, 5, 5, 5, 5, 5, 5, 5, 5, 5, 6, 6, 6, 6, 6, 6, 6, 6, 6, 6, 6, 6, 6, 6, 6, 6, 6, 6, 6, 6, 6, 6, 6, 6, 6, 6, 6, 6, 6, 6, 6, 6, 7, 7, 7, 7, 7, 7, 7, 7, 7, 7, 7, 7, 7, 7, 7, 7, 7, 7, 7, 7, 7, 7, 7, 7, 7, 7, 7, 7, 7, 7, 7, 7, 7, 7, 7, 7, 7, 7, 7, 7, 7, 7, 7, 7, 7, 7, 7, 7, 7, 7, 7, 7, 7, 7, 7, 7, 7, 7, 7, 7, 7, 7, 7, 7, 8, 8, 8, 8, 8, 8, 8, 8, 8, 8, 8, 8, 8, 8, 8, 8, 8, 8, 8, 8, 8, 8, 8, 8, 8, 8, 8, 8, 8, 8, 8, 8, 8, 8, 8, 8, 8, 8, 8, 8, 8, 8, 8, 8, 8, 8, 8, 8, 8, 8, 8, 8, 8, 8, 8, 8, 8, 8, 8, 8, 8, 8, 8, 8, 8, 8, 8, 8, 8, 8, 8, 8, 8, 8, 8, 8, 8, 8, 8, 8, 8, 8, 8, 8, 8, 8, 8, 8, 8, 8, 8, 8, 8, 8, 8, 8, 8, 8, 8, 8, 8, 8, 8, 8, 8, 8, 8, 8, 8, 8, 8, 8, 8, 8, 8, 8, 8, 8, 8, 8, 8, 8, 8, 8, 8, 8, 8, 8]) (Int.toNat (wrap u8 (Int.fdiv x (2 ^ 16)))))))) (w))))))
(ifK (decide (x ≥ 256))
(((0 : Int) ≤ 8) ∧ (((0 : Int) ≤ wrap u8 (Int.fdiv x (2 ^ 8))) ∧ (((wrap u8 (Int.fdiv x (2 ^ 8)) : Int) < (↑256 : Int)) ∧ (R (int i64 (wrap i64 (wrap i64 (0 + 8) + wrap i64 (byteAt (ByteArray.mk #[0, 1, 2, 2, 3, 3, 3, 3, 4, 4, 4, 4, 4, 4, 4, 4, 5, 5, 5, 5, 5, 5, 5, 5, 5, 5, 5, 5, 5, 5, 5, 5, 6, 6, 6, 6, 6, 6, 6, 6, 6, 6, 6, 6, 6, 6, 6, 6, 6, 6, 6, 6, 6, 6, 6, 6, 6, 6, 6, 6, 6, 6, 6, 6, 7, 7, 7, 7, 7, 7, 7, 7, 7, 7, 7, 7, 7, 7, 7, 7, 7, 7, 7, 7, 7, 7, 7, 7, 7, 7, 7, 7, 7, 7, 7, 7, 7, 7, 7, 7, 7, 7, 7, 7, 7, 7, 7, 7, 7, 7, 7, 7, 7, 7, 7, 7, 7, 7, 7, 7, 7, 7, 7, 7, 7, 7, 7, 7, 8, 8, 8, 8, 8, 8, 8, 8, 8, 8, 8, 8, 8, 8, 8, 8, 8, 8, 8, 8, 8, 8, 8, 8, 8, 8, 8, 8, 8, 8, 8, 8, 8, 8, 8, 8, 8, 8, 8, 8, 8, 8, 8, 8, 8, 8, 8, 8, 8, 8, 8, 8, 8, 8, 8, 8, 8, 8, 8, 8, 8, 8, 8, 8, 8, 8, 8, 8, 8, 8, 8, 8, 8, 8, 8, 8, 8, 8, 8, 8, 8, 8, 8, 8, 8, 8, 8, 8, 8, 8, 8, 8, 8, 8, 8, 8, 8, 8, 8, 8, 8, 8, 8, 8, 8, 8, 8, 8, 8, 8, 8, 8, 8, 8, 8, 8, 8, 8, 8, 8, 8, 8, 8, 8, 8, 8, 8, 8]) (Int.toNat (wrap u8 (Int.fdiv x (2 ^ 8)))))))) (w)))))
(((0 : Int) ≤ wrap u8 x) ∧ (((wrap u8 x : Int) < (↑256 : Int)) ∧ (R (int i64 (wrap i64 (0 + wrap i64 (byteAt (ByteArray.mk #[0, 1, 2, 2, 3, 3, 3, 3, 4, 4, 4, 4, 4, 4, 4, 4, 5, 5, 5, 5, 5, 5, 5, 5, 5, 5, 5, 5, 5, 5, 5, 5, 6, 6, 6, 6, 6, 6, 6, 6, 6, 6, 6, 6, 6, 6, 6, 6, 6, 6, 6, 6, 6, 6, 6, 6, 6, 6, 6, 6, 6, 6, 6, 6, 7, 7, 7, 7, 7, 7, 7, 7, 7, 7, 7, 7, 7, 7, 7, 7, 7, 7, 7, 7, 7, 7, 7, 7, 7, 7, 7, 7, 7, 7, 7, 7, 7, 7, 7, 7, 7, 7, 7, 7, 7, 7, 7, 7, 7, 7, 7, 7, 7, 7, 7, 7, 7, 7, 7, 7, 7, 7, 7, 7, 7, 7, 7, 7, 8, 8, 8, 8, 8, 8, 8, 8, 8, 8, 8, 8, 8, 8, 8, 8, 8, 8, 8, 8, 8, 8, 8, 8, 8, 8, 8, 8, 8, 8, 8, 8, 8, 8, 8, 8, 8, 8, 8, 8, 8, 8, 8, 8, 8, 8, 8, 8, 8, 8, 8, 8, 8, 8, 8, 8, 8, 8, 8, 8, 8, 8, 8, 8, 8, 8, 8, 8, 8, 8, 8, 8, 8, 8, 8, 8, 8, 8, 8, 8, 8, 8, 8, 8, 8, 8, 8, 8, 8, 8, 8, 8, 8, 8, 8, 8, 8, 8, 8, 8, 8, 8, 8, 8, 8, 8, 8, 8, 8, 8, 8, 8, 8, 8, 8, 8, 8, 8, 8, 8, 8, 8, 8, 8, 8, 8, 8, 8]) (Int.toNat (wrap u8 x)))))) (w)))))))
theorem ca119 (x : Int) (w : World) (R : Value → World → Prop) (h : W119 x w R) : Ca Tryz.prog 119 ⟨[(.int .u64 x)]⟩ w R :=
  caB (fn := Tryz.f119) (pl := pl119) (ls := ls119) Tryz.func119 (by kernel_rfl) (by kernel_rfl) h

/-- math/bits.Len -/
noncomputable def C100 : Code := (Tryz.f100.body).getD .skip
def pl100 : Nat → Plan := fun _ => .done
def ls100 : Nat → List (Nat × LT) := fun _ => []
def W100 (x : Int) (w : World) (R : Value → World → Prop) : Prop :=
  (Ca Tryz.prog (119) (Array.mk [int u64 x]) (w) (fun v0 => (fun w1 =>
(∃ x2 : Int, ((v0 = int i64 x2) ∧ (R (int i64 x2) (w1)))))))
theorem ca100 (x : Int) (w : World) (R : Value → World → Prop) (h : W100 x w R) : Ca Tryz.prog 100 ⟨[(.int .u64 x)]⟩ w R :=
  caB (fn := Tryz.f100) (pl := pl100) (ls := ls100) Tryz.func100 (by kernel_rfl) (by kernel_rfl) h
end Go.Proofs.YtehhhkcemmfjpaaGreatDoor

/- The library's bits.Len: a number n comes out, and 2^n is at most twice what was asked. -/
namespace Go.Proofs.YtehhhkcemmfjpaaGreatDoor
open Go Go.Proofs.YtehhhkcemmfjpaaGreatDoor.St

theorem fdivP (x : Int) (n : Nat) : Int.fdiv x (2 ^ n) = x / 2 ^ n := Int.fdiv_eq_ediv_of_nonneg x (Int.le_of_lt (Int.pow_pos (by decide)))
def lenTab (T : ByteArray) : Bool := (List.range 256).all fun n => Nat.ble (byteAt T n).toNat 8 && (byteAt T n == ((byteAt T n).toNat : Int)) && (n == 0 || Nat.ble (2 ^ (byteAt T n).toNat) (2 * n))
theorem len_leaf {x y A : Int} {R : Value → World → Prop} {w : World} {T : ByteArray} (h : ∀ n : Nat, (0 < x → x < 18446744073709551616 → n ≤ 64 ∧ (2 : Int) ^ n ≤ 2 * x) → R (.int .i64 n) w) (hT : lenTab T = true) (N : Nat) (hA : A = N) (hN : N ≤ 56)
    (hy : 0 < x → x < 18446744073709551616 → 0 < y ∧ y < 256 ∧ 2 ^ N * y ≤ x) : R (.int .i64 (IntKind.wrap .i64 (A + IntKind.wrap .i64 (byteAt T (Int.toNat (IntKind.wrap .u8 y)))))) w := by
  have hu : (0 : Int) ≤ IntKind.wrap .u8 y ∧ IntKind.wrap .u8 y < 256 := by rw [IntKind.wrap_u8]; omega
  obtain ⟨n, hn⟩ : ∃ n : Nat, IntKind.wrap .u8 y = n := ⟨_, (Int.toNat_of_nonneg hu.1).symm⟩
  have hn' : n < 256 := by omega
  have ht := List.all_eq_true.1 hT n (List.mem_range.2 hn')
  simp only [Bool.and_eq_true, Bool.or_eq_true, beq_iff_eq, Nat.ble_eq] at ht
  obtain ⟨⟨h1, h2⟩, h3⟩ := ht
  generalize hk : (byteAt T n).toNat = k at h1 h2 h3
  have e1 : IntKind.wrap .i64 (A + IntKind.wrap .i64 (byteAt T (Int.toNat (IntKind.wrap .u8 y)))) = ((N + k : Nat) : Int) := by
    rw [hn, Int.toNat_natCast, h2, hA, wrap64 (x := (k : Int)) (by omega) (by omega), wrap64 (by omega) (by omega)]; rfl
  rw [e1]
  refine h _ fun h4 h5 => ⟨by omega, ?_⟩
  obtain ⟨h6, h7, h8⟩ := hy h4 h5
  have hyn : y = n := by rw [IntKind.wrap_u8] at hn; omega
  have h9 : (2 ^ k : Nat) ≤ 2 * n := by rcases h3 with h3 | h3 <;> omega
  have h10 : ((2 ^ k : Nat) : Int) ≤ 2 * y := by omega
  rw [Int.pow_add]
  have h11 : (2 : Int) ^ N * 2 ^ k ≤ 2 ^ N * (2 * y) := by
    refine Int.mul_le_mul_of_nonneg_left ?_ (Int.le_of_lt (Int.pow_pos (by decide)))
    simpa using h10
  have h12 : (2 : Int) ^ N * (2 * y) = 2 * (2 ^ N * y) := by rw [← Int.mul_assoc, Int.mul_comm _ 2, Int.mul_assoc]
  omega
theorem len64_ok (x : Int) (w : World) (R : Value → World → Prop) (h : ∀ n : Nat, (0 < x → x < 18446744073709551616 → n ≤ 64 ∧ 2 ^ n ≤ 2 * x) → R (.int .i64 n) w) : Ca Tryz.prog 119 #[.int .u64 x] w R := by
  refine ca119 x w R ?_
  have hu : ∀ y, (0 : Int) ≤ IntKind.wrap .u8 y ∧ IntKind.wrap .u8 y < 256 := fun y => by rw [IntKind.wrap_u8]; omega
  rw [W119]
  repeat' first
    | exact len_leaf h (by kernel_rfl) 0 (by decide) (by decide) (by first | omega | (simp only [fdivP] at *; omega))
    | exact len_leaf h (by kernel_rfl) 8 (by decide) (by decide) (by first | omega | (simp only [fdivP] at *; omega))
    | exact len_leaf h (by kernel_rfl) 16 (by decide) (by decide) (by first | omega | (simp only [fdivP] at *; omega))
    | exact len_leaf h (by kernel_rfl) 24 (by decide) (by decide) (by first | omega | (simp only [fdivP] at *; omega))
    | exact len_leaf h (by kernel_rfl) 32 (by decide) (by decide) (by first | omega | (simp only [fdivP] at *; omega))
    | exact len_leaf h (by kernel_rfl) 40 (by decide) (by decide) (by first | omega | (simp only [fdivP] at *; omega))
    | exact len_leaf h (by kernel_rfl) 48 (by decide) (by decide) (by first | omega | (simp only [fdivP] at *; omega))
    | exact len_leaf h (by kernel_rfl) 56 (by decide) (by decide) (by first | omega | (simp only [fdivP] at *; omega))
    | refine ifK_dec (fun _ => ?_) (fun _ => ?_)
    | refine ⟨by decide, ?_⟩
    | refine ⟨(hu _).1, (hu _).2, ?_⟩
theorem bitsLen_ok (x : Int) (w : World) (R : Value → World → Prop) (h : ∀ n : Nat, (0 < x → x < 18446744073709551616 → n ≤ 64 ∧ 2 ^ n ≤ 2 * x) → R (.int .i64 n) w) : Ca Tryz.prog 100 #[.int .u64 x] w R := by
  refine ca100 x w R ?_
  exact len64_ok x w _ fun n hn => ⟨n, rfl, h n hn⟩
end Go.Proofs.YtehhhkcemmfjpaaGreatDoor

/- The formulas of functions, printed by a program of mine (gen.py) out of the translation. -/
namespace Go.Proofs.YtehhhkcemmfjpaaGreatDoor
open Go Go.Proofs.YtehhhkcemmfjpaaGreatDoor.St
open _root_.Go.Value (string int bool slice pointer agg tuple map func nilFunc iface)
open _root_.Go.World (cell? frozen? setCell alloc drew)
open _root_.Go.Addr (add)
open _root_.Go.Obj (cells)
open _root_.Go.IntKind (wrap i64 u64 i32 u32 u8)
set_option maxRecDepth 100000

/-- slices.nextPowerOfTwo -/
noncomputable def C140 : Code := (Tryz.f140.body).getD .skip
def pl140 : Nat → Plan := fun _ => .done
def ls140 : Nat → List (Nat × LT) := fun _ => []
def W140 (length : Int) (w : World) (R : Value → World → Prop) : Prop :=
  (Ca Tryz.prog (100) (Array.mk [int u64 (wrap u64 length)]) (w) (fun v0 => (fun w1 =>
(∃ x2 : Int, ((v0 = int i64 x2) ∧ (((0 : Int) ≤ x2) ∧ (R (int u64 (wrap u64 (1 * 2 ^ min (Int.toNat x2) 64))) (w1))))))))
theorem ca140 (length : Int) (w : World) (R : Value → World → Prop) (h : W140 length w R) : Ca Tryz.prog 140 ⟨[(.int .i64 length)]⟩ w R :=
  caB (fn := Tryz.f140) (pl := pl140) (ls := ls140) Tryz.func140 (by kernel_rfl) (by kernel_rfl) h

/-- (*slices.xorshift).Next -/
noncomputable def C141 : Code := (Tryz.f141.body).getD .skip
def pl141 : Nat → Plan
  | 1 => (.quiet 0 (.quiet 1 (.quiet 2 (.quiet 3 (.quiet 4 (.quiet 5 (.quiet 6 (.quiet 7 (.quiet 8 (.eff 9 [] .done))))))))))
  | 2 => (.quiet 0 (.quiet 1 (.quiet 2 (.quiet 3 (.quiet 4 (.quiet 5 (.quiet 6 (.quiet 7 (.quiet 8 (.eff 9 [] .done))))))))))
  | 3 => (.quiet 0 (.quiet 1 (.quiet 2 (.quiet 3 (.quiet 4 (.quiet 5 (.quiet 6 (.quiet 7 (.quiet 8 (.eff 9 [] .done))))))))))
  | _ => .done
def ls141 : Nat → List (Nat × LT) := fun _ => []
def W141 (r : Option Addr) (w : World) (R : Value → World → Prop) : Prop :=
  (atW (drew w) (fun w0 =>
(onP (r) (fun a1 =>
(∃ x2 : Int, ((cell? w0 a1 = some (int u64 x2)) ∧ (onP (r) (fun a3 =>
(∃ x4 : Int, ((cell? w0 a3 = some (int u64 x4)) ∧ (((0 : Int) ≤ 13) ∧ (onP (r) (fun a5 =>
((∃ v6 : Value, (cell? w0 (add a5 0) = some v6)) ∧ ((frozen? w0 (add a5 0) = false) ∧ (atW (setCell w0 (add a5 0) (int u64 (wrap u64 (↑(BitVec.toNat (BitVec.ofInt 64 x2 ^^^ BitVec.ofInt 64 (wrap u64 (x4 * 2 ^ 13)))) : Int)))) (fun w7 =>
(atW (drew w7) (fun w8 =>
(onP (r) (fun a9 =>
(∃ x10 : Int, ((cell? w8 a9 = some (int u64 x10)) ∧ (onP (r) (fun a11 =>
(∃ x12 : Int, ((cell? w8 a11 = some (int u64 x12)) ∧ (((0 : Int) ≤ 7) ∧ (onP (r) (fun a13 =>
((∃ v14 : Value, (cell? w8 (add a13 0) = some v14)) ∧ ((frozen? w8 (add a13 0) = false) ∧ (atW (setCell w8 (add a13 0) (int u64 (wrap u64 (↑(BitVec.toNat (BitVec.ofInt 64 x10 ^^^ BitVec.ofInt 64 (Int.fdiv x12 (2 ^ 7)))) : Int)))) (fun w15 =>
(atW (drew w15) (fun w16 =>
(onP (r) (fun a17 =>
(∃ x18 : Int, ((cell? w16 a17 = some (int u64 x18)) ∧ (onP (r) (fun a19 =>
(∃ x20 : Int, ((cell? w16 a19 = some (int u64 x20)) ∧ (((0 : Int) ≤ 17) ∧ (onP (r) (fun a21 =>
((∃ v22 : Value, (cell? w16 (add a21 0) = some v22)) ∧ ((frozen? w16 (add a21 0) = false) ∧ (atW (setCell w16 (add a21 0) (int u64 (wrap u64 (↑(BitVec.toNat (BitVec.ofInt 64 x18 ^^^ BitVec.ofInt 64 (wrap u64 (x20 * 2 ^ 17)))) : Int)))) (fun w23 =>
(onP (r) (fun a24 =>
(∃ x25 : Int, ((cell? w23 a24 = some (int u64 x25)) ∧ (R (int u64 x25) (w23)))))))))))))))))))))))))))))))))))))))))))))))))))))))))
theorem ca141 (r : Option Addr) (w : World) (R : Value → World → Prop) (h : W141 r w R) : Ca Tryz.prog 141 ⟨[(.pointer r)]⟩ w R :=
  caB (fn := Tryz.f141) (pl := pl141) (ls := ls141) Tryz.func141 (by kernel_rfl) (by kernel_rfl) h
end Go.Proofs.YtehhhkcemmfjpaaGreatDoor

/- The formulas of functions, printed by a program of mine (gen.py) out of the translation. -/
namespace Go.Proofs.YtehhhkcemmfjpaaGreatDoor
open Go Go.Proofs.YtehhhkcemmfjpaaGreatDoor.St
open _root_.Go.Value (string int bool slice pointer agg tuple map func nilFunc iface)
open _root_.Go.World (cell? frozen? setCell alloc drew)
open _root_.Go.Addr (add)
open _root_.Go.Obj (cells)
open _root_.Go.IntKind (wrap i64 u64 i32 u32 u8)
set_option maxRecDepth 100000

/-- slices.order2CmpFunc[staith/api.Binding] -/
noncomputable def C152 : Code := (Tryz.f152.body).getD .skip
def pl152 : Nat → Plan
  | 1 => (.quiet 0 (.quiet 1 (.quiet 2 (.quiet 3 (.quiet 4 (.quiet 5 (.quiet 6 (.quiet 7 (.quiet 8 (.eff 9 [] (.quiet 10 .done)))))))))))
  | _ => .done
def ls152 : Nat → List (Nat × LT) := fun _ => []
def W152 (dataa : Option Addr) (datal : Nat) (_datac : Nat) (a_ : Int) (b : Int) (swaps : Option Addr) (cmp : Value) (w : World) (R : Value → World → Prop) : Prop :=
  (atW (drew w) (fun w0 =>
(∃ a1 : Addr, ((dataa = some a1) ∧ (((0 : Int) ≤ b) ∧ (((b : Int) < (↑datal : Int)) ∧ (ldW Tryz.prog 35 (pointer (some (add a1 (Int.toNat b * 3)))) (w0) (fun v2 =>
(∃ a3 : Addr, ((dataa = some a3) ∧ (((0 : Int) ≤ a_) ∧ (((a_ : Int) < (↑datal : Int)) ∧ (ldW Tryz.prog 35 (pointer (some (add a3 (Int.toNat a_ * 3)))) (w0) (fun v4 =>
(CaV Tryz.prog (cmp) (Array.mk [v2, v4]) (w0) (fun v5 => (fun w6 =>
(∃ x7 : Int, ((v5 = int i64 x7) ∧ (ifK (decide (x7 < 0))
(onP (swaps) (fun a8 =>
(∃ x9 : Int, ((cell? w6 a8 = some (int i64 x9)) ∧ (onP (swaps) (fun a10 =>
(st1 (add a10 0) (int i64 (wrap i64 (x9 + 1))) w6 (fun w12 =>
(R (tuple (Array.mk [int i64 b, int i64 a_])) (w12))))))))))
(R (tuple (Array.mk [int i64 a_, int i64 b])) (w6))))))))))))))))))))))
theorem ca152 (dataa : Option Addr) (datal : Nat) (datac : Nat) (a_ : Int) (b : Int) (swaps : Option Addr) (cmp : Value) (w : World) (R : Value → World → Prop) (h : W152 dataa datal datac a_ b swaps cmp w R) : Ca Tryz.prog 152 ⟨[(.slice dataa datal datac), (.int .i64 a_), (.int .i64 b), (.pointer swaps), cmp]⟩ w R :=
  caB (fn := Tryz.f152) (pl := pl152) (ls := ls152) Tryz.func152 (by kernel_rfl) (by kernel_rfl) h

/-- slices.medianCmpFunc[staith/api.Binding] -/
noncomputable def C146 : Code := (Tryz.f146.body).getD .skip
def pl146 : Nat → Plan := fun _ => .done
def ls146 : Nat → List (Nat × LT) := fun _ => []
def W146 (dataa : Option Addr) (datal : Nat) (datac : Nat) (a_ : Int) (b : Int) (c : Int) (swaps : Option Addr) (cmp : Value) (w : World) (R : Value → World → Prop) : Prop :=
  (Ca Tryz.prog (152) (Array.mk [slice dataa datal datac, int i64 a_, int i64 b, pointer swaps, cmp]) (w) (fun v0 => (fun w1 =>
(∃ x2 : Int, (∃ x3 : Int, ((v0 = tuple (Array.mk (List.reverse [int i64 x3, int i64 x2]))) ∧ (Ca Tryz.prog (152) (Array.mk [slice dataa datal datac, int i64 x3, int i64 c, pointer swaps, cmp]) (w1) (fun v4 => (fun w5 =>
(∃ x6 : Int, (∃ x7 : Int, ((v4 = tuple (Array.mk (List.reverse [int i64 x7, int i64 x6]))) ∧ (Ca Tryz.prog (152) (Array.mk [slice dataa datal datac, int i64 x2, int i64 x6, pointer swaps, cmp]) (w5) (fun v8 => (fun w9 =>
(∃ x10 : Int, (∃ x11 : Int, ((v8 = tuple (Array.mk (List.reverse [int i64 x11, int i64 x10]))) ∧ (R (int i64 x11) (w9))))))))))))))))))))
theorem ca146 (dataa : Option Addr) (datal : Nat) (datac : Nat) (a_ : Int) (b : Int) (c : Int) (swaps : Option Addr) (cmp : Value) (w : World) (R : Value → World → Prop) (h : W146 dataa datal datac a_ b c swaps cmp w R) : Ca Tryz.prog 146 ⟨[(.slice dataa datal datac), (.int .i64 a_), (.int .i64 b), (.int .i64 c), (.pointer swaps), cmp]⟩ w R :=
  caB (fn := Tryz.f146) (pl := pl146) (ls := ls146) Tryz.func146 (by kernel_rfl) (by kernel_rfl) h

/-- slices.medianAdjacentCmpFunc[staith/api.Binding] -/
noncomputable def C145 : Code := (Tryz.f145.body).getD .skip
def pl145 : Nat → Plan := fun _ => .done
def ls145 : Nat → List (Nat × LT) := fun _ => []
def W145 (dataa : Option Addr) (datal : Nat) (datac : Nat) (a_ : Int) (swaps : Option Addr) (cmp : Value) (w : World) (R : Value → World → Prop) : Prop :=
  (Ca Tryz.prog (146) (Array.mk [slice dataa datal datac, int i64 (wrap i64 (a_ - 1)), int i64 a_, int i64 (wrap i64 (a_ + 1)), pointer swaps, cmp]) (w) (fun v0 => (fun w1 =>
(∃ x2 : Int, ((v0 = int i64 x2) ∧ (R (int i64 x2) (w1)))))))
theorem ca145 (dataa : Option Addr) (datal : Nat) (datac : Nat) (a_ : Int) (swaps : Option Addr) (cmp : Value) (w : World) (R : Value → World → Prop) (h : W145 dataa datal datac a_ swaps cmp w R) : Ca Tryz.prog 145 ⟨[(.slice dataa datal datac), (.int .i64 a_), (.pointer swaps), cmp]⟩ w R :=
  caB (fn := Tryz.f145) (pl := pl145) (ls := ls145) Tryz.func145 (by kernel_rfl) (by kernel_rfl) h

/-- slices.choosePivotCmpFunc[staith/api.Binding] -/
noncomputable def C123 : Code := (Tryz.f123.body).getD .skip
def pl123 : Nat → Plan := fun _ => .done
def ls123 : Nat → List (Nat × LT)
  | 6 => [(0, .agg []), (13, (.one (.int .i64)))]
  | _ => []
def W123 (dataa : Option Addr) (datal : Nat) (datac : Nat) (a_ : Int) (b : Int) (cmp : Value) (w : World) (R : Value → World → Prop) : Prop :=
  (atW (alloc w (cells (Array.mk [int i64 0]) 3 (0, 0))) (fun w0 =>
(((4 : Int) ≠ 0) ∧ (((4 : Int) ≠ 0) ∧ (((4 : Int) ≠ 0) ∧ (∃ z1 : Int → World → Prop, ((ifK (decide (wrap i64 (b - a_) ≥ 8))
(ifK (decide (wrap i64 (b - a_) ≥ 50))
(Ca Tryz.prog (145) (Array.mk [slice dataa datal datac, int i64 (wrap i64 (a_ + wrap i64 (wrap i64 (Int.tdiv (wrap i64 (b - a_)) 4) * 1))), pointer (some (nw w)), cmp]) (w0) (fun v2 => (fun w3 =>
(∃ x4 : Int, ((v2 = int i64 x4) ∧ (Ca Tryz.prog (145) (Array.mk [slice dataa datal datac, int i64 (wrap i64 (a_ + wrap i64 (wrap i64 (Int.tdiv (wrap i64 (b - a_)) 4) * 2))), pointer (some (nw w)), cmp]) (w3) (fun v5 => (fun w6 =>
(∃ x7 : Int, ((v5 = int i64 x7) ∧ (Ca Tryz.prog (145) (Array.mk [slice dataa datal datac, int i64 (wrap i64 (a_ + wrap i64 (wrap i64 (Int.tdiv (wrap i64 (b - a_)) 4) * 3))), pointer (some (nw w)), cmp]) (w6) (fun v8 => (fun w9 =>
(∃ x10 : Int, ((v8 = int i64 x10) ∧ (Ca Tryz.prog (146) (Array.mk [slice dataa datal datac, int i64 x4, int i64 x7, int i64 x10, pointer (some (nw w)), cmp]) (w9) (fun v11 => (fun w12 =>
(∃ x13 : Int, ((v11 = int i64 x13) ∧ (z1 (x13) (w12))))))))))))))))))))))
(Ca Tryz.prog (146) (Array.mk [slice dataa datal datac, int i64 (wrap i64 (a_ + wrap i64 (wrap i64 (Int.tdiv (wrap i64 (b - a_)) 4) * 1))), int i64 (wrap i64 (a_ + wrap i64 (wrap i64 (Int.tdiv (wrap i64 (b - a_)) 4) * 2))), int i64 (wrap i64 (a_ + wrap i64 (wrap i64 (Int.tdiv (wrap i64 (b - a_)) 4) * 3))), pointer (some (nw w)), cmp]) (w0) (fun v14 => (fun w15 =>
(∃ x16 : Int, ((v14 = int i64 x16) ∧ (z1 (x16) (w15))))))))
(z1 (wrap i64 (a_ + wrap i64 (wrap i64 (Int.tdiv (wrap i64 (b - a_)) 4) * 2))) (w0))) ∧ (∀ (_ : Nat → Value), (∀ (x18 : Int), (∀ (w19 : World), ((z1 (x18) (w19)) → (∃ x20 : Int, ((cell? w19 (nw w) = some (int i64 x20)) ∧ (ifK (x20 == 0)
(R (tuple (Array.mk [int i64 x18, int i64 1])) (w19))
(ifK (x20 == 12)
(R (tuple (Array.mk [int i64 x18, int i64 2])) (w19))
(R (tuple (Array.mk [int i64 x18, int i64 0])) (w19)))))))))))))))))
theorem ca123 (dataa : Option Addr) (datal : Nat) (datac : Nat) (a_ : Int) (b : Int) (cmp : Value) (w : World) (R : Value → World → Prop) (h : W123 dataa datal datac a_ b cmp w R) : Ca Tryz.prog 123 ⟨[(.slice dataa datal datac), (.int .i64 a_), (.int .i64 b), cmp]⟩ w R :=
  caB (fn := Tryz.f123) (pl := pl123) (ls := ls123) Tryz.func123 (by kernel_rfl) (by kernel_rfl) h

/-- slices.reverseRangeCmpFunc[staith/api.Binding] -/
noncomputable def C124 : Code := (Tryz.f124.body).getD .skip
def pl124 : Nat → Plan
  | 3 => (.quiet 0 (.quiet 1 (.quiet 2 (.quiet 3 (.quiet 4 (.quiet 5 (.quiet 6 (.quiet 7 (.quiet 8 (.quiet 9 (.quiet 10 (.quiet 11 (.quiet 12 (.eff 13 [] (.quiet 14 (.eff 15 [] .done))))))))))))))))
  | _ => .done
def ls124 : Nat → List (Nat × LT)
  | 2 => [(8, (.one (.int .i64))), (9, (.one (.int .i64)))]
  | _ => []
def W124 (dataa : Option Addr) (datal : Nat) (_datac : Nat) (a_ : Int) (b : Int) (_cmp : Value) (w : World) (R : Value → World → Prop) : Prop :=
  (∃ z0 : Int → Int → World → Prop, (∃ z1 : Int → Int → World → Nat, ((z0 (a_) (wrap i64 (b - 1)) (w)) ∧ (∀ (_ : Nat → Value), (∀ (x3 : Int), (∀ (x4 : Int), (∀ (w5 : World), ((z0 (x3) (x4) (w5)) → (ifK (decide (x3 < x4))
(atW (drew w5) (fun w6 =>
(∃ a7 : Addr, ((dataa = some a7) ∧ (((0 : Int) ≤ x4) ∧ (((x4 : Int) < (↑datal : Int)) ∧ (ldW Tryz.prog 35 (pointer (some (add a7 (Int.toNat x4 * 3)))) (w6) (fun v8 =>
(∃ a9 : Addr, ((dataa = some a9) ∧ (((0 : Int) ≤ x3) ∧ (((x3 : Int) < (↑datal : Int)) ∧ (ldW Tryz.prog 35 (pointer (some (add a9 (Int.toNat x3 * 3)))) (w6) (fun v10 =>
(∃ a11 : Addr, ((dataa = some a11) ∧ (((0 : Int) ≤ x3) ∧ (((x3 : Int) < (↑datal : Int)) ∧ (stW Tryz.prog 35 (pointer (some (add a11 (Int.toNat x3 * 3)))) (v8) (w6) (fun w12 =>
(∃ a13 : Addr, ((dataa = some a13) ∧ (((0 : Int) ≤ x4) ∧ (((x4 : Int) < (↑datal : Int)) ∧ (stW Tryz.prog 35 (pointer (some (add a13 (Int.toNat x4 * 3)))) (v10) (w12) (fun w14 =>
((z0 (wrap i64 (x3 + 1)) (wrap i64 (x4 - 1)) (w14)) ∧ (z1 (wrap i64 (x3 + 1)) (wrap i64 (x4 - 1)) w14 < z1 x3 x4 w5))))))))))))))))))))))))))))
(R (tuple (Array.mk (List.reverse []))) (w5)))))))))))
theorem ca124 (dataa : Option Addr) (datal : Nat) (datac : Nat) (a_ : Int) (b : Int) (cmp : Value) (w : World) (R : Value → World → Prop) (h : W124 dataa datal datac a_ b cmp w R) : Ca Tryz.prog 124 ⟨[(.slice dataa datal datac), (.int .i64 a_), (.int .i64 b), cmp]⟩ w R :=
  caB (fn := Tryz.f124) (pl := pl124) (ls := ls124) Tryz.func124 (by kernel_rfl) (by kernel_rfl) h

/-- slices.partitionCmpFunc[staith/api.Binding] -/
noncomputable def C127 : Code := (Tryz.f127.body).getD .skip
def pl127 : Nat → Plan
  | 1 => (.quiet 0 (.quiet 1 (.quiet 2 (.quiet 3 (.quiet 4 (.quiet 5 (.quiet 6 (.quiet 7 (.quiet 8 (.quiet 9 (.quiet 10 (.quiet 11 (.quiet 12 (.eff 13 [] (.quiet 14 (.eff 15 [] .done))))))))))))))))
  | 3 => (.quiet 0 (.quiet 1 (.quiet 2 (.quiet 3 (.quiet 4 (.quiet 5 (.quiet 6 (.quiet 7 (.quiet 8 (.quiet 9 (.quiet 10 (.quiet 11 (.quiet 12 (.eff 13 [] (.quiet 14 (.quiet 15 .done))))))))))))))))
  | 5 => (.quiet 0 (.quiet 1 (.quiet 2 (.quiet 3 (.quiet 4 (.quiet 5 (.quiet 6 (.quiet 7 (.quiet 8 (.quiet 9 (.quiet 10 (.quiet 11 (.quiet 12 (.eff 13 [] (.quiet 14 (.quiet 15 (.quiet 16 .done)))))))))))))))))
  | 8 => (.quiet 0 (.quiet 1 (.quiet 2 (.quiet 3 (.quiet 4 (.quiet 5 (.quiet 6 (.quiet 7 (.quiet 8 (.quiet 9 (.quiet 10 (.quiet 11 (.quiet 12 (.eff 13 [] (.quiet 14 (.eff 15 [] .done))))))))))))))))
  | 10 => (.quiet 0 (.quiet 1 (.quiet 2 (.quiet 3 (.quiet 4 (.quiet 5 (.quiet 6 (.quiet 7 (.quiet 8 (.quiet 9 (.quiet 10 (.quiet 11 (.quiet 12 (.eff 13 [] (.quiet 14 (.eff 15 [] .done))))))))))))))))
  | 13 => (.quiet 0 (.quiet 1 (.quiet 2 (.quiet 3 (.quiet 4 (.quiet 5 (.quiet 6 (.quiet 7 (.quiet 8 (.quiet 9 (.quiet 10 (.quiet 11 (.quiet 12 (.eff 13 [] (.quiet 14 (.quiet 15 .done))))))))))))))))
  | 15 => (.quiet 0 (.quiet 1 (.quiet 2 (.quiet 3 (.quiet 4 (.quiet 5 (.quiet 6 (.quiet 7 (.quiet 8 (.quiet 9 (.quiet 10 (.quiet 11 (.quiet 12 (.eff 13 [] (.quiet 14 (.quiet 15 (.quiet 16 .done)))))))))))))))))
  | 18 => (.quiet 0 (.quiet 1 (.quiet 2 (.quiet 3 (.quiet 4 (.quiet 5 (.quiet 6 (.quiet 7 (.quiet 8 (.quiet 9 (.quiet 10 (.quiet 11 (.quiet 12 (.eff 13 [] (.quiet 14 (.eff 15 [] .done))))))))))))))))
  | 21 => (.quiet 0 (.quiet 1 (.quiet 2 (.quiet 3 (.quiet 4 (.quiet 5 (.quiet 6 (.quiet 7 (.quiet 8 (.quiet 9 (.quiet 10 (.quiet 11 (.quiet 12 (.eff 13 [] (.quiet 14 (.eff 15 [] .done))))))))))))))))
  | _ => .done
def ls127 : Nat → List (Nat × LT)
  | 3 => [(0, .agg []), (12, (.one (.int .i64)))]
  | 4 => [(12, (.one (.int .i64)))]
  | 7 => [(0, .agg []), (13, (.one (.int .i64)))]
  | 8 => [(13, (.one (.int .i64)))]
  | 19 => [(12, (.one (.int .i64))), (13, (.one (.int .i64)))]
  | 20 => [(0, .agg []), (12, (.one (.int .i64)))]
  | 21 => [(12, (.one (.int .i64)))]
  | 24 => [(0, .agg []), (13, (.one (.int .i64)))]
  | 25 => [(13, (.one (.int .i64)))]
  | _ => []
def W127 (dataa : Option Addr) (datal : Nat) (_datac : Nat) (a_ : Int) (b : Int) (pivot : Int) (cmp : Value) (w : World) (R : Value → World → Prop) : Prop :=
  (atW (drew w) (fun w0 =>
(∃ a1 : Addr, ((dataa = some a1) ∧ (((0 : Int) ≤ pivot) ∧ (((pivot : Int) < (↑datal : Int)) ∧ (ldW Tryz.prog 35 (pointer (some (add a1 (Int.toNat pivot * 3)))) (w0) (fun v2 =>
(∃ a3 : Addr, ((dataa = some a3) ∧ (((0 : Int) ≤ a_) ∧ (((a_ : Int) < (↑datal : Int)) ∧ (ldW Tryz.prog 35 (pointer (some (add a3 (Int.toNat a_ * 3)))) (w0) (fun v4 =>
(∃ a5 : Addr, ((dataa = some a5) ∧ (((0 : Int) ≤ a_) ∧ (((a_ : Int) < (↑datal : Int)) ∧ (stW Tryz.prog 35 (pointer (some (add a5 (Int.toNat a_ * 3)))) (v2) (w0) (fun w6 =>
(∃ a7 : Addr, ((dataa = some a7) ∧ (((0 : Int) ≤ pivot) ∧ (((pivot : Int) < (↑datal : Int)) ∧ (stW Tryz.prog 35 (pointer (some (add a7 (Int.toNat pivot * 3)))) (v4) (w6) (fun w8 =>
(∃ z9 : Int → World → Prop, ((∃ z10 : Int → World → Prop, (∃ z11 : Int → World → Nat, ((z10 (wrap i64 (a_ + 1)) (w8)) ∧ (∀ (_ : Nat → Value), (∀ (x13 : Int), (∀ (w14 : World), ((z10 (x13) (w14)) → (atW (drew w14) (fun w15 =>
(ifK (decide (x13 ≤ wrap i64 (b - 1)))
(∃ a16 : Addr, ((dataa = some a16) ∧ (((0 : Int) ≤ x13) ∧ (((x13 : Int) < (↑datal : Int)) ∧ (ldW Tryz.prog 35 (pointer (some (add a16 (Int.toNat x13 * 3)))) (w15) (fun v17 =>
(∃ a18 : Addr, ((dataa = some a18) ∧ (((0 : Int) ≤ a_) ∧ (((a_ : Int) < (↑datal : Int)) ∧ (ldW Tryz.prog 35 (pointer (some (add a18 (Int.toNat a_ * 3)))) (w15) (fun v19 =>
(CaV Tryz.prog (cmp) (Array.mk [v17, v19]) (w15) (fun v20 => (fun w21 =>
(∃ x22 : Int, ((v20 = int i64 x22) ∧ (ifK (decide (x22 < 0))
((z10 (wrap i64 (x13 + 1)) (w21)) ∧ (z11 (wrap i64 (x13 + 1)) w21 < z11 x13 w14))
(z9 (x13) (w21))))))))))))))))))))
(z9 (x13) (w15)))))))))))) ∧ (∀ (_ : Nat → Value), (∀ (x24 : Int), (∀ (w25 : World), ((z9 (x24) (w25)) → (∃ z26 : Int → World → Prop, ((∃ z27 : Int → World → Prop, (∃ z28 : Int → World → Nat, ((z27 (wrap i64 (b - 1)) (w25)) ∧ (∀ (_ : Nat → Value), (∀ (x30 : Int), (∀ (w31 : World), ((z27 (x30) (w31)) → (atW (drew w31) (fun w32 =>
(ifK (decide (x24 ≤ x30))
(∃ a33 : Addr, ((dataa = some a33) ∧ (((0 : Int) ≤ x30) ∧ (((x30 : Int) < (↑datal : Int)) ∧ (ldW Tryz.prog 35 (pointer (some (add a33 (Int.toNat x30 * 3)))) (w32) (fun v34 =>
(∃ a35 : Addr, ((dataa = some a35) ∧ (((0 : Int) ≤ a_) ∧ (((a_ : Int) < (↑datal : Int)) ∧ (ldW Tryz.prog 35 (pointer (some (add a35 (Int.toNat a_ * 3)))) (w32) (fun v36 =>
(CaV Tryz.prog (cmp) (Array.mk [v34, v36]) (w32) (fun v37 => (fun w38 =>
(∃ x39 : Int, ((v37 = int i64 x39) ∧ (ifK (!decide (x39 < 0))
((z27 (wrap i64 (x30 - 1)) (w38)) ∧ (z28 (wrap i64 (x30 - 1)) w38 < z28 x30 w31))
(z26 (x30) (w38))))))))))))))))))))
(z26 (x30) (w32)))))))))))) ∧ (∀ (_ : Nat → Value), (∀ (x41 : Int), (∀ (w42 : World), ((z26 (x41) (w42)) → (ifK (decide (x24 > x41))
(atW (drew w42) (fun w43 =>
(∃ a44 : Addr, ((dataa = some a44) ∧ (((0 : Int) ≤ a_) ∧ (((a_ : Int) < (↑datal : Int)) ∧ (ldW Tryz.prog 35 (pointer (some (add a44 (Int.toNat a_ * 3)))) (w43) (fun v45 =>
(∃ a46 : Addr, ((dataa = some a46) ∧ (((0 : Int) ≤ x41) ∧ (((x41 : Int) < (↑datal : Int)) ∧ (ldW Tryz.prog 35 (pointer (some (add a46 (Int.toNat x41 * 3)))) (w43) (fun v47 =>
(∃ a48 : Addr, ((dataa = some a48) ∧ (((0 : Int) ≤ x41) ∧ (((x41 : Int) < (↑datal : Int)) ∧ (stW Tryz.prog 35 (pointer (some (add a48 (Int.toNat x41 * 3)))) (v45) (w43) (fun w49 =>
(∃ a50 : Addr, ((dataa = some a50) ∧ (((0 : Int) ≤ a_) ∧ (((a_ : Int) < (↑datal : Int)) ∧ (stW Tryz.prog 35 (pointer (some (add a50 (Int.toNat a_ * 3)))) (v47) (w49) (fun w51 =>
(R (tuple (Array.mk [int i64 x41, bool true])) (w51))))))))))))))))))))))))))))
(atW (drew w42) (fun w52 =>
(∃ a53 : Addr, ((dataa = some a53) ∧ (((0 : Int) ≤ x41) ∧ (((x41 : Int) < (↑datal : Int)) ∧ (ldW Tryz.prog 35 (pointer (some (add a53 (Int.toNat x41 * 3)))) (w52) (fun v54 =>
(∃ a55 : Addr, ((dataa = some a55) ∧ (((0 : Int) ≤ x24) ∧ (((x24 : Int) < (↑datal : Int)) ∧ (ldW Tryz.prog 35 (pointer (some (add a55 (Int.toNat x24 * 3)))) (w52) (fun v56 =>
(∃ a57 : Addr, ((dataa = some a57) ∧ (((0 : Int) ≤ x24) ∧ (((x24 : Int) < (↑datal : Int)) ∧ (stW Tryz.prog 35 (pointer (some (add a57 (Int.toNat x24 * 3)))) (v54) (w52) (fun w58 =>
(∃ a59 : Addr, ((dataa = some a59) ∧ (((0 : Int) ≤ x41) ∧ (((x41 : Int) < (↑datal : Int)) ∧ (stW Tryz.prog 35 (pointer (some (add a59 (Int.toNat x41 * 3)))) (v56) (w58) (fun w60 =>
(∃ z61 : Int → Int → World → Prop, (∃ z62 : Int → Int → World → Nat, ((z61 (wrap i64 (x24 + 1)) (wrap i64 (x41 - 1)) (w60)) ∧ (∀ (_ : Nat → Value), (∀ (x64 : Int), (∀ (x65 : Int), (∀ (w66 : World), ((z61 (x64) (x65) (w66)) → (∃ z67 : Int → World → Prop, ((∃ z68 : Int → World → Prop, (∃ z69 : Int → World → Nat, ((z68 (x64) (w66)) ∧ (∀ (_ : Nat → Value), (∀ (x71 : Int), (∀ (w72 : World), ((z68 (x71) (w72)) → (atW (drew w72) (fun w73 =>
(ifK (decide (x71 ≤ x65))
(∃ a74 : Addr, ((dataa = some a74) ∧ (((0 : Int) ≤ x71) ∧ (((x71 : Int) < (↑datal : Int)) ∧ (ldW Tryz.prog 35 (pointer (some (add a74 (Int.toNat x71 * 3)))) (w73) (fun v75 =>
(∃ a76 : Addr, ((dataa = some a76) ∧ (((0 : Int) ≤ a_) ∧ (((a_ : Int) < (↑datal : Int)) ∧ (ldW Tryz.prog 35 (pointer (some (add a76 (Int.toNat a_ * 3)))) (w73) (fun v77 =>
(CaV Tryz.prog (cmp) (Array.mk [v75, v77]) (w73) (fun v78 => (fun w79 =>
(∃ x80 : Int, ((v78 = int i64 x80) ∧ (ifK (decide (x80 < 0))
((z68 (wrap i64 (x71 + 1)) (w79)) ∧ (z69 (wrap i64 (x71 + 1)) w79 < z69 x71 w72))
(z67 (x71) (w79))))))))))))))))))))
(z67 (x71) (w73)))))))))))) ∧ (∀ (_ : Nat → Value), (∀ (x82 : Int), (∀ (w83 : World), ((z67 (x82) (w83)) → (∃ z84 : Int → World → Prop, ((∃ z85 : Int → World → Prop, (∃ z86 : Int → World → Nat, ((z85 (x65) (w83)) ∧ (∀ (_ : Nat → Value), (∀ (x88 : Int), (∀ (w89 : World), ((z85 (x88) (w89)) → (atW (drew w89) (fun w90 =>
(ifK (decide (x82 ≤ x88))
(∃ a91 : Addr, ((dataa = some a91) ∧ (((0 : Int) ≤ x88) ∧ (((x88 : Int) < (↑datal : Int)) ∧ (ldW Tryz.prog 35 (pointer (some (add a91 (Int.toNat x88 * 3)))) (w90) (fun v92 =>
(∃ a93 : Addr, ((dataa = some a93) ∧ (((0 : Int) ≤ a_) ∧ (((a_ : Int) < (↑datal : Int)) ∧ (ldW Tryz.prog 35 (pointer (some (add a93 (Int.toNat a_ * 3)))) (w90) (fun v94 =>
(CaV Tryz.prog (cmp) (Array.mk [v92, v94]) (w90) (fun v95 => (fun w96 =>
(∃ x97 : Int, ((v95 = int i64 x97) ∧ (ifK (!decide (x97 < 0))
((z85 (wrap i64 (x88 - 1)) (w96)) ∧ (z86 (wrap i64 (x88 - 1)) w96 < z86 x88 w89))
(z84 (x88) (w96))))))))))))))))))))
(z84 (x88) (w90)))))))))))) ∧ (∀ (_ : Nat → Value), (∀ (x99 : Int), (∀ (w100 : World), ((z84 (x99) (w100)) → (ifK (decide (x82 > x99))
(atW (drew w100) (fun w101 =>
(∃ a102 : Addr, ((dataa = some a102) ∧ (((0 : Int) ≤ a_) ∧ (((a_ : Int) < (↑datal : Int)) ∧ (ldW Tryz.prog 35 (pointer (some (add a102 (Int.toNat a_ * 3)))) (w101) (fun v103 =>
(∃ a104 : Addr, ((dataa = some a104) ∧ (((0 : Int) ≤ x99) ∧ (((x99 : Int) < (↑datal : Int)) ∧ (ldW Tryz.prog 35 (pointer (some (add a104 (Int.toNat x99 * 3)))) (w101) (fun v105 =>
(∃ a106 : Addr, ((dataa = some a106) ∧ (((0 : Int) ≤ x99) ∧ (((x99 : Int) < (↑datal : Int)) ∧ (stW Tryz.prog 35 (pointer (some (add a106 (Int.toNat x99 * 3)))) (v103) (w101) (fun w107 =>
(∃ a108 : Addr, ((dataa = some a108) ∧ (((0 : Int) ≤ a_) ∧ (((a_ : Int) < (↑datal : Int)) ∧ (stW Tryz.prog 35 (pointer (some (add a108 (Int.toNat a_ * 3)))) (v105) (w107) (fun w109 =>
(R (tuple (Array.mk [int i64 x99, bool false])) (w109))))))))))))))))))))))))))))
(atW (drew w100) (fun w110 =>
(∃ a111 : Addr, ((dataa = some a111) ∧ (((0 : Int) ≤ x99) ∧ (((x99 : Int) < (↑datal : Int)) ∧ (ldW Tryz.prog 35 (pointer (some (add a111 (Int.toNat x99 * 3)))) (w110) (fun v112 =>
(∃ a113 : Addr, ((dataa = some a113) ∧ (((0 : Int) ≤ x82) ∧ (((x82 : Int) < (↑datal : Int)) ∧ (ldW Tryz.prog 35 (pointer (some (add a113 (Int.toNat x82 * 3)))) (w110) (fun v114 =>
(∃ a115 : Addr, ((dataa = some a115) ∧ (((0 : Int) ≤ x82) ∧ (((x82 : Int) < (↑datal : Int)) ∧ (stW Tryz.prog 35 (pointer (some (add a115 (Int.toNat x82 * 3)))) (v112) (w110) (fun w116 =>
(∃ a117 : Addr, ((dataa = some a117) ∧ (((0 : Int) ≤ x99) ∧ (((x99 : Int) < (↑datal : Int)) ∧ (stW Tryz.prog 35 (pointer (some (add a117 (Int.toNat x99 * 3)))) (v114) (w116) (fun w118 =>
((z61 (wrap i64 (x82 + 1)) (wrap i64 (x99 - 1)) (w118)) ∧ (z62 (wrap i64 (x82 + 1)) (wrap i64 (x99 - 1)) w118 < z62 x64 x65 w66))))))))))))))))))))))))))))))))))))))))))))))))))))))))))))))))))))))))))))))))))))))))))))))))))))))))))))))))))
theorem ca127 (dataa : Option Addr) (datal : Nat) (datac : Nat) (a_ : Int) (b : Int) (pivot : Int) (cmp : Value) (w : World) (R : Value → World → Prop) (h : W127 dataa datal datac a_ b pivot cmp w R) : Ca Tryz.prog 127 ⟨[(.slice dataa datal datac), (.int .i64 a_), (.int .i64 b), (.int .i64 pivot), cmp]⟩ w R :=
  caB (fn := Tryz.f127) (pl := pl127) (ls := ls127) Tryz.func127 (by kernel_rfl) (by kernel_rfl) h

/-- slices.partitionEqualCmpFunc[staith/api.Binding] -/
noncomputable def C126 : Code := (Tryz.f126.body).getD .skip
def pl126 : Nat → Plan
  | 1 => (.quiet 0 (.quiet 1 (.quiet 2 (.quiet 3 (.quiet 4 (.quiet 5 (.quiet 6 (.quiet 7 (.quiet 8 (.quiet 9 (.quiet 10 (.quiet 11 (.quiet 12 (.eff 13 [] (.quiet 14 (.eff 15 [] .done))))))))))))))))
  | 3 => (.quiet 0 (.quiet 1 (.quiet 2 (.quiet 3 (.quiet 4 (.quiet 5 (.quiet 6 (.quiet 7 (.quiet 8 (.quiet 9 (.quiet 10 (.quiet 11 (.quiet 12 (.eff 13 [] (.quiet 14 (.quiet 15 (.quiet 16 .done)))))))))))))))))
  | 5 => (.quiet 0 (.quiet 1 (.quiet 2 (.quiet 3 (.quiet 4 (.quiet 5 (.quiet 6 (.quiet 7 (.quiet 8 (.quiet 9 (.quiet 10 (.quiet 11 (.quiet 12 (.eff 13 [] (.quiet 14 (.quiet 15 .done))))))))))))))))
  | 8 => (.quiet 0 (.quiet 1 (.quiet 2 (.quiet 3 (.quiet 4 (.quiet 5 (.quiet 6 (.quiet 7 (.quiet 8 (.quiet 9 (.quiet 10 (.quiet 11 (.quiet 12 (.eff 13 [] (.quiet 14 (.eff 15 [] .done))))))))))))))))
  | _ => .done
def ls126 : Nat → List (Nat × LT)
  | 4 => [(11, (.one (.int .i64))), (12, (.one (.int .i64)))]
  | 5 => [(0, .agg []), (11, (.one (.int .i64)))]
  | 6 => [(11, (.one (.int .i64)))]
  | 9 => [(0, .agg []), (12, (.one (.int .i64)))]
  | 10 => [(12, (.one (.int .i64)))]
  | _ => []
def W126 (dataa : Option Addr) (datal : Nat) (_datac : Nat) (a_ : Int) (b : Int) (pivot : Int) (cmp : Value) (w : World) (R : Value → World → Prop) : Prop :=
  (atW (drew w) (fun w0 =>
(∃ a1 : Addr, ((dataa = some a1) ∧ (((0 : Int) ≤ pivot) ∧ (((pivot : Int) < (↑datal : Int)) ∧ (ldW Tryz.prog 35 (pointer (some (add a1 (Int.toNat pivot * 3)))) (w0) (fun v2 =>
(∃ a3 : Addr, ((dataa = some a3) ∧ (((0 : Int) ≤ a_) ∧ (((a_ : Int) < (↑datal : Int)) ∧ (ldW Tryz.prog 35 (pointer (some (add a3 (Int.toNat a_ * 3)))) (w0) (fun v4 =>
(∃ a5 : Addr, ((dataa = some a5) ∧ (((0 : Int) ≤ a_) ∧ (((a_ : Int) < (↑datal : Int)) ∧ (stW Tryz.prog 35 (pointer (some (add a5 (Int.toNat a_ * 3)))) (v2) (w0) (fun w6 =>
(∃ a7 : Addr, ((dataa = some a7) ∧ (((0 : Int) ≤ pivot) ∧ (((pivot : Int) < (↑datal : Int)) ∧ (stW Tryz.prog 35 (pointer (some (add a7 (Int.toNat pivot * 3)))) (v4) (w6) (fun w8 =>
(∃ z9 : Int → Int → World → Prop, (∃ z10 : Int → Int → World → Nat, ((z9 (wrap i64 (a_ + 1)) (wrap i64 (b - 1)) (w8)) ∧ (∀ (_ : Nat → Value), (∀ (x12 : Int), (∀ (x13 : Int), (∀ (w14 : World), ((z9 (x12) (x13) (w14)) → (∃ z15 : Int → World → Prop, ((∃ z16 : Int → World → Prop, (∃ z17 : Int → World → Nat, ((z16 (x12) (w14)) ∧ (∀ (_ : Nat → Value), (∀ (x19 : Int), (∀ (w20 : World), ((z16 (x19) (w20)) → (atW (drew w20) (fun w21 =>
(ifK (decide (x19 ≤ x13))
(∃ a22 : Addr, ((dataa = some a22) ∧ (((0 : Int) ≤ a_) ∧ (((a_ : Int) < (↑datal : Int)) ∧ (ldW Tryz.prog 35 (pointer (some (add a22 (Int.toNat a_ * 3)))) (w21) (fun v23 =>
(∃ a24 : Addr, ((dataa = some a24) ∧ (((0 : Int) ≤ x19) ∧ (((x19 : Int) < (↑datal : Int)) ∧ (ldW Tryz.prog 35 (pointer (some (add a24 (Int.toNat x19 * 3)))) (w21) (fun v25 =>
(CaV Tryz.prog (cmp) (Array.mk [v23, v25]) (w21) (fun v26 => (fun w27 =>
(∃ x28 : Int, ((v26 = int i64 x28) ∧ (ifK (!decide (x28 < 0))
((z16 (wrap i64 (x19 + 1)) (w27)) ∧ (z17 (wrap i64 (x19 + 1)) w27 < z17 x19 w20))
(z15 (x19) (w27))))))))))))))))))))
(z15 (x19) (w21)))))))))))) ∧ (∀ (_ : Nat → Value), (∀ (x30 : Int), (∀ (w31 : World), ((z15 (x30) (w31)) → (∃ z32 : Int → World → Prop, ((∃ z33 : Int → World → Prop, (∃ z34 : Int → World → Nat, ((z33 (x13) (w31)) ∧ (∀ (_ : Nat → Value), (∀ (x36 : Int), (∀ (w37 : World), ((z33 (x36) (w37)) → (atW (drew w37) (fun w38 =>
(ifK (decide (x30 ≤ x36))
(∃ a39 : Addr, ((dataa = some a39) ∧ (((0 : Int) ≤ a_) ∧ (((a_ : Int) < (↑datal : Int)) ∧ (ldW Tryz.prog 35 (pointer (some (add a39 (Int.toNat a_ * 3)))) (w38) (fun v40 =>
(∃ a41 : Addr, ((dataa = some a41) ∧ (((0 : Int) ≤ x36) ∧ (((x36 : Int) < (↑datal : Int)) ∧ (ldW Tryz.prog 35 (pointer (some (add a41 (Int.toNat x36 * 3)))) (w38) (fun v42 =>
(CaV Tryz.prog (cmp) (Array.mk [v40, v42]) (w38) (fun v43 => (fun w44 =>
(∃ x45 : Int, ((v43 = int i64 x45) ∧ (ifK (decide (x45 < 0))
((z33 (wrap i64 (x36 - 1)) (w44)) ∧ (z34 (wrap i64 (x36 - 1)) w44 < z34 x36 w37))
(z32 (x36) (w44))))))))))))))))))))
(z32 (x36) (w38)))))))))))) ∧ (∀ (_ : Nat → Value), (∀ (x47 : Int), (∀ (w48 : World), ((z32 (x47) (w48)) → (ifK (decide (x30 > x47))
(R (int i64 x30) (w48))
(atW (drew w48) (fun w49 =>
(∃ a50 : Addr, ((dataa = some a50) ∧ (((0 : Int) ≤ x47) ∧ (((x47 : Int) < (↑datal : Int)) ∧ (ldW Tryz.prog 35 (pointer (some (add a50 (Int.toNat x47 * 3)))) (w49) (fun v51 =>
(∃ a52 : Addr, ((dataa = some a52) ∧ (((0 : Int) ≤ x30) ∧ (((x30 : Int) < (↑datal : Int)) ∧ (ldW Tryz.prog 35 (pointer (some (add a52 (Int.toNat x30 * 3)))) (w49) (fun v53 =>
(∃ a54 : Addr, ((dataa = some a54) ∧ (((0 : Int) ≤ x30) ∧ (((x30 : Int) < (↑datal : Int)) ∧ (stW Tryz.prog 35 (pointer (some (add a54 (Int.toNat x30 * 3)))) (v51) (w49) (fun w55 =>
(∃ a56 : Addr, ((dataa = some a56) ∧ (((0 : Int) ≤ x47) ∧ (((x47 : Int) < (↑datal : Int)) ∧ (stW Tryz.prog 35 (pointer (some (add a56 (Int.toNat x47 * 3)))) (v53) (w55) (fun w57 =>
((z9 (wrap i64 (x30 + 1)) (wrap i64 (x47 - 1)) (w57)) ∧ (z10 (wrap i64 (x30 + 1)) (wrap i64 (x47 - 1)) w57 < z10 x12 x13 w14)))))))))))))))))))))))))))))))))))))))))))))))))))))))))))))))))))))))))))
theorem ca126 (dataa : Option Addr) (datal : Nat) (datac : Nat) (a_ : Int) (b : Int) (pivot : Int) (cmp : Value) (w : World) (R : Value → World → Prop) (h : W126 dataa datal datac a_ b pivot cmp w R) : Ca Tryz.prog 126 ⟨[(.slice dataa datal datac), (.int .i64 a_), (.int .i64 b), (.int .i64 pivot), cmp]⟩ w R :=
  caB (fn := Tryz.f126) (pl := pl126) (ls := ls126) Tryz.func126 (by kernel_rfl) (by kernel_rfl) h

/-- slices.siftDownCmpFunc[staith/api.Binding] -/
noncomputable def C144 : Code := (Tryz.f144.body).getD .skip
def pl144 : Nat → Plan
  | 3 => (.quiet 0 (.quiet 1 (.quiet 2 (.quiet 3 (.quiet 4 (.quiet 5 (.quiet 6 (.quiet 7 (.quiet 8 (.quiet 9 (.quiet 10 (.quiet 11 (.quiet 12 (.quiet 13 (.quiet 14 (.quiet 15 (.quiet 16 (.quiet 17 (.quiet 18 (.eff 19 [] (.quiet 20 (.quiet 21 .done))))))))))))))))))))))
  | 5 => (.quiet 0 (.quiet 1 (.quiet 2 (.quiet 3 (.quiet 4 (.quiet 5 (.quiet 6 (.quiet 7 (.quiet 8 (.quiet 9 (.quiet 10 (.quiet 11 (.quiet 12 (.eff 13 [] (.quiet 14 (.quiet 15 .done))))))))))))))))
  | 6 => (.quiet 0 (.quiet 1 (.quiet 2 (.quiet 3 (.quiet 4 (.quiet 5 (.quiet 6 (.quiet 7 (.quiet 8 (.quiet 9 (.quiet 10 (.quiet 11 (.quiet 12 (.quiet 13 (.quiet 14 (.quiet 15 (.quiet 16 (.quiet 17 (.quiet 18 (.quiet 19 (.quiet 20 (.eff 21 [] (.quiet 22 (.eff 23 [] .done))))))))))))))))))))))))
  | _ => .done
def ls144 : Nat → List (Nat × LT)
  | 1 => [(10, (.one (.int .i64)))]
  | 5 => [(0, .agg []), (11, (.one (.int .i64)))]
  | _ => []
def W144 (dataa : Option Addr) (datal : Nat) (_datac : Nat) (lo : Int) (hi : Int) (first : Int) (cmp : Value) (w : World) (R : Value → World → Prop) : Prop :=
  (∃ z0 : Int → World → Prop, (∃ z1 : Int → World → Nat, ((z0 (lo) (w)) ∧ (∀ (_ : Nat → Value), (∀ (x3 : Int), (∀ (w4 : World), ((z0 (x3) (w4)) → (ifK (decide (wrap i64 (wrap i64 (2 * x3) + 1) ≥ hi))
(R (tuple (Array.mk (List.reverse []))) (w4))
(∃ z5 : Int → World → Prop, ((atW (drew w4) (fun w6 =>
(ifK (decide (wrap i64 (wrap i64 (wrap i64 (2 * x3) + 1) + 1) < hi))
(∃ a7 : Addr, ((dataa = some a7) ∧ (((0 : Int) ≤ wrap i64 (first + wrap i64 (wrap i64 (2 * x3) + 1))) ∧ (((wrap i64 (first + wrap i64 (wrap i64 (2 * x3) + 1)) : Int) < (↑datal : Int)) ∧ (ldW Tryz.prog 35 (pointer (some (add a7 (Int.toNat (wrap i64 (first + wrap i64 (wrap i64 (2 * x3) + 1))) * 3)))) (w6) (fun v8 =>
(∃ a9 : Addr, ((dataa = some a9) ∧ (((0 : Int) ≤ wrap i64 (wrap i64 (first + wrap i64 (wrap i64 (2 * x3) + 1)) + 1)) ∧ (((wrap i64 (wrap i64 (first + wrap i64 (wrap i64 (2 * x3) + 1)) + 1) : Int) < (↑datal : Int)) ∧ (ldW Tryz.prog 35 (pointer (some (add a9 (Int.toNat (wrap i64 (wrap i64 (first + wrap i64 (wrap i64 (2 * x3) + 1)) + 1)) * 3)))) (w6) (fun v10 =>
(CaV Tryz.prog (cmp) (Array.mk [v8, v10]) (w6) (fun v11 => (fun w12 =>
(∃ x13 : Int, ((v11 = int i64 x13) ∧ (ifK (decide (x13 < 0))
(z5 (wrap i64 (wrap i64 (wrap i64 (2 * x3) + 1) + 1)) (w12))
(z5 (wrap i64 (wrap i64 (2 * x3) + 1)) (w12))))))))))))))))))))
(z5 (wrap i64 (wrap i64 (2 * x3) + 1)) (w6))))) ∧ (∀ (_ : Nat → Value), (∀ (x15 : Int), (∀ (w16 : World), ((z5 (x15) (w16)) → (atW (drew w16) (fun w17 =>
(∃ a18 : Addr, ((dataa = some a18) ∧ (((0 : Int) ≤ wrap i64 (first + x3)) ∧ (((wrap i64 (first + x3) : Int) < (↑datal : Int)) ∧ (ldW Tryz.prog 35 (pointer (some (add a18 (Int.toNat (wrap i64 (first + x3)) * 3)))) (w17) (fun v19 =>
(∃ a20 : Addr, ((dataa = some a20) ∧ (((0 : Int) ≤ wrap i64 (first + x15)) ∧ (((wrap i64 (first + x15) : Int) < (↑datal : Int)) ∧ (ldW Tryz.prog 35 (pointer (some (add a20 (Int.toNat (wrap i64 (first + x15)) * 3)))) (w17) (fun v21 =>
(CaV Tryz.prog (cmp) (Array.mk [v19, v21]) (w17) (fun v22 => (fun w23 =>
(∃ x24 : Int, ((v22 = int i64 x24) ∧ (ifK (!decide (x24 < 0))
(R (tuple (Array.mk (List.reverse []))) (w23))
(atW (drew w23) (fun w25 =>
(∃ a26 : Addr, ((dataa = some a26) ∧ (((0 : Int) ≤ wrap i64 (first + x15)) ∧ (((wrap i64 (first + x15) : Int) < (↑datal : Int)) ∧ (ldW Tryz.prog 35 (pointer (some (add a26 (Int.toNat (wrap i64 (first + x15)) * 3)))) (w25) (fun v27 =>
(∃ a28 : Addr, ((dataa = some a28) ∧ (((0 : Int) ≤ wrap i64 (first + x3)) ∧ (((wrap i64 (first + x3) : Int) < (↑datal : Int)) ∧ (ldW Tryz.prog 35 (pointer (some (add a28 (Int.toNat (wrap i64 (first + x3)) * 3)))) (w25) (fun v29 =>
(∃ a30 : Addr, ((dataa = some a30) ∧ (((0 : Int) ≤ wrap i64 (first + x3)) ∧ (((wrap i64 (first + x3) : Int) < (↑datal : Int)) ∧ (stW Tryz.prog 35 (pointer (some (add a30 (Int.toNat (wrap i64 (first + x3)) * 3)))) (v27) (w25) (fun w31 =>
(∃ a32 : Addr, ((dataa = some a32) ∧ (((0 : Int) ≤ wrap i64 (first + x15)) ∧ (((wrap i64 (first + x15) : Int) < (↑datal : Int)) ∧ (stW Tryz.prog 35 (pointer (some (add a32 (Int.toNat (wrap i64 (first + x15)) * 3)))) (v29) (w31) (fun w33 =>
((z0 (x15) (w33)) ∧ (z1 x15 w33 < z1 x3 w4))))))))))))))))))))))))))))))))))))))))))))))))))))))))))))))
theorem ca144 (dataa : Option Addr) (datal : Nat) (datac : Nat) (lo : Int) (hi : Int) (first : Int) (cmp : Value) (w : World) (R : Value → World → Prop) (h : W144 dataa datal datac lo hi first cmp w R) : Ca Tryz.prog 144 ⟨[(.slice dataa datal datac), (.int .i64 lo), (.int .i64 hi), (.int .i64 first), cmp]⟩ w R :=
  caB (fn := Tryz.f144) (pl := pl144) (ls := ls144) Tryz.func144 (by kernel_rfl) (by kernel_rfl) h

/-- slices.heapSortCmpFunc[staith/api.Binding] -/
noncomputable def C121 : Code := (Tryz.f121.body).getD .skip
def pl121 : Nat → Plan
  | 10 => (.quiet 0 (.quiet 1 (.quiet 2 (.quiet 3 (.quiet 4 (.quiet 5 (.quiet 6 (.quiet 7 (.quiet 8 (.quiet 9 (.quiet 10 (.quiet 11 (.quiet 12 (.quiet 13 (.quiet 14 (.quiet 15 (.quiet 16 (.eff 17 [] (.quiet 18 (.eff 19 [] .done))))))))))))))))))))
  | _ => .done
def ls121 : Nat → List (Nat × LT)
  | 5 => [(11, (.one (.int .i64)))]
  | 10 => [(12, (.one (.int .i64)))]
  | _ => []
def W121 (dataa : Option Addr) (datal : Nat) (datac : Nat) (a_ : Int) (b : Int) (cmp : Value) (w : World) (R : Value → World → Prop) : Prop :=
  (((2 : Int) ≠ 0) ∧ (∃ z0 : Int → World → Prop, (∃ z1 : Int → World → Nat, ((z0 (wrap i64 (Int.tdiv (wrap i64 (wrap i64 (b - a_) - 1)) 2)) (w)) ∧ (∀ (_ : Nat → Value), (∀ (x3 : Int), (∀ (w4 : World), ((z0 (x3) (w4)) → (ifK (decide (x3 ≥ 0))
(Ca Tryz.prog (144) (Array.mk [slice dataa datal datac, int i64 x3, int i64 (wrap i64 (b - a_)), int i64 a_, cmp]) (w4) (fun v5 => (fun w6 =>
((v5 = tuple (Array.mk (List.reverse []))) ∧ ((z0 (wrap i64 (x3 - 1)) (w6)) ∧ (z1 (wrap i64 (x3 - 1)) w6 < z1 x3 w4))))))
(∃ z7 : Int → World → Prop, (∃ z8 : Int → World → Nat, ((z7 (wrap i64 (wrap i64 (b - a_) - 1)) (w4)) ∧ (∀ (_ : Nat → Value), (∀ (x10 : Int), (∀ (w11 : World), ((z7 (x10) (w11)) → (ifK (decide (x10 ≥ 0))
(atW (drew w11) (fun w12 =>
(∃ a13 : Addr, ((dataa = some a13) ∧ (((0 : Int) ≤ wrap i64 (a_ + x10)) ∧ (((wrap i64 (a_ + x10) : Int) < (↑datal : Int)) ∧ (ldW Tryz.prog 35 (pointer (some (add a13 (Int.toNat (wrap i64 (a_ + x10)) * 3)))) (w12) (fun v14 =>
(∃ a15 : Addr, ((dataa = some a15) ∧ (((0 : Int) ≤ a_) ∧ (((a_ : Int) < (↑datal : Int)) ∧ (ldW Tryz.prog 35 (pointer (some (add a15 (Int.toNat a_ * 3)))) (w12) (fun v16 =>
(∃ a17 : Addr, ((dataa = some a17) ∧ (((0 : Int) ≤ a_) ∧ (((a_ : Int) < (↑datal : Int)) ∧ (stW Tryz.prog 35 (pointer (some (add a17 (Int.toNat a_ * 3)))) (v14) (w12) (fun w18 =>
(∃ a19 : Addr, ((dataa = some a19) ∧ (((0 : Int) ≤ wrap i64 (a_ + x10)) ∧ (((wrap i64 (a_ + x10) : Int) < (↑datal : Int)) ∧ (stW Tryz.prog 35 (pointer (some (add a19 (Int.toNat (wrap i64 (a_ + x10)) * 3)))) (v16) (w18) (fun w20 =>
(Ca Tryz.prog (144) (Array.mk [slice dataa datal datac, int i64 0, int i64 x10, int i64 a_, cmp]) (w20) (fun v21 => (fun w22 =>
((v21 = tuple (Array.mk (List.reverse []))) ∧ ((z7 (wrap i64 (x10 - 1)) (w22)) ∧ (z8 (wrap i64 (x10 - 1)) w22 < z8 x10 w11))))))))))))))))))))))))))))))))
(R (tuple (Array.mk (List.reverse []))) (w11)))))))))))))))))))
theorem ca121 (dataa : Option Addr) (datal : Nat) (datac : Nat) (a_ : Int) (b : Int) (cmp : Value) (w : World) (R : Value → World → Prop) (h : W121 dataa datal datac a_ b cmp w R) : Ca Tryz.prog 121 ⟨[(.slice dataa datal datac), (.int .i64 a_), (.int .i64 b), cmp]⟩ w R :=
  caB (fn := Tryz.f121) (pl := pl121) (ls := ls121) Tryz.func121 (by kernel_rfl) (by kernel_rfl) h

/-- slices.breakPatternsCmpFunc[staith/api.Binding] -/
noncomputable def C122 : Code := (Tryz.f122.body).getD .skip
def pl122 : Nat → Plan
  | 10 => (.quiet 0 (.quiet 1 (.quiet 2 (.quiet 3 (.quiet 4 (.quiet 5 (.quiet 6 (.quiet 7 (.quiet 8 (.quiet 9 (.quiet 10 (.quiet 11 (.quiet 12 (.quiet 13 (.quiet 14 (.quiet 15 (.quiet 16 (.eff 17 [] (.quiet 18 (.eff 19 [] .done))))))))))))))))))))
  | _ => .done
def ls122 : Nat → List (Nat × LT)
  | 5 => [(11, (.one (.int .i64)))]
  | 10 => [(0, .agg []), (12, (.one (.int .i64)))]
  | _ => []
def W122 (dataa : Option Addr) (datal : Nat) (_datac : Nat) (a_ : Int) (b : Int) (_cmp : Value) (w : World) (R : Value → World → Prop) : Prop :=
  (ifK (decide (wrap i64 (b - a_) ≥ 8))
(atW (alloc w (cells (Array.mk [int u64 0]) 151 (0, 0))) (fun w0 =>
(st1 (add (nw w) 0) (int u64 (wrap u64 (wrap i64 (b - a_)))) w0 (fun w2 =>
(Ca Tryz.prog (140) (Array.mk [int i64 (wrap i64 (b - a_))]) (w2) (fun v3 => (fun w4 =>
(∃ x5 : Int, ((v3 = int u64 x5) ∧ (((4 : Int) ≠ 0) ∧ (∃ z6 : Int → World → Prop, (∃ z7 : Int → World → Nat, ((z6 (wrap i64 (wrap i64 (a_ + wrap i64 (wrap i64 (Int.tdiv (wrap i64 (b - a_)) 4) * 2)) - 1)) (w4)) ∧ (∀ (_ : Nat → Value), (∀ (x9 : Int), (∀ (w10 : World), ((z6 (x9) (w10)) → (((4 : Int) ≠ 0) ∧ (ifK (decide (x9 ≤ wrap i64 (wrap i64 (a_ + wrap i64 (wrap i64 (Int.tdiv (wrap i64 (b - a_)) 4) * 2)) + 1)))
(Ca Tryz.prog (141) (Array.mk [pointer (some (nw w))]) (w10) (fun v11 => (fun w12 =>
(∃ x13 : Int, ((v11 = int u64 x13) ∧ (∃ z14 : Int → World → Prop, ((ifK (decide (wrap i64 (wrap u64 (↑(BitVec.toNat (BitVec.ofInt 64 x13 &&& BitVec.ofInt 64 (wrap u64 (x5 - 1)))) : Int)) ≥ wrap i64 (b - a_)))
(z14 (wrap i64 (wrap i64 (wrap u64 (↑(BitVec.toNat (BitVec.ofInt 64 x13 &&& BitVec.ofInt 64 (wrap u64 (x5 - 1)))) : Int)) - wrap i64 (b - a_))) (w12))
(z14 (wrap i64 (wrap u64 (↑(BitVec.toNat (BitVec.ofInt 64 x13 &&& BitVec.ofInt 64 (wrap u64 (x5 - 1)))) : Int))) (w12))) ∧ (∀ (_ : Nat → Value), (∀ (x16 : Int), (∀ (w17 : World), ((z14 (x16) (w17)) → (atW (drew w17) (fun w18 =>
(∃ a19 : Addr, ((dataa = some a19) ∧ (((0 : Int) ≤ wrap i64 (a_ + x16)) ∧ (((wrap i64 (a_ + x16) : Int) < (↑datal : Int)) ∧ (ldW Tryz.prog 35 (pointer (some (add a19 (Int.toNat (wrap i64 (a_ + x16)) * 3)))) (w18) (fun v20 =>
(∃ a21 : Addr, ((dataa = some a21) ∧ (((0 : Int) ≤ x9) ∧ (((x9 : Int) < (↑datal : Int)) ∧ (ldW Tryz.prog 35 (pointer (some (add a21 (Int.toNat x9 * 3)))) (w18) (fun v22 =>
(∃ a23 : Addr, ((dataa = some a23) ∧ (((0 : Int) ≤ x9) ∧ (((x9 : Int) < (↑datal : Int)) ∧ (stW Tryz.prog 35 (pointer (some (add a23 (Int.toNat x9 * 3)))) (v20) (w18) (fun w24 =>
(∃ a25 : Addr, ((dataa = some a25) ∧ (((0 : Int) ≤ wrap i64 (a_ + x16)) ∧ (((wrap i64 (a_ + x16) : Int) < (↑datal : Int)) ∧ (stW Tryz.prog 35 (pointer (some (add a25 (Int.toNat (wrap i64 (a_ + x16)) * 3)))) (v22) (w24) (fun w26 =>
((z6 (wrap i64 (x9 + 1)) (w26)) ∧ (z7 (wrap i64 (x9 + 1)) w26 < z7 x9 w10)))))))))))))))))))))))))))))))))))))))
(R (tuple (Array.mk (List.reverse []))) (w10)))))))))))))))))))))
(R (tuple (Array.mk (List.reverse []))) (w)))
theorem ca122 (dataa : Option Addr) (datal : Nat) (datac : Nat) (a_ : Int) (b : Int) (cmp : Value) (w : World) (R : Value → World → Prop) (h : W122 dataa datal datac a_ b cmp w R) : Ca Tryz.prog 122 ⟨[(.slice dataa datal datac), (.int .i64 a_), (.int .i64 b), cmp]⟩ w R :=
  caB (fn := Tryz.f122) (pl := pl122) (ls := ls122) Tryz.func122 (by kernel_rfl) (by kernel_rfl) h

/-- slices.partialInsertionSortCmpFunc[staith/api.Binding] -/
noncomputable def C125 : Code := (Tryz.f125.body).getD .skip
def pl125 : Nat → Plan
  | 5 => (.quiet 0 (.quiet 1 (.quiet 2 (.quiet 3 (.quiet 4 (.quiet 5 (.quiet 6 (.quiet 7 (.quiet 8 (.quiet 9 (.quiet 10 (.quiet 11 (.quiet 12 (.quiet 13 (.eff 14 [] (.quiet 15 (.quiet 16 (.quiet 17 .done))))))))))))))))))
  | 11 => (.quiet 0 (.quiet 1 (.quiet 2 (.quiet 3 (.quiet 4 (.quiet 5 (.quiet 6 (.quiet 7 (.quiet 8 (.quiet 9 (.quiet 10 (.quiet 11 (.quiet 12 (.quiet 13 (.quiet 14 (.eff 15 [] (.quiet 16 (.eff 17 [] .done))))))))))))))))))
  | 16 => (.quiet 0 (.quiet 1 (.quiet 2 (.quiet 3 (.quiet 4 (.quiet 5 (.quiet 6 (.quiet 7 (.quiet 8 (.quiet 9 (.eff 10 [] (.quiet 11 (.quiet 12 .done)))))))))))))
  | 17 => (.quiet 0 (.quiet 1 (.quiet 2 (.quiet 3 (.quiet 4 (.quiet 5 (.quiet 6 (.quiet 7 (.quiet 8 (.quiet 9 (.quiet 10 (.quiet 11 (.quiet 12 (.quiet 13 (.quiet 14 (.eff 15 [] (.quiet 16 (.eff 17 [] .done))))))))))))))))))
  | 22 => (.quiet 0 (.quiet 1 (.quiet 2 (.quiet 3 (.quiet 4 (.quiet 5 (.quiet 6 (.quiet 7 (.quiet 8 (.quiet 9 (.eff 10 [] (.quiet 11 (.quiet 12 .done)))))))))))))
  | 23 => (.quiet 0 (.quiet 1 (.quiet 2 (.quiet 3 (.quiet 4 (.quiet 5 (.quiet 6 (.quiet 7 (.quiet 8 (.quiet 9 (.quiet 10 (.quiet 11 (.quiet 12 (.quiet 13 (.quiet 14 (.eff 15 [] (.quiet 16 (.eff 17 [] .done))))))))))))))))))
  | _ => .done
def ls125 : Nat → List (Nat × LT)
  | 4 => [(9, (.one (.int .i64))), (10, (.one (.int .i64)))]
  | 8 => [(0, .agg []), (9, (.one (.int .i64)))]
  | 9 => [(9, (.one (.int .i64)))]
  | 19 => [(0, .agg [])]
  | 22 => [(11, (.one (.int .i64)))]
  | 30 => [(12, (.one (.int .i64)))]
  | _ => []
def W125 (dataa : Option Addr) (datal : Nat) (_datac : Nat) (a_ : Int) (b : Int) (cmp : Value) (w : World) (R : Value → World → Prop) : Prop :=
  (∃ z0 : Int → Int → World → Prop, (∃ z1 : Int → Int → World → Nat, ((z0 (wrap i64 (a_ + 1)) (0) (w)) ∧ (∀ (_ : Nat → Value), (∀ (x3 : Int), (∀ (x4 : Int), (∀ (w5 : World), ((z0 (x3) (x4) (w5)) → (ifK (decide (x4 < 5))
(∃ z6 : Int → World → Prop, ((∃ z7 : Int → World → Prop, (∃ z8 : Int → World → Nat, ((z7 (x3) (w5)) ∧ (∀ (_ : Nat → Value), (∀ (x10 : Int), (∀ (w11 : World), ((z7 (x10) (w11)) → (atW (drew w11) (fun w12 =>
(ifK (decide (x10 < b))
(∃ a13 : Addr, ((dataa = some a13) ∧ (((0 : Int) ≤ x10) ∧ (((x10 : Int) < (↑datal : Int)) ∧ (ldW Tryz.prog 35 (pointer (some (add a13 (Int.toNat x10 * 3)))) (w12) (fun v14 =>
(∃ a15 : Addr, ((dataa = some a15) ∧ (((0 : Int) ≤ wrap i64 (x10 - 1)) ∧ (((wrap i64 (x10 - 1) : Int) < (↑datal : Int)) ∧ (ldW Tryz.prog 35 (pointer (some (add a15 (Int.toNat (wrap i64 (x10 - 1)) * 3)))) (w12) (fun v16 =>
(CaV Tryz.prog (cmp) (Array.mk [v14, v16]) (w12) (fun v17 => (fun w18 =>
(∃ x19 : Int, ((v17 = int i64 x19) ∧ (ifK (!decide (x19 < 0))
((z7 (wrap i64 (x10 + 1)) (w18)) ∧ (z8 (wrap i64 (x10 + 1)) w18 < z8 x10 w11))
(z6 (x10) (w18))))))))))))))))))))
(z6 (x10) (w12)))))))))))) ∧ (∀ (_ : Nat → Value), (∀ (x21 : Int), (∀ (w22 : World), ((z6 (x21) (w22)) → (ifK (x21 == b)
(R (bool true) (w22))
(ifK (decide (wrap i64 (b - a_) < 50))
(R (bool false) (w22))
(atW (drew w22) (fun w23 =>
(∃ a24 : Addr, ((dataa = some a24) ∧ (((0 : Int) ≤ wrap i64 (x21 - 1)) ∧ (((wrap i64 (x21 - 1) : Int) < (↑datal : Int)) ∧ (ldW Tryz.prog 35 (pointer (some (add a24 (Int.toNat (wrap i64 (x21 - 1)) * 3)))) (w23) (fun v25 =>
(∃ a26 : Addr, ((dataa = some a26) ∧ (((0 : Int) ≤ x21) ∧ (((x21 : Int) < (↑datal : Int)) ∧ (ldW Tryz.prog 35 (pointer (some (add a26 (Int.toNat x21 * 3)))) (w23) (fun v27 =>
(∃ a28 : Addr, ((dataa = some a28) ∧ (((0 : Int) ≤ x21) ∧ (((x21 : Int) < (↑datal : Int)) ∧ (stW Tryz.prog 35 (pointer (some (add a28 (Int.toNat x21 * 3)))) (v25) (w23) (fun w29 =>
(∃ a30 : Addr, ((dataa = some a30) ∧ (((0 : Int) ≤ wrap i64 (x21 - 1)) ∧ (((wrap i64 (x21 - 1) : Int) < (↑datal : Int)) ∧ (stW Tryz.prog 35 (pointer (some (add a30 (Int.toNat (wrap i64 (x21 - 1)) * 3)))) (v27) (w29) (fun w31 =>
(∃ z32 : World → Prop, ((ifK (decide (wrap i64 (x21 - a_) ≥ 2))
(∃ z33 : Int → World → Prop, (∃ z34 : Int → World → Nat, ((z33 (wrap i64 (x21 - 1)) (w31)) ∧ (∀ (_ : Nat → Value), (∀ (x36 : Int), (∀ (w37 : World), ((z33 (x36) (w37)) → (ifK (decide (x36 ≥ 1))
(atW (drew w37) (fun w38 =>
(∃ a39 : Addr, ((dataa = some a39) ∧ (((0 : Int) ≤ x36) ∧ (((x36 : Int) < (↑datal : Int)) ∧ (ldW Tryz.prog 35 (pointer (some (add a39 (Int.toNat x36 * 3)))) (w38) (fun v40 =>
(∃ a41 : Addr, ((dataa = some a41) ∧ (((0 : Int) ≤ wrap i64 (x36 - 1)) ∧ (((wrap i64 (x36 - 1) : Int) < (↑datal : Int)) ∧ (ldW Tryz.prog 35 (pointer (some (add a41 (Int.toNat (wrap i64 (x36 - 1)) * 3)))) (w38) (fun v42 =>
(CaV Tryz.prog (cmp) (Array.mk [v40, v42]) (w38) (fun v43 => (fun w44 =>
(∃ x45 : Int, ((v43 = int i64 x45) ∧ (ifK (!decide (x45 < 0))
(z32 (w44))
(atW (drew w44) (fun w46 =>
(∃ a47 : Addr, ((dataa = some a47) ∧ (((0 : Int) ≤ wrap i64 (x36 - 1)) ∧ (((wrap i64 (x36 - 1) : Int) < (↑datal : Int)) ∧ (ldW Tryz.prog 35 (pointer (some (add a47 (Int.toNat (wrap i64 (x36 - 1)) * 3)))) (w46) (fun v48 =>
(∃ a49 : Addr, ((dataa = some a49) ∧ (((0 : Int) ≤ x36) ∧ (((x36 : Int) < (↑datal : Int)) ∧ (ldW Tryz.prog 35 (pointer (some (add a49 (Int.toNat x36 * 3)))) (w46) (fun v50 =>
(∃ a51 : Addr, ((dataa = some a51) ∧ (((0 : Int) ≤ x36) ∧ (((x36 : Int) < (↑datal : Int)) ∧ (stW Tryz.prog 35 (pointer (some (add a51 (Int.toNat x36 * 3)))) (v48) (w46) (fun w52 =>
(∃ a53 : Addr, ((dataa = some a53) ∧ (((0 : Int) ≤ wrap i64 (x36 - 1)) ∧ (((wrap i64 (x36 - 1) : Int) < (↑datal : Int)) ∧ (stW Tryz.prog 35 (pointer (some (add a53 (Int.toNat (wrap i64 (x36 - 1)) * 3)))) (v50) (w52) (fun w54 =>
((z33 (wrap i64 (x36 - 1)) (w54)) ∧ (z34 (wrap i64 (x36 - 1)) w54 < z34 x36 w37))))))))))))))))))))))))))))))))))))))))))))))))
(z32 (w37))))))))))
(z32 (w31))) ∧ (∀ (_ : Nat → Value), (∀ (w56 : World), ((z32 (w56)) → (ifK (decide (wrap i64 (b - x21) ≥ 2))
(∃ z57 : Int → World → Prop, (∃ z58 : Int → World → Nat, ((z57 (wrap i64 (x21 + 1)) (w56)) ∧ (∀ (_ : Nat → Value), (∀ (x60 : Int), (∀ (w61 : World), ((z57 (x60) (w61)) → (ifK (decide (x60 < b))
(atW (drew w61) (fun w62 =>
(∃ a63 : Addr, ((dataa = some a63) ∧ (((0 : Int) ≤ x60) ∧ (((x60 : Int) < (↑datal : Int)) ∧ (ldW Tryz.prog 35 (pointer (some (add a63 (Int.toNat x60 * 3)))) (w62) (fun v64 =>
(∃ a65 : Addr, ((dataa = some a65) ∧ (((0 : Int) ≤ wrap i64 (x60 - 1)) ∧ (((wrap i64 (x60 - 1) : Int) < (↑datal : Int)) ∧ (ldW Tryz.prog 35 (pointer (some (add a65 (Int.toNat (wrap i64 (x60 - 1)) * 3)))) (w62) (fun v66 =>
(CaV Tryz.prog (cmp) (Array.mk [v64, v66]) (w62) (fun v67 => (fun w68 =>
(∃ x69 : Int, ((v67 = int i64 x69) ∧ (ifK (!decide (x69 < 0))
((z0 (x21) (wrap i64 (x4 + 1)) (w68)) ∧ (z1 x21 (wrap i64 (x4 + 1)) w68 < z1 x3 x4 w5))
(atW (drew w68) (fun w70 =>
(∃ a71 : Addr, ((dataa = some a71) ∧ (((0 : Int) ≤ wrap i64 (x60 - 1)) ∧ (((wrap i64 (x60 - 1) : Int) < (↑datal : Int)) ∧ (ldW Tryz.prog 35 (pointer (some (add a71 (Int.toNat (wrap i64 (x60 - 1)) * 3)))) (w70) (fun v72 =>
(∃ a73 : Addr, ((dataa = some a73) ∧ (((0 : Int) ≤ x60) ∧ (((x60 : Int) < (↑datal : Int)) ∧ (ldW Tryz.prog 35 (pointer (some (add a73 (Int.toNat x60 * 3)))) (w70) (fun v74 =>
(∃ a75 : Addr, ((dataa = some a75) ∧ (((0 : Int) ≤ x60) ∧ (((x60 : Int) < (↑datal : Int)) ∧ (stW Tryz.prog 35 (pointer (some (add a75 (Int.toNat x60 * 3)))) (v72) (w70) (fun w76 =>
(∃ a77 : Addr, ((dataa = some a77) ∧ (((0 : Int) ≤ wrap i64 (x60 - 1)) ∧ (((wrap i64 (x60 - 1) : Int) < (↑datal : Int)) ∧ (stW Tryz.prog 35 (pointer (some (add a77 (Int.toNat (wrap i64 (x60 - 1)) * 3)))) (v74) (w76) (fun w78 =>
((z57 (wrap i64 (x60 + 1)) (w78)) ∧ (z58 (wrap i64 (x60 + 1)) w78 < z58 x60 w61))))))))))))))))))))))))))))))))))))))))))))))))
((z0 (x21) (wrap i64 (x4 + 1)) (w61)) ∧ (z1 x21 (wrap i64 (x4 + 1)) w61 < z1 x3 x4 w5))))))))))
((z0 (x21) (wrap i64 (x4 + 1)) (w56)) ∧ (z1 x21 (wrap i64 (x4 + 1)) w56 < z1 x3 x4 w5))))))))))))))))))))))))))))))))))))))))))
(R (bool false) (w5)))))))))))
theorem ca125 (dataa : Option Addr) (datal : Nat) (datac : Nat) (a_ : Int) (b : Int) (cmp : Value) (w : World) (R : Value → World → Prop) (h : W125 dataa datal datac a_ b cmp w R) : Ca Tryz.prog 125 ⟨[(.slice dataa datal datac), (.int .i64 a_), (.int .i64 b), cmp]⟩ w R :=
  caB (fn := Tryz.f125) (pl := pl125) (ls := ls125) Tryz.func125 (by kernel_rfl) (by kernel_rfl) h
end Go.Proofs.YtehhhkcemmfjpaaGreatDoor

/- The library's general sort, at one type: what its parts do. -/
namespace Go.Proofs.YtehhhkcemmfjpaaGreatDoor.SrtB
open Go Go.Proofs.YtehhhkcemmfjpaaGreatDoor Go.Proofs.YtehhhkcemmfjpaaGreatDoor.St

theorem piv_eqs (a b l : Nat) (hab : a ≤ b) (hb : b ≤ l) (hl : l < 4611686018427387904) :
    IntKind.i64.wrap ((b : Int) - a) = ((b - a : Nat) : Int) ∧ Int.tdiv ((b - a : Nat) : Int) 4 = (((b - a) / 4 : Nat) : Int) ∧
    IntKind.i64.wrap ((a : Int) + IntKind.i64.wrap (IntKind.i64.wrap (((b - a) / 4 : Nat) : Int) * 1)) = ((a + (b - a) / 4 : Nat) : Int) ∧
    IntKind.i64.wrap ((a : Int) + IntKind.i64.wrap (IntKind.i64.wrap (((b - a) / 4 : Nat) : Int) * 2)) = ((a + (b - a) / 4 * 2 : Nat) : Int) ∧
    IntKind.i64.wrap ((a : Int) + IntKind.i64.wrap (IntKind.i64.wrap (((b - a) / 4 : Nat) : Int) * 3)) = ((a + (b - a) / 4 * 3 : Nat) : Int) :=
  ⟨(by first | (simp only [IntKind.wrap_i64]; omega) | omega), by rw [show (4 : Int) = ((4 : Nat) : Int) from rfl, ← Int.ofNat_tdiv], (by first | (simp only [IntKind.wrap_i64]; omega) | omega), (by first | (simp only [IntKind.wrap_i64]; omega) | omega), (by first | (simp only [IntKind.wrap_i64]; omega) | omega)⟩

section
variable (cv : Value) (hc : Cmp cv) (d : Option Addr) (l c : Nat) (xs : List Bnd) (w : World) (hd : Rx bndL 35 w d l c xs) (hl : l < 4611686018427387904)
include hc hd hl

/-! ### The pivot -/
omit hl in
theorem order2_ok (s : Nat) (t : TypeId) (n : Int) (hs : w.heap[s]? = some (.cells #[.int .i64 n] t (0, 0))) (x y : Nat) (hx : x < l) (hy : y < l) (R : Value → World → Prop)
    (h : ∀ w' (n' : Int) (x' y' : Nat), (x' = x ∧ y' = y ∨ x' = y ∧ y' = x) → w'.heap[s]? = some (.cells #[.int .i64 n'] t (0, 0)) → Mod (on s) w w' → R (.tuple #[.int .i64 x', .int .i64 y']) w') :
    Ca Tryz.prog 152 #[.slice d l c, .int .i64 x, .int .i64 y, .pointer (some ⟨s, 0, none⟩), cv] w R := by
  refine ca152 d l c x y (some ⟨s, 0, none⟩) cv w R ?_
  intro w0 e0
  have m0 : Mod no w w0 := by subst e0; exact Mod.drew _
  clear e0
  refine lss hc (hd.no m0) y x rfl rfl hy hx (fun _ wc mc => ?_) (fun _ wc mc => ?_)
  · have m0 := m0.trans mc
    have hs0 := m0.at' hs
    refine ⟨n, by rw [cl hs0]; rfl, ⟨_, by rw [cl1 hs0]; rfl⟩, fz1 hs0 _, ?_⟩
    intro w1 e1
    have hs1 : w1.heap[s]? = some (.cells #[.int .i64 (IntKind.i64.wrap (n + 1))] t (0, 0)) := by subst e1; exact set1 hs0 _ _
    have m1 : Mod (on s) wc w1 := by subst e1; exact Mod.set1 _ _ _ _
    exact h w1 _ y x (.inr ⟨rfl, rfl⟩) hs1 (m0.no_trans m1)
  · have m0 := m0.trans mc
    exact h wc n x y (.inl ⟨rfl, rfl⟩) (m0.at' hs) m0.of_no

omit hl in
theorem median_ok (s : Nat) (t : TypeId) (n : Int) (hs : w.heap[s]? = some (.cells #[.int .i64 n] t (0, 0))) (hne : ¬ rowB d s) (x y z : Nat) (hx : x < l) (hy : y < l) (hz : z < l) (R : Value → World → Prop)
    (h : ∀ w' (n' : Int) (m : Nat), (m = x ∨ m = y ∨ m = z) → w'.heap[s]? = some (.cells #[.int .i64 n'] t (0, 0)) → Mod (on s) w w' → R (.int .i64 m) w') :
    Ca Tryz.prog 146 #[.slice d l c, .int .i64 x, .int .i64 y, .int .i64 z, .pointer (some ⟨s, 0, none⟩), cv] w R := by
  refine ca146 d l c x y z (some ⟨s, 0, none⟩) cv w R ?_
  have keep : ∀ {w'}, Mod (on s) w w' → Rx bndL 35 w' d l c xs := fun hm => hd.mod hm fun k hk he => hne (by cases he; exact hk)
  refine order2_ok cv hc d l c xs w hd s t n hs x y hx hy _ fun w1 n1 x1 y1 h1 hs1 m1 => ⟨_, _, rfl, ?_⟩
  refine order2_ok cv hc d l c xs w1 (keep m1) s t n1 hs1 y1 z (by omega) hz _ fun w2 n2 y2 z2 h2 hs2 m2 => ⟨_, _, rfl, ?_⟩
  refine order2_ok cv hc d l c xs w2 (keep (m1.trans m2)) s t n2 hs2 x1 y2 (by omega) (by omega) _ fun w3 n3 x3 y3 h3 hs3 m3 => ⟨_, _, rfl, ?_⟩
  exact h w3 n3 y3 (by omega) hs3 ((m1.trans m2).trans m3)

theorem medianAdj_ok (s : Nat) (t : TypeId) (n : Int) (hs : w.heap[s]? = some (.cells #[.int .i64 n] t (0, 0))) (hne : ¬ rowB d s) (x : Nat) (hx : 0 < x) (hx1 : x + 1 < l) (R : Value → World → Prop)
    (h : ∀ w' (n' : Int) (m : Nat), (x ≤ m + 1 ∧ m ≤ x + 1) → w'.heap[s]? = some (.cells #[.int .i64 n'] t (0, 0)) → Mod (on s) w w' → R (.int .i64 m) w') :
    Ca Tryz.prog 145 #[.slice d l c, .int .i64 x, .pointer (some ⟨s, 0, none⟩), cv] w R := by
  refine ca145 d l c x (some ⟨s, 0, none⟩) cv w R ?_
  have e1 : IntKind.i64.wrap ((x : Int) - 1) = ((x - 1 : Nat) : Int) := (by first | (simp only [IntKind.wrap_i64]; omega) | omega)
  have e2 : IntKind.i64.wrap ((x : Int) + 1) = ((x + 1 : Nat) : Int) := (by first | (simp only [IntKind.wrap_i64]; omega) | omega)
  rw [W145, e1, e2]
  exact median_ok cv hc d l c xs w hd s t n hs hne (x - 1) x (x + 1) (by omega) (by omega) hx1 _ fun w1 n1 m h1 hs1 m1 => ⟨_, rfl, h w1 n1 m (by rcases h1 with rfl | rfl | rfl <;> omega) hs1 m1⟩

theorem choosePivot_ok (a b : Nat) (hab : a + 8 ≤ b) (hb : b ≤ l) (R : Value → World → Prop)
    (h : ∀ w' (p : Nat) (hint : Int), a ≤ p → p < b → Mod no w w' → R (.tuple #[.int .i64 p, .int .i64 hint]) w') :
    Ca Tryz.prog 123 #[.slice d l c, .int .i64 a, .int .i64 b, cv] w R := by
  refine ca123 d l c a b cv w R ?_
  obtain ⟨elen, e4, ei, ej, ek⟩ := piv_eqs a b l (by omega) hb hl
  rw [W123]
  simp only [elen, e4, ei, ej, ek]
  clear elen e4 ei ej ek
  intro w0 e0
  have m0 : Mod no w w0 := by subst e0; exact Mod.alloc _ _
  have hs0 : w0.heap[w.heap.size]? = some (.cells #[.int .i64 0] 3 (0, 0)) := by subst e0; exact new_at _ _
  clear e0
  have hne : ¬ rowB d w.heap.size := Rx.nblk hd
  have hd0 := hd.no m0
  have keep : ∀ {w'}, Mod (on w.heap.size) w0 w' → Rx bndL 35 w' d l c xs := fun hm => hd0.mod hm fun k hk he => hne (by cases he; exact hk)
  refine ⟨by decide, by decide, by decide, fun x w' => ∃ (m : Nat) (n : Int), x = m ∧ a ≤ m ∧ m < b ∧ w'.heap[w.heap.size]? = some (.cells #[.int .i64 n] 3 (0, 0)) ∧ Mod (on w.heap.size) w0 w', ?_, ?_⟩
  · refine ifK_dec (fun _ => ifK_dec (fun h50 => ?_) (fun _ => ?_)) (fun hn => ?_)
    · refine medianAdj_ok cv hc d l c xs w0 hd0 hl _ 3 0 hs0 hne _ (by omega) (by omega) _ fun w1 n1 x1 h1 hs1 m1 => ⟨_, rfl, ?_⟩
      refine medianAdj_ok cv hc d l c xs w1 (keep m1) hl _ 3 n1 hs1 hne _ (by omega) (by omega) _ fun w2 n2 x2 h2 hs2 m2 => ⟨_, rfl, ?_⟩
      refine medianAdj_ok cv hc d l c xs w2 (keep (m1.trans m2)) hl _ 3 n2 hs2 hne _ (by omega) (by omega) _ fun w3 n3 x3 h3 hs3 m3 => ⟨_, rfl, ?_⟩
      refine median_ok cv hc d l c xs w3 (keep ((m1.trans m2).trans m3)) _ 3 n3 hs3 hne _ _ _ (by omega) (by omega) (by omega) _ fun w4 n4 x4 h4 hs4 m4 => ⟨_, rfl, ?_⟩
      have hx : a ≤ x4 ∧ x4 < b := by
        clear hs1 hs2 hs3 hs4 m1 m2 m3 m4 h
        rcases h4 with rfl | rfl | rfl <;> omega
      exact ⟨x4, n4, rfl, hx.1, hx.2, hs4, ((m1.trans m2).trans m3).trans m4⟩
    · refine median_ok cv hc d l c xs w0 hd0 _ 3 0 hs0 hne _ _ _ (by omega) (by omega) (by omega) _ fun w4 n4 x4 h4 hs4 m4 => ⟨_, rfl, ?_⟩
      have hx : a ≤ x4 ∧ x4 < b := by rcases h4 with rfl | rfl | rfl <;> omega
      exact ⟨x4, n4, rfl, hx.1, hx.2, hs4, m4⟩
    · exact absurd hn (by omega)
  · rintro _ _ w1 ⟨m, n, rfl, h1, h2, hs1, m1⟩
    have m01 : Mod no w w1 := m0.new m1 fun k hk => by cases hk; exact Nat.le_refl _
    refine ⟨n, by rw [cl hs1]; rfl, ifK_of (fun _ => ?_) (fun _ => ifK_of (fun _ => ?_) (fun _ => ?_))⟩
    all_goals exact h w1 m _ h1 h2 m01

/-! ### Reversing, scattering -/
theorem reverse_ok (a b : Nat) (hab : a < b) (hb : b ≤ l) (R : Value → World → Prop)
    (h : ∀ w' ys, Rx bndL 35 w' d l c ys → Seg a b xs ys → Mod (rowB d) w w' → R (.tuple #[]) w') :
    Ca Tryz.prog 124 #[.slice d l c, .int .i64 a, .int .i64 b, cv] w R := by
  refine ca124 d l c a b cv w R ?_
  refine ⟨fun x y w' => ∃ (i j : Nat) (ys : List Bnd), x = i ∧ y = j ∧ a ≤ i ∧ i ≤ b ∧ j < b ∧ Rx bndL 35 w' d l c ys ∧ Seg a b xs ys ∧ Mod (rowB d) w w', fun x y _ => (y - x).toNat,
    ⟨a, b - 1, xs, rfl, (by first | (simp only [IntKind.wrap_i64]; omega) | omega), Nat.le_refl _, by omega, by omega, hd, Seg.refl _ _ _, Mod.refl _ _⟩, ?_⟩
  rintro _ _ _ w1 ⟨i, j, ys, rfl, rfl, hi, hib, hj, hys, hsg, hm⟩
  have hyl := hys.len.1
  refine ifK_dec (fun hij => ?_) (fun _ => h w1 ys hys hsg hm)
  intro w2 e2
  have m2 : Mod no w1 w2 := by subst e2; exact Mod.drew _
  clear e2
  refine (hys.no m2).swp hc.ho hc.hs i j rfl rfl (by omega) (by omega) fun w3 h3 m3 => ?_
  exact ⟨⟨i + 1, j - 1, _, (by first | (simp only [IntKind.wrap_i64]; omega) | omega), (by first | (simp only [IntKind.wrap_i64]; omega) | omega), by omega, by omega, by omega, h3, hsg.trans (Seg.swap (by omega) (by omega) (by omega) (by omega) (by omega) (by omega)), (hm.trans_no m2).trans m3⟩, (by first | (simp only [IntKind.wrap_i64]; omega) | omega)⟩

/-! ### Parting -/
omit hd in
/-- As long as the left one is less. -/
theorem part_up (a b : Nat) (hb : b ≤ l) : ∀ (ys : List Bnd) (w' : World) (i j : Nat) (J : Int) (Q : Int → World → Prop), J = j → Rx bndL 35 w' d l c ys → Pt ys a b i j →
    (∀ (i' : Nat) w'', Rx bndL 35 w'' d l c ys → Pt ys a b i' j → (i' ≤ j → at0 ys a ≤ at0 ys i') → i ≤ i' → Mod no w' w'' → Q i' w'') →
    (∃ (z : Int → World → Prop) (m : Int → World → Nat), z i w' ∧ ∀ (_ : Nat → Value) (x : Int) (w1 : World), z x w1 → atW w1.drew fun w2 => ifK (decide (x ≤ J))
      (∃ ad : Addr, d = some ad ∧ (0 : Int) ≤ x ∧ x < (↑l : Int) ∧ ldW Tryz.prog 35 (.pointer (some (Addr.add ad (Int.toNat x * 3)))) w2 fun y =>
        ∃ ad : Addr, d = some ad ∧ (0 : Int) ≤ (a : Int) ∧ (a : Int) < (↑l : Int) ∧ ldW Tryz.prog 35 (.pointer (some (Addr.add ad (Int.toNat (a : Int) * 3)))) w2 fun y' =>
        CaV Tryz.prog cv (Array.mk [y, y']) w2 (fun v w' => ∃ b : Int, v = Value.int .i64 b ∧ ifK (decide (b < 0)) (z (IntKind.wrap .i64 (x + 1)) w' ∧ m (IntKind.wrap .i64 (x + 1)) w' < m x w1) (Q x w')))
      (Q x w2)) := by
  intro ys w' i j J Q hJ hys hpt hQ
  refine ⟨fun x w'' => ∃ i' : Nat, x = i' ∧ Rx bndL 35 w'' d l c ys ∧ Pt ys a b i' j ∧ i ≤ i' ∧ Mod no w' w'', fun x _ => ((j : Int) + 1 - x).toNat, ⟨i, rfl, hys, hpt, Nat.le_refl _, Mod.refl _ _⟩, ?_⟩
  rintro _ _ w1 ⟨i', rfl, hy1, hp1, hi1, m1⟩ w2 e2
  have m2 : Mod no w1 w2 := by subst e2; exact Mod.drew _
  clear e2
  have hjb := hp1.jb
  have hai := hp1.ai
  refine ifK_dec (fun hle => ?_) (fun hgt => hQ i' w2 (hy1.no m2) hp1 (fun h => by omega) hi1 (m1.trans m2))
  refine lss hc (hy1.no m2) i' a rfl rfl (by omega) (by omega) (fun hlt wc mc => ?_) (fun hge wc mc => hQ i' wc ((hy1.no m2).no mc) hp1 (fun _ => Lin.nlt hge) hi1 ((m1.trans m2).trans mc))
  exact ⟨⟨i' + 1, (by first | (simp only [IntKind.wrap_i64]; omega) | omega), (hy1.no m2).no mc, hp1.up (by omega) (Lin.lle hlt), by omega, (m1.trans m2).trans mc⟩, (by first | (simp only [IntKind.wrap_i64]; omega) | omega)⟩
omit hd in
/-- As long as the right one is not less. -/
theorem part_down (a b : Nat) (hb : b ≤ l) : ∀ (ys : List Bnd) (w' : World) (i j : Nat) (I : Int) (Q : Int → World → Prop), I = i → Rx bndL 35 w' d l c ys → Pt ys a b i j → (i ≤ j → at0 ys a ≤ at0 ys i) →
    (∀ (j' : Nat) w'', Rx bndL 35 w'' d l c ys → Pt ys a b i j' → (i ≤ j' → at0 ys a ≤ at0 ys i ∧ at0 ys j' < at0 ys a) → j' ≤ j → Mod no w' w'' → Q j' w'') →
    (∃ (z : Int → World → Prop) (m : Int → World → Nat), z j w' ∧ ∀ (_ : Nat → Value) (x : Int) (w1 : World), z x w1 → atW w1.drew fun w2 => ifK (decide (I ≤ x))
      (∃ ad : Addr, d = some ad ∧ (0 : Int) ≤ x ∧ x < (↑l : Int) ∧ ldW Tryz.prog 35 (.pointer (some (Addr.add ad (Int.toNat x * 3)))) w2 fun y =>
        ∃ ad : Addr, d = some ad ∧ (0 : Int) ≤ (a : Int) ∧ (a : Int) < (↑l : Int) ∧ ldW Tryz.prog 35 (.pointer (some (Addr.add ad (Int.toNat (a : Int) * 3)))) w2 fun y' =>
        CaV Tryz.prog cv (Array.mk [y, y']) w2 (fun v w' => ∃ b : Int, v = Value.int .i64 b ∧ ifK (!decide (b < 0)) (z (IntKind.wrap .i64 (x - 1)) w' ∧ m (IntKind.wrap .i64 (x - 1)) w' < m x w1) (Q x w')))
      (Q x w2)) := by
  intro ys w' i j I Q hI hys hpt hi0 hQ
  refine ⟨fun x w'' => ∃ j' : Nat, x = j' ∧ Rx bndL 35 w'' d l c ys ∧ Pt ys a b i j' ∧ j' ≤ j ∧ Mod no w' w'', fun x _ => (x + 1 - (i : Int)).toNat, ⟨j, rfl, hys, hpt, Nat.le_refl _, Mod.refl _ _⟩, ?_⟩
  rintro _ _ w1 ⟨j', rfl, hy1, hp1, hj1, m1⟩ w2 e2
  have m2 : Mod no w1 w2 := by subst e2; exact Mod.drew _
  clear e2
  have hjb := hp1.jb
  have hai := hp1.ai
  refine ifK_dec (fun hle => ?_) (fun hgt => hQ j' w2 (hy1.no m2) hp1 (fun h => by omega) hj1 (m1.trans m2))
  refine nls hc (hy1.no m2) j' a rfl rfl (by omega) (by omega) (fun hge wc mc => ?_) (fun hlt wc mc => hQ j' wc ((hy1.no m2).no mc) hp1 (fun _ => ⟨hi0 (by omega), hlt⟩) hj1 ((m1.trans m2).trans mc))
  exact ⟨⟨j' - 1, (by first | (simp only [IntKind.wrap_i64]; omega) | omega), (hy1.no m2).no mc, hp1.down (by omega) (Lin.nlt hge), by omega, (m1.trans m2).trans mc⟩, (by first | (simp only [IntKind.wrap_i64]; omega) | omega)⟩
theorem partition_ok (a b p : Nat) (hap : a ≤ p) (hpb : p < b) (hb : b ≤ l) (R : Value → World → Prop)
    (h : ∀ w' ys (m : Nat) (q : Bool), Rx bndL 35 w' d l c ys → Seg a b xs ys → Parted ys a m b → Mod (rowB d) w w' → R (.tuple #[.int .i64 m, .bool q]) w') :
    Ca Tryz.prog 127 #[.slice d l c, .int .i64 a, .int .i64 b, .int .i64 p, cv] w R := by
  have hxl := hd.len.1
  refine ca127 d l c a b p cv w R ?_
  have ea : IntKind.i64.wrap ((a : Int) + 1) = ((a + 1 : Nat) : Int) := (by first | (simp only [IntKind.wrap_i64]; omega) | omega)
  have eb : IntKind.i64.wrap ((b : Int) - 1) = ((b - 1 : Nat) : Int) := (by first | (simp only [IntKind.wrap_i64]; omega) | omega)
  rw [W127, ea, eb]
  clear ea eb
  intro w0 e0
  have m0 : Mod no w w0 := by subst e0; exact Mod.drew _
  clear e0
  refine (hd.no m0).swp hc.ho hc.hs a p rfl rfl (by omega) (by omega) fun w1 h1 m1 => ?_
  have m1 := m0.no_trans m1
  have s1 : Seg a b xs (swapL xs a p) := Seg.swap (by omega) (by omega) (by omega) (by omega) hap hpb
  have fin : ∀ (ys : List Bnd) (w' : World) (i j : Nat) (q : Bool), Rx bndL 35 w' d l c ys → Seg a b xs ys → Pt ys a b i j → j < i → Mod (rowB d) w w' →
      ∀ w'', Rx bndL 35 w'' d l c (swapL ys j a) → Mod (rowB d) w' w'' → R (.tuple #[.int .i64 j, .bool q]) w'' := by
    intro ys w' i j q hys hsg hpt hji hm w'' hy'' m''
    have hyl := hys.len.1
    have h1 := hpt.ai
    have h2 := hpt.ij
    have h3 := hpt.jb
    exact h w'' _ j q hy'' (hsg.trans (Seg.swap (by omega) (by omega) (by omega) (by omega) (by omega) (by omega))) (hpt.done (by omega) hji) (hm.trans m'')
  refine ⟨_, part_up cv hc d l c hl a b hb _ w1 (a + 1) (b - 1) _ (fun x w' => ∃ i : Nat, x = i ∧ Rx bndL 35 w' d l c (swapL xs a p) ∧ Pt (swapL xs a p) a b i (b - 1) ∧ (i ≤ b - 1 → at0 (swapL xs a p) a ≤ at0 (swapL xs a p) i) ∧ Mod (rowB d) w w') rfl h1
    ⟨Nat.le_refl _, by omega, by omega, fun k h1 h2 => by omega, fun k h1 h2 => by omega⟩ (fun i w' h1 h2 h3 _ h4 => ⟨i, rfl, h1, h2, h3, m1.trans_no h4⟩), ?_⟩
  rintro _ _ w2 ⟨i, rfl, h2, hpt, hi, m2⟩
  refine ⟨_, part_down cv hc d l c hl a b hb _ w2 i (b - 1) _ (fun x w' => ∃ j : Nat, x = j ∧ Rx bndL 35 w' d l c (swapL xs a p) ∧ Pt (swapL xs a p) a b i j ∧ (i ≤ j → at0 (swapL xs a p) a ≤ at0 (swapL xs a p) i ∧ at0 (swapL xs a p) j < at0 (swapL xs a p) a) ∧ Mod (rowB d) w w') rfl h2 hpt hi
    (fun j w' h1 h2 h3 _ h4 => ⟨j, rfl, h1, h2, h3, m2.trans_no h4⟩), ?_⟩
  rintro _ _ w3 ⟨j, rfl, h3, hpt, hij, m3⟩
  have hjb := hpt.jb
  have hai := hpt.ai
  have hil := hpt.ij
  have step : ∀ (ys : List Bnd) (w' : World) (i j : Nat), Rx bndL 35 w' d l c ys → Seg a b xs ys → Pt ys a b i j → (i ≤ j → at0 ys a ≤ at0 ys i ∧ at0 ys j < at0 ys a) → i ≤ j → i < j := by
    intro ys w' i j _ _ hpt hij hle
    refine Nat.lt_of_le_of_ne hle fun e => ?_
    subst e
    have := hij hle
    exact absurd this.2 (Lin.nle this.1)
  refine ifK_dec (fun hgt => ?_) (fun hle => ?_)
  · intro w4 e4
    have m4 : Mod no w3 w4 := by subst e4; exact Mod.drew _
    clear e4
    refine (h3.no m4).swp hc.ho hc.hs j a rfl rfl (by omega) (by omega) fun w5 h5 m5 => ?_
    exact fin _ w4 i j true (h3.no m4) s1 hpt (by omega) (m3.trans_no m4) w5 h5 m5
  · intro w4 e4
    have m4 : Mod no w3 w4 := by subst e4; exact Mod.drew _
    clear e4
    have hlt := step _ w3 i j h3 s1 hpt hij (by omega)
    obtain ⟨hx, hy⟩ := hij (by omega)
    refine (h3.no m4).swp hc.ho hc.hs i j rfl rfl (by omega) (by omega) fun w5 h5 m5 => ?_
    have hl3 := h3.len.1
    refine ⟨fun x y w' => ∃ (i j : Nat) (ys : List Bnd), x = i ∧ y = j ∧ Rx bndL 35 w' d l c ys ∧ Seg a b xs ys ∧ Pt ys a b i j ∧ Mod (rowB d) w w', fun x y _ => (y + 1 - x).toNat,
      ⟨i + 1, j - 1, _, (by first | (simp only [IntKind.wrap_i64]; omega) | omega), (by first | (simp only [IntKind.wrap_i64]; omega) | omega), h5, s1.trans (Seg.swap (by omega) (by omega) (by omega) (by omega) (by omega) (by omega)), hpt.swap (by omega) hlt (Lin.lle hy) hx, (m3.trans_no m4).trans m5⟩, ?_⟩
    rintro _ _ _ w6 ⟨i6, j6, ys, rfl, rfl, h6, s6, hpt6, m6⟩
    refine ⟨_, part_up cv hc d l c hl a b hb _ w6 i6 j6 _ (fun x w' => ∃ i : Nat, x = i ∧ Rx bndL 35 w' d l c ys ∧ Pt ys a b i j6 ∧ (i ≤ j6 → at0 ys a ≤ at0 ys i) ∧ i6 ≤ i ∧ Mod (rowB d) w w') rfl h6 hpt6
      (fun i w' h1 h2 h3 h5 h4 => ⟨i, rfl, h1, h2, h3, h5, m6.trans_no h4⟩), ?_⟩
    rintro _ _ w7 ⟨i7, rfl, h7, hpt7, hi7, hii, m7⟩
    refine ⟨_, part_down cv hc d l c hl a b hb _ w7 i7 j6 _ (fun x w' => ∃ j : Nat, x = j ∧ Rx bndL 35 w' d l c ys ∧ Pt ys a b i7 j ∧ (i7 ≤ j → at0 ys a ≤ at0 ys i7 ∧ at0 ys j < at0 ys a) ∧ j ≤ j6 ∧ Mod (rowB d) w w') rfl h7 hpt7 hi7
      (fun j w' h1 h2 h3 h5 h4 => ⟨j, rfl, h1, h2, h3, h5, m7.trans_no h4⟩), ?_⟩
    rintro _ _ w8 ⟨j8, rfl, h8, hpt8, hij8, hjj, m8⟩
    have hjb8 := hpt8.jb
    have hai8 := hpt8.ai
    have hil8 := hpt8.ij
    have hl8 := h8.len.1
    refine ifK_dec (fun hgt => ?_) (fun hle => ?_)
    · intro w9 e9
      have m9 : Mod no w8 w9 := by subst e9; exact Mod.drew _
      clear e9
      refine (h8.no m9).swp hc.ho hc.hs j8 a rfl rfl (by omega) (by omega) fun w10 h10 m10 => ?_
      exact fin _ w9 i7 j8 false (h8.no m9) s6 hpt8 (by omega) (m8.trans_no m9) w10 h10 m10
    · intro w9 e9
      have m9 : Mod no w8 w9 := by subst e9; exact Mod.drew _
      clear e9
      have hlt8 := step _ w8 i7 j8 h8 s6 hpt8 hij8 (by omega)
      obtain ⟨hx8, hy8⟩ := hij8 (by omega)
      refine (h8.no m9).swp hc.ho hc.hs i7 j8 rfl rfl (by omega) (by omega) fun w10 h10 m10 => ?_
      exact ⟨⟨i7 + 1, j8 - 1, _, (by first | (simp only [IntKind.wrap_i64]; omega) | omega), (by first | (simp only [IntKind.wrap_i64]; omega) | omega), h10, s6.trans (Seg.swap (by omega) (by omega) (by omega) (by omega) (by omega) (by omega)), hpt8.swap (by omega) hlt8 (Lin.lle hy8) hx8, (m8.trans_no m9).trans m10⟩, (by first | (simp only [IntKind.wrap_i64]; omega) | omega)⟩
end
end Go.Proofs.YtehhhkcemmfjpaaGreatDoor.SrtB

/- The library's general sort, at one type: parting off what is equal, heap sort, scattering, sorting what is nearly sorted. -/
namespace Go.Proofs.YtehhhkcemmfjpaaGreatDoor.SrtB
open Go Go.Proofs.YtehhhkcemmfjpaaGreatDoor Go.Proofs.YtehhhkcemmfjpaaGreatDoor.St

section
variable (cv : Value) (hc : Cmp cv) (d : Option Addr) (l c : Nat) (xs : List Bnd) (w : World) (hd : Rx bndL 35 w d l c xs) (hl : l < 4611686018427387904)
include hc hd hl

theorem partEq_ok (a b p : Nat) (hap : a ≤ p) (hpb : p < b) (hb : b ≤ l) (hmin : ∀ k, a ≤ k → k < b → at0 xs p ≤ at0 xs k) (R : Value → World → Prop)
    (h : ∀ w' ys (m : Nat), Rx bndL 35 w' d l c ys → Seg a b xs ys → Eqd ys a m b → Mod (rowB d) w w' → R (.int .i64 m) w') :
    Ca Tryz.prog 126 #[.slice d l c, .int .i64 a, .int .i64 b, .int .i64 p, cv] w R := by
  refine ca126 d l c a b p cv w R ?_
  have ea : IntKind.i64.wrap ((a : Int) + 1) = ((a + 1 : Nat) : Int) := (by first | (simp only [IntKind.wrap_i64]; omega) | omega)
  have eb : IntKind.i64.wrap ((b : Int) - 1) = ((b - 1 : Nat) : Int) := (by first | (simp only [IntKind.wrap_i64]; omega) | omega)
  rw [W126, ea, eb]
  clear ea eb
  intro w0 e0
  have m0 : Mod no w w0 := by subst e0; exact Mod.drew _
  clear e0
  refine (hd.no m0).swp hc.ho hc.hs a p rfl rfl (by omega) (by omega) fun w1 h1 m1 => ?_
  have m1 := m0.no_trans m1
  have s1 : Seg a b xs (swapL xs a p) := hd.seg (by omega) (by omega) (by omega) (by omega) hap hpb
  have p1 : AtE (swapL xs a p) a (at0 xs p) := by
    refine ⟨?_⟩
    rw [at0_swapL (hd.lt (by omega)) (hd.lt (by omega))]
    by_cases e : a = p
    · rw [if_pos e, e]
    · rw [if_neg e, if_pos rfl]
  refine ⟨fun x y w' => ∃ (i j : Nat) (ys : List Bnd), x = i ∧ y = j ∧ Rx bndL 35 w' d l c ys ∧ Seg a b xs ys ∧ Pt ys a b i j ∧ AtE ys a (at0 xs p) ∧ Mod (rowB d) w w', fun x y _ => (y + 1 - x).toNat,
    ⟨a + 1, b - 1, _, rfl, rfl, h1, s1, ⟨Nat.le_refl _, by omega, by omega, fun k h1 h2 => by omega, fun k h1 h2 => by omega⟩, p1, m1⟩, ?_⟩
  rintro _ _ _ w2 ⟨i, j, ys, rfl, rfl, h2, s2, hpt, hp2, m2⟩
  refine ⟨fun x w' => ∃ i' : Nat, x = i' ∧ Rx bndL 35 w' d l c ys ∧ Pt ys a b i' j ∧ i ≤ i' ∧ (i' ≤ j → at0 ys a < at0 ys i') ∧ Mod (rowB d) w w', ⟨fun x w' => ∃ i' : Nat, x = i' ∧ Rx bndL 35 w' d l c ys ∧ Pt ys a b i' j ∧ i ≤ i' ∧ Mod (rowB d) w w',
    fun x _ => ((j : Int) + 1 - x).toNat, ⟨i, rfl, h2, hpt, Nat.le_refl _, m2⟩, ?_⟩, ?_⟩
  · rintro _ _ w3 ⟨i', rfl, h3, hp3, hi3, m3⟩ w4 e4
    have m4 : Mod no w3 w4 := by subst e4; exact Mod.drew _
    clear e4
    have hjb := hp3.jb
    have hai := hp3.ai
    have m4' := m3.trans_no m4
    refine ifK_dec (fun hle => ?_) (fun hgt => ⟨i', rfl, h3.no m4, hp3, hi3, fun h => by omega, m4'⟩)
    refine nls hc (h3.no m4) a i' rfl rfl (by omega) (by omega) (fun hge wc mc => ?_) (fun hlt wc mc => ⟨i', rfl, (h3.no m4).no mc, hp3, hi3, fun _ => hlt, m4'.trans_no mc⟩)
    exact ⟨⟨i' + 1, (by first | (simp only [IntKind.wrap_i64]; omega) | omega), (h3.no m4).no mc, hp3.up (by omega) (Lin.nlt hge), by omega, m4'.trans_no mc⟩, (by first | (simp only [IntKind.wrap_i64]; omega) | omega)⟩
  rintro _ _ w5 ⟨i5, rfl, h5, hp5, hi5, hx5, m5⟩
  refine ⟨fun x w' => ∃ j' : Nat, x = j' ∧ Rx bndL 35 w' d l c ys ∧ Pt ys a b i5 j' ∧ j' ≤ j ∧ (i5 ≤ j' → at0 ys j' ≤ at0 ys a) ∧ Mod (rowB d) w w', ⟨fun x w' => ∃ j' : Nat, x = j' ∧ Rx bndL 35 w' d l c ys ∧ Pt ys a b i5 j' ∧ j' ≤ j ∧ Mod (rowB d) w w',
    fun x _ => (x + 1 - (i5 : Int)).toNat, ⟨j, rfl, h5, hp5, Nat.le_refl _, m5⟩, ?_⟩, ?_⟩
  · rintro _ _ w3 ⟨j', rfl, h3, hp3, hi3, m3⟩ w4 e4
    have m4 : Mod no w3 w4 := by subst e4; exact Mod.drew _
    clear e4
    have hjb := hp3.jb
    have hai := hp3.ai
    have m4' := m3.trans_no m4
    refine ifK_dec (fun hle => ?_) (fun hgt => ⟨j', rfl, h3.no m4, hp3, hi3, fun h => by omega, m4'⟩)
    refine lss hc (h3.no m4) a j' rfl rfl (by omega) (by omega) (fun hlt wc mc => ?_) (fun hge wc mc => ⟨j', rfl, (h3.no m4).no mc, hp3, hi3, fun _ => Lin.nlt hge, m4'.trans_no mc⟩)
    exact ⟨⟨j' - 1, (by first | (simp only [IntKind.wrap_i64]; omega) | omega), (h3.no m4).no mc, hp3.down (by omega) (Lin.lle hlt), by omega, m4'.trans_no mc⟩, (by first | (simp only [IntKind.wrap_i64]; omega) | omega)⟩
  rintro _ _ w6 ⟨j6, rfl, h6, hp6, hj6, hx6, m6⟩
  have hjb := hp6.jb
  have hai := hp6.ai
  have hil := hp6.ij
  refine ifK_dec (fun hgt => ?_) (fun hle => ?_)
  · refine h w6 ys i5 h6 s2 (hp6.eqd (by omega) fun k h7 h8 => ?_) m6
    rw [hp2.eq]
    exact s2.all (hd.le hb) (P := fun v => at0 xs p ≤ v) hmin k h7 h8
  · intro w7 e7
    have m7 : Mod no w6 w7 := by subst e7; exact Mod.drew _
    clear e7
    have hlt : i5 < j6 := by
      refine Nat.lt_of_le_of_ne (by omega) fun e => ?_
      subst e
      have h7 := hx5 (by omega)
      have h8 := hx6 (by omega)
      exact absurd h7 (Lin.nle h8)
    refine (h6.no m7).swp hc.ho hc.hs i5 j6 rfl rfl (by omega) (by omega) fun w8 h8 m8 => ?_
    refine ⟨⟨i5 + 1, j6 - 1, _, (by first | (simp only [IntKind.wrap_i64]; omega) | omega), (by first | (simp only [IntKind.wrap_i64]; omega) | omega), h8, s2.trans (h6.seg (by omega) (by omega) (by omega) (by omega) (by omega) (by omega)), hp6.swap (h6.le hb) hlt (hx6 (by omega)) (Lin.lle (hx5 (by omega))), ?_, (m6.trans_no m7).trans m8⟩, (by first | (simp only [IntKind.wrap_i64]; omega) | omega)⟩
    exact ⟨by rw [at0_swapL (h6.lt (by omega)) (h6.lt (by omega)), if_neg (by omega), if_neg (by omega), hp2.eq]⟩

/-! ### Heap sort -/
theorem siftDown_ok (lo hi f : Nat) (hlo : lo ≤ hi) (hf : f + hi ≤ l) (hh : Hp xs f (lo + 1) hi) (R : Value → World → Prop)
    (h : ∀ w' ys, Rx bndL 35 w' d l c ys → Seg (f + lo) (f + hi) xs ys → Hp ys f lo hi → Mod (rowB d) w w' → R (.tuple #[]) w') :
    Ca Tryz.prog 144 #[.slice d l c, .int .i64 lo, .int .i64 hi, .int .i64 f, cv] w R := by
  refine ca144 d l c lo hi f cv w R ?_
  refine ⟨fun x w' => ∃ (r : Nat) (ys : List Bnd), x = r ∧ lo ≤ r ∧ (r < hi ∨ r = lo) ∧ Rx bndL 35 w' d l c ys ∧ Seg (f + lo) (f + hi) xs ys ∧ Sift ys f lo hi r ∧ Mod (rowB d) w w', fun x _ => ((hi : Int) - x).toNat,
    ⟨lo, xs, rfl, Nat.le_refl _, .inr rfl, hd, Seg.refl _ _ _, Sift.start hh, Mod.refl _ _⟩, ?_⟩
  rintro _ _ w1 ⟨r, ys, rfl, hlr, hr, h1, s1, hs1, m1⟩
  refine ifK_of (fun hb => ?_) (fun hb => ?_)
  · have hb : hi ≤ 2 * r + 1 := by
      have := of_decide_eq_true hb
      clear hb
      simp only [IntKind.wrap_i64] at this
      omega
    exact h w1 ys h1 s1 (hs1.done fun k h2 h3 => by omega) m1
  have hb : 2 * r + 1 < hi := by
    have := of_decide_eq_false hb
    clear hb
    simp only [IntKind.wrap_i64] at this
    omega
  refine ⟨fun x w' => ∃ k : Nat, x = k ∧ (k = 2 * r + 1 ∨ k = 2 * r + 2) ∧ k < hi ∧ (∀ q, (q = 2 * r + 1 ∨ q = 2 * r + 2) → q < hi → at0 ys (f + q) ≤ at0 ys (f + k)) ∧ Rx bndL 35 w' d l c ys ∧ Mod (rowB d) w w', ?_, ?_⟩
  · intro w2 e2
    have m2 : Mod no w1 w2 := by subst e2; exact Mod.drew _
    clear e2
    refine ifK_of (fun hcc => ?_) (fun hcc => ?_)
    · have hcc : 2 * r + 2 < hi := by
        have := of_decide_eq_true hcc
        clear hcc
        simp only [IntKind.wrap_i64] at this
        omega
      refine lss hc (h1.no m2) (f + (2 * r + 1)) (f + (2 * r + 2)) (by first | (simp only [IntKind.wrap_i64]; omega) | omega) (by first | (simp only [IntKind.wrap_i64]; omega) | omega) (by omega) (by omega) (fun hlt wc mc => ?_) (fun hge wc mc => ?_)
      · refine ⟨2 * r + 2, (by first | (simp only [IntKind.wrap_i64]; omega) | omega), .inr rfl, hcc, fun q hq hqh => ?_, (h1.no m2).no mc, (m1.trans_no m2).trans_no mc⟩
        rcases hq with rfl | rfl
        · exact Lin.lle hlt
        · exact Lin.refl _
      · refine ⟨2 * r + 1, (by first | (simp only [IntKind.wrap_i64]; omega) | omega), .inl rfl, hb, fun q hq hqh => ?_, (h1.no m2).no mc, (m1.trans_no m2).trans_no mc⟩
        rcases hq with rfl | rfl
        · exact Lin.refl _
        · exact Lin.nlt hge
    · have hcc : hi ≤ 2 * r + 2 := by
        have := of_decide_eq_false hcc
        clear hcc
        simp only [IntKind.wrap_i64] at this
        omega
      refine ⟨2 * r + 1, (by first | (simp only [IntKind.wrap_i64]; omega) | omega), .inl rfl, hb, fun q hq hqh => ?_, h1.no m2, m1.trans_no m2⟩
      rcases hq with rfl | rfl
      · exact Lin.refl _
      · omega
  rintro _ _ w3 ⟨k, rfl, hk, hkh, hmax, h3, m3⟩ w4 e4
  have m4 : Mod no w3 w4 := by subst e4; exact Mod.drew _
  clear e4
  refine nls hc (h3.no m4) (f + r) (f + k) (by first | (simp only [IntKind.wrap_i64]; omega) | omega) (by first | (simp only [IntKind.wrap_i64]; omega) | omega) (by omega) (by omega) (fun hge wc mc => ?_) (fun hlt wc mc => ?_)
  · exact h wc ys ((h3.no m4).no mc) s1 (hs1.done fun q hq hqh => Lin.tr (hmax q hq hqh) (Lin.nlt hge)) ((m3.trans_no m4).trans_no mc)
  · intro w5 e5
    have m5 : Mod no w4 w5 := by subst e5; exact mc.trans (Mod.drew _)
    clear e5
    refine ((h3.no m4).no m5).swp hc.ho hc.hs (f + r) (f + k) (by first | (simp only [IntKind.wrap_i64]; omega) | omega) (by first | (simp only [IntKind.wrap_i64]; omega) | omega) (by omega) (by omega) fun w6 h6 m6 => ?_
    refine ⟨⟨k, _, rfl, by omega, .inl hkh, h6, s1.trans (h1.seg (by omega) (by omega) (by omega) (by omega) (by omega) (by omega)), hs1.step hlr (h1.le hf) hk hkh hmax hlt, ((m3.trans_no m4).trans_no m5).trans m6⟩, by simp only; omega⟩

theorem heapSort_ok (a b : Nat) (hab : a < b) (hb : b ≤ l) (R : Value → World → Prop)
    (h : ∀ w' ys, Rx bndL 35 w' d l c ys → Seg a b xs ys → Srt ys a b → Mod (rowB d) w w' → R (.tuple #[]) w') :
    Ca Tryz.prog 121 #[.slice d l c, .int .i64 a, .int .i64 b, cv] w R := by
  refine ca121 d l c a b cv w R ?_
  obtain ⟨n, rfl⟩ : ∃ n, b = a + (n + 1) := ⟨b - a - 1, by omega⟩
  have e1 : IntKind.i64.wrap (((a + (n + 1) : Nat) : Int) - a) = ((n + 1 : Nat) : Int) := (by first | (simp only [IntKind.wrap_i64]; omega) | omega)
  have e2 : IntKind.i64.wrap (((n + 1 : Nat) : Int) - 1) = (n : Int) := (by first | (simp only [IntKind.wrap_i64]; omega) | omega)
  have e3 : Int.tdiv (n : Int) 2 = ((n / 2 : Nat) : Int) := by rw [show (2 : Int) = ((2 : Nat) : Int) from rfl, ← Int.ofNat_tdiv]
  have e4 : IntKind.i64.wrap ((n / 2 : Nat) : Int) = ((n / 2 : Nat) : Int) := (by first | (simp only [IntKind.wrap_i64]; omega) | omega)
  rw [W121, e1, e2, e3, e4]
  clear e1 e2 e3 e4
  refine ⟨by decide, ?_⟩
  refine ⟨fun x w' => ∃ (i : Nat) (ys : List Bnd), x = (i : Int) - 1 ∧ i ≤ n + 1 ∧ Rx bndL 35 w' d l c ys ∧ Seg a (a + (n + 1)) xs ys ∧ Hp ys a i (n + 1) ∧ Mod (rowB d) w w', fun x _ => (x + 1).toNat,
    ⟨n / 2 + 1, xs, by omega, by omega, hd, Seg.refl _ _ _, fun p k h1 h2 h3 => by omega, Mod.refl _ _⟩, ?_⟩
  rintro _ _ w1 ⟨i, ys, rfl, hi, h1, s1, hp1, m1⟩
  refine ifK_dec (fun hge => ?_) (fun hlt => ?_)
  · obtain ⟨k, rfl⟩ : ∃ k, i = k + 1 := ⟨i - 1, by omega⟩
    rw [show ((k + 1 : Nat) : Int) - 1 = (k : Int) by omega]
    refine siftDown_ok cv hc d l c ys w1 h1 hl k (n + 1) a (by omega) (by omega) hp1 _ fun w2 zs h2 s2 hp2 m2 => ⟨rfl, ⟨k, zs, (by first | (simp only [IntKind.wrap_i64]; omega) | omega), by omega, h2, s1.trans (s2.mono (by omega) (by omega)), hp2, m1.trans m2⟩, (by first | (simp only [IntKind.wrap_i64]; omega) | omega)⟩
  · have : i = 0 := by omega
    subst this
    refine ⟨fun x w' => ∃ (i : Nat) (ys : List Bnd), x = (i : Int) - 1 ∧ i ≤ n + 1 ∧ Rx bndL 35 w' d l c ys ∧ Seg a (a + (n + 1)) xs ys ∧ Pop ys a i (n + 1) ∧ Mod (rowB d) w w', fun x _ => (x + 1).toNat,
      ⟨n + 1, ys, by omega, by omega, h1, s1, Pop.start hp1, m1⟩, ?_⟩
    rintro _ _ w2 ⟨i, ys, rfl, hi, h2, s2, hp2, m2⟩
    refine ifK_dec (fun hge => ?_) (fun hlt => ?_)
    · obtain ⟨k, rfl⟩ : ∃ k, i = k + 1 := ⟨i - 1, by omega⟩
      rw [show ((k + 1 : Nat) : Int) - 1 = (k : Int) by omega]
      intro w3 e3
      have m3 : Mod no w2 w3 := by subst e3; exact Mod.drew _
      clear e3
      refine (h2.no m3).swp hc.ho hc.hs a (a + k) rfl (by first | (simp only [IntKind.wrap_i64]; omega) | omega) (by omega) (by omega) fun w4 h4 m4 => ?_
      refine siftDown_ok cv hc d l c _ w4 h4 hl 0 k a (by omega) (by omega) (hp2.swap (by omega) (h2.le (by omega))) _ fun w5 zs h5 s5 hp5 m5 => ⟨rfl, ⟨k, zs, (by first | (simp only [IntKind.wrap_i64]; omega) | omega), by omega, h5, ?_, hp2.step (by omega) (h2.le (by omega)) s5 hp5, ((m2.trans_no m3).trans m4).trans m5⟩, (by first | (simp only [IntKind.wrap_i64]; omega) | omega)⟩
      exact (s2.trans (h2.seg (by omega) (by omega) (by omega) (by omega) (by omega) (by omega))).trans (s5.mono (by omega) (by omega))
    · have : i = 0 := by omega
      subst this
      exact h w2 ys h2 s2 hp2.done m2
end

/-! ### Scattering -/
theorem wrapU (x : Int) : IntKind.wrap .u64 x = x % 18446744073709551616 := by simp [IntKind.wrap, IntKind.bits, IntKind.signed]
theorem nextPow_ok (n : Nat) (hn : 0 < n) (hl : n < 4611686018427387904) (w : World) (R : Value → World → Prop) (h : ∀ k : Nat, k ≤ 2 * n → 0 < k → R (.int .u64 k) w) : Ca Tryz.prog 140 #[.int .i64 n] w R := by
  refine ca140 n w R ?_
  have e1 : IntKind.wrap .u64 (n : Int) = n := by rw [wrapU]; omega
  rw [W140, e1]
  clear e1
  refine bitsLen_ok n w _ fun k hk => ⟨_, rfl, by omega, ?_⟩
  obtain ⟨h1, h2⟩ := hk (by omega) (by omega)
  have h3 : ((2 ^ k : Nat) : Int) ≤ 2 * n := by simpa using h2
  have h4 : 0 < 2 ^ k := Nat.pow_pos (by decide)
  have e2 : IntKind.wrap .u64 (1 * 2 ^ min (Int.toNat (k : Int)) 64) = ((2 ^ k : Nat) : Int) := by
    have e3 : min (Int.toNat (k : Int)) 64 = k := by omega
    have e4 : (1 : Int) * 2 ^ k = ((2 ^ k : Nat) : Int) := by simp
    rw [e3, e4, wrapU]
    omega
  rw [e2]
  exact h _ (by omega) h4
theorem xorNext_ok (s : Nat) (t : TypeId) (n : Int) (w : World) (hs : w.heap[s]? = some (.cells #[.int .u64 n] t (0, 0))) (R : Value → World → Prop)
    (h : ∀ w' (n' : Int), w'.heap[s]? = some (.cells #[.int .u64 n'] t (0, 0)) → Mod (on s) w w' → R (.int .u64 n') w') : Ca Tryz.prog 141 #[.pointer (some ⟨s, 0, none⟩)] w R := by
  refine ca141 (some ⟨s, 0, none⟩) w R ?_
  have step : ∀ (w : World) (n m : Int) (K : World → Prop), w.heap[s]? = some (.cells #[.int .u64 n] t (0, 0)) → (∀ w', w'.heap[s]? = some (.cells #[.int .u64 m] t (0, 0)) → Mod (on s) w w' → K w') →
      (∃ v : Value, w.cell? (Addr.add ⟨s, 0, none⟩ 0) = some v) ∧ w.frozen? (Addr.add ⟨s, 0, none⟩ 0) = false ∧ atW (w.setCell (Addr.add ⟨s, 0, none⟩ 0) (.int .u64 m)) K := by
    intro w n m K hs hK
    refine ⟨⟨_, by rw [cl1 hs]; rfl⟩, fz1 hs _, fun w' e => ?_⟩
    subst e
    exact hK _ (set1 hs 0 _) (Mod.set1 _ _ _ _)
  intro w0 e0
  have m0 : Mod no w w0 := by subst e0; exact Mod.drew _
  clear e0
  have hs0 := m0.at' hs
  refine ⟨n, by rw [cl hs0]; rfl, n, by rw [cl hs0]; rfl, by decide, step w0 n _ _ hs0 fun w1 hs1 m1 => ?_⟩
  intro w2 e2
  have m2 : Mod no w1 w2 := by subst e2; exact Mod.drew _
  clear e2
  have hs2 := m2.at' hs1
  refine ⟨_, by rw [cl hs2]; rfl, _, by rw [cl hs2]; rfl, by decide, step w2 _ _ _ hs2 fun w3 hs3 m3 => ?_⟩
  intro w4 e4
  have m4 : Mod no w3 w4 := by subst e4; exact Mod.drew _
  clear e4
  have hs4 := m4.at' hs3
  refine ⟨_, by rw [cl hs4]; rfl, _, by rw [cl hs4]; rfl, by decide, step w4 _ _ _ hs4 fun w5 hs5 m5 => ?_⟩
  exact ⟨_, by rw [cl hs5]; rfl, h w5 _ hs5 (((((m0.no_trans m1).trans_no m2).trans m3).trans_no m4).trans m5)⟩

theorem and_le (x y : Int) (k : Nat) (hy : y = k) (hk : k < 18446744073709551616) : ((BitVec.ofInt 64 x &&& BitVec.ofInt 64 y).toNat) ≤ k := by
  rw [BitVec.toNat_and]
  refine Nat.le_trans Nat.and_le_right ?_
  rw [hy, BitVec.toNat_ofInt]
  omega
theorem breakP_ok (cv : Value) (hc : Cmp cv) (d : Option Addr) (l c : Nat) (xs : List Bnd) (w : World) (hd : Rx bndL 35 w d l c xs) (hl : l < 4611686018427387904) (a b : Nat) (hab : a + 8 ≤ b) (hb : b ≤ l) (R : Value → World → Prop)
    (h : ∀ w' ys, Rx bndL 35 w' d l c ys → Seg a b xs ys → Mod (rowB d) w w' → R (.tuple #[]) w') :
    Ca Tryz.prog 122 #[.slice d l c, .int .i64 a, .int .i64 b, cv] w R := by
  refine ca122 d l c a b cv w R ?_
  obtain ⟨elen, e4, ei, ej, ek⟩ := piv_eqs a b l (by omega) hb hl
  rw [W122]
  simp only [elen, e4, ej]
  clear elen e4 ei ej ek
  have hq : a + (b - a) / 4 * 2 + 1 < b ∧ a + 1 ≤ a + (b - a) / 4 * 2 := by omega
  generalize a + (b - a) / 4 * 2 = mid at hq
  have em : IntKind.i64.wrap ((mid : Int) - 1) = ((mid - 1 : Nat) : Int) := (by first | (simp only [IntKind.wrap_i64]; omega) | omega)
  have ep : IntKind.i64.wrap ((mid : Int) + 1) = ((mid + 1 : Nat) : Int) := (by first | (simp only [IntKind.wrap_i64]; omega) | omega)
  rw [em, ep]
  clear em ep
  refine ifK_of (fun _ => ?_) (fun hn => absurd (of_decide_eq_false hn) (by omega))
  intro w0 e0
  have m0 : Mod no w w0 := by subst e0; exact Mod.alloc _ _
  have hs0 : ∃ t, w0.heap[w.heap.size]? = some (.cells #[.int .u64 0] t (0, 0)) := by subst e0; exact ⟨_, new_at _ _⟩
  clear e0
  obtain ⟨t, hs0⟩ := hs0
  have hne : ¬ rowB d w.heap.size := Rx.nblk hd
  refine ⟨⟨_, by rw [cl1 hs0]; rfl⟩, fz1 hs0 _, ?_⟩
  intro w2 e2
  have m2 : Mod (on w.heap.size) w0 w2 := by subst e2; exact Mod.set1 _ _ _ _
  have hs2 : ∃ n : Int, w2.heap[w.heap.size]? = some (.cells #[.int .u64 n] t (0, 0)) := by subst e2; exact ⟨_, set1 hs0 0 _⟩
  clear e2
  have m02 : Mod no w w2 := m0.new m2 fun k hk => by cases hk; exact Nat.le_refl _
  refine nextPow_ok (b - a) (by omega) (by omega) w2 _ fun k hk hk0 => ⟨_, rfl, by decide, ?_⟩
  refine ⟨fun x w' => ∃ (i : Nat) (n : Int) (ys : List Bnd), x = i ∧ mid - 1 ≤ i ∧ i ≤ mid + 2 ∧ w'.heap[w.heap.size]? = some (.cells #[.int .u64 n] t (0, 0)) ∧ Rx bndL 35 w' d l c ys ∧ Seg a b xs ys ∧ Mod (fun k => rowB d k ∨ k = w.heap.size) w w', fun x _ => ((mid : Int) + 2 - x).toNat, ?_, ?_⟩
  · obtain ⟨n, hs2⟩ := hs2
    exact ⟨mid - 1, n, xs, rfl, Nat.le_refl _, by omega, hs2, hd.no m02, Seg.refl _ _ _, m02.of_no⟩
  rintro _ _ w3 ⟨i, n, ys, rfl, hi1, hi2, hs3, h3, s3, m3⟩
  have m3' : Mod (rowB d) w w3 := m3.mono fun k hk h => by
    rcases h with h | h
    · exact h
    · omega
  refine ⟨by decide, ifK_dec (fun hle => ?_) (fun hgt => h w3 ys h3 s3 m3')⟩
  refine xorNext_ok _ t n w3 hs3 _ fun w4 n4 hs4 m4 => ⟨_, rfl, ?_⟩
  have h4 : Rx bndL 35 w4 d l c ys := h3.mod m4 fun k hk he => hne (by cases he; exact hk)
  have hand : IntKind.wrap .u64 ((k : Int) - 1) = ((k - 1 : Nat) : Int) := by rw [wrapU]; omega
  rw [hand]
  have hale := and_le n4 ((k - 1 : Nat) : Int) (k - 1) rfl (by omega)
  generalize ((BitVec.ofInt 64 n4 &&& BitVec.ofInt 64 ((k - 1 : Nat) : Int)).toNat) = o at hale
  have e5 : IntKind.wrap .i64 (IntKind.wrap .u64 (o : Int)) = o := by rw [wrapU, IntKind.wrap_i64]; omega
  rw [e5]
  clear e5
  refine ⟨fun x w' => ∃ q : Nat, x = q ∧ q < b - a ∧ w' = w4, ifK_dec (fun hge => ⟨o - (b - a), (by first | (simp only [IntKind.wrap_i64]; omega) | omega), by omega, rfl⟩) (fun hlt => ⟨o, rfl, by omega, rfl⟩), ?_⟩
  rintro _ _ _ ⟨q, rfl, hq1, rfl⟩ w5 e5
  rename_i w4
  have m5 : Mod no w4 w5 := by subst e5; exact Mod.drew _
  clear e5
  refine (h4.no m5).swp hc.ho hc.hs i (a + q) rfl (by first | (simp only [IntKind.wrap_i64]; omega) | omega) (by omega) (by omega) fun w6 h6 m6 => ?_
  have hs6 : w6.heap[w.heap.size]? = some (.cells #[.int .u64 n4] t (0, 0)) := m6.at (m5.at' hs4) hne
  clear hale hk hk0 hand
  have e8 : IntKind.i64.wrap ((i : Int) + 1) = ((i + 1 : Nat) : Int) := (by first | (simp only [IntKind.wrap_i64]; omega) | omega)
  rw [e8]
  clear e8
  exact ⟨⟨i + 1, n4, _, rfl, by omega, by omega, hs6, h6, s3.trans (h4.seg (by omega) (by omega) (by omega) (by omega) (by omega) (by omega)),
    ((m3.trans (m4.mono fun k _ h => .inr h)).trans_no m5).trans (m6.mono fun k _ h => .inl h)⟩, by simp only; omega⟩
end Go.Proofs.YtehhhkcemmfjpaaGreatDoor.SrtB
