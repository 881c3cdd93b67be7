/- Contracts of the program's functions 'plain' and 'Name': what a name is. -/
import Derived.Test.YtgmafocfhepccaaCon
import Derived.Laws.RangeString
namespace Go.Proofs.Ytgmafocfhepccaa
open Go Go.Proofs.Ytgmafocfhepccaa.St

def letter (c : Nat) : Bool := (decide (97 ≤ c) && decide (c ≤ 122)) || (decide (48 ≤ c) && decide (c ≤ 57)) || c == 45 || c == 95
def lettersB (s : ByteArray) : Bool := s.data.toList.all (fun b => letter b.toNat)
def plainB (s : ByteArray) : Bool := lettersB s && !(ByteArray.toList s == ByteArray.toList (ByteArray.mk #[]))
def nameB (s : ByteArray) : Bool := decide ((s.size : Int) ≤ 20) && plainB s

theorem decode_high (s : ByteArray) (pos : Nat) (h : pos < s.size) (ha : ¬ (s[pos]'h).toNat < 128) : 128 ≤ (Utf8.decode s pos).1 := by
  have e : s.get! (pos + 0) = s[pos]'h := by
    show s.get! pos = _
    simp [ByteArray.get!, getElem!_pos, h]
    rfl
  simp only [Utf8.decode, e, ha, if_false]
  repeat' split
  all_goals simp_all [Utf8.runeError] <;> omega

theorem lettersB_at {s : ByteArray} (h : lettersB s = true) {pos : Nat} (hp : pos < s.size) : letter (s[pos]'hp).toNat = true := by
  rw [lettersB, List.all_eq_true] at h
  exact h _ (by simp [ByteArray.getElem_eq_getElem_data])

theorem lettersB_of {s : ByteArray} (h : ∀ (pos : Nat) (hp : pos < s.size), letter (s[pos]'hp).toNat = true) : lettersB s = true := by
  rw [lettersB, List.all_eq_true]
  intro x hx
  obtain ⟨i, hi, rfl⟩ := List.getElem_of_mem hx
  exact h i (by simpa using hi)

def itPos (w : World) (k n : Nat) : Nat := match w.heap[k]? with | some (.stringIter _ p) => n - p | _ => 0
theorem itPos_of {w : World} {k n p : Nat} {s : ByteArray} (h : w.heap[k]? = some (.stringIter s p)) : itPos w k n = n - p := by simp [itPos, h]

theorem plain_ok (s : ByteArray) (w : World) (R : Value → World → Prop) (h : ∀ w', Mod no w w' → R (.bool (plainB s)) w') : Ca Try.prog 42 #[.string s] w R := by
  refine ca42 s w R ?_
  intro w1 e
  subst e
  refine ⟨fun w' => ∃ pos, pos ≤ s.size ∧ w'.heap[w.heap.size]? = some (.stringIter s pos) ∧ Mod no w w' ∧ ∀ (i : Nat) (hi : i < s.size), i < pos → letter (s[i]'hi).toNat = true,
    fun w' => itPos w' w.heap.size s.size, ⟨0, Nat.zero_le _, new_at w _, Mod.alloc w _, fun _ _ h => absurd h (Nat.not_lt_zero _)⟩, ?_⟩
  rintro _ w4 ⟨pos, hle, hit, hm, hgood⟩
  refine ⟨s, pos, hit, ifK_of (fun hp => ?_) (fun hp => ?_)⟩
  · have hp : pos < s.size := of_decide_eq_true hp
    intro w7 e7
    have hm7 : Mod no w w7 := by subst e7; exact hm.new (Mod.putObj w4 _ _) fun k hk => by cases hk; exact Nat.le_refl _
    have hit7 : w7.heap[w.heap.size]? = some (.stringIter s (pos + (Utf8.decode s pos).2)) := by subst e7; exact put_at _ hit
    have hA : letter (Utf8.decode s pos).1 = true → (∃ pos, pos ≤ s.size ∧ w7.heap[w.heap.size]? = some (.stringIter s pos) ∧ Mod no w w7 ∧ ∀ (i : Nat) (hi : i < s.size), i < pos → letter (s[i]'hi).toNat = true) ∧
        itPos w7 w.heap.size s.size < itPos w4 w.heap.size s.size := by
      intro hl
      have hlow : (s[pos]'hp).toNat < 128 := by
        apply Decidable.byContradiction
        intro hh
        have := decode_high s pos hp hh
        simp [letter] at hl
        omega
      have hd := decode_ascii s pos hp hlow
      rw [hd] at hit7 hl
      rw [itPos_of hit, itPos_of hit7]
      refine ⟨⟨pos + 1, hp, hit7, hm7, fun i hi hlt => ?_⟩, by simp only; omega⟩
      by_cases e : i = pos
      · subst e; exact hl
      · exact hgood i hi (by omega)
    have hB : letter (Utf8.decode s pos).1 = false → R (.bool false) w7 := by
      intro hl
      have : plainB s = false := by
        rw [plainB]
        cases hall : lettersB s with
        | false => rfl
        | true =>
          have := lettersB_at hall hp
          by_cases hlow : (s[pos]'hp).toNat < 128
          · rw [decode_ascii s pos hp hlow] at hl; rw [this] at hl; cases hl
          · simp [letter] at this; omega
      have h' := h w7 hm7
      rwa [this] at h'
    have hL : letter (Utf8.decode s pos).1 = ((decide (((Utf8.decode s pos).1 : Int) ≥ 97) && decide (((Utf8.decode s pos).1 : Int) ≤ 122)) || (decide (((Utf8.decode s pos).1 : Int) ≥ 48) && decide (((Utf8.decode s pos).1 : Int) ≤ 57)) ||
        (((Utf8.decode s pos).1 : Int) == 45) || (((Utf8.decode s pos).1 : Int) == 95)) := by
      rw [letter]
      congr 1
      · congr 1
        · congr 1
          · congr 1 <;> exact decide_eq_decide.2 (by omega)
          · congr 1 <;> exact decide_eq_decide.2 (by omega)
        · rw [Bool.eq_iff_iff]; simp; omega
      · rw [Bool.eq_iff_iff]; simp; omega
    rw [hL] at hA hB
    clear hL
    revert hA hB
    dsimp only
    generalize ((∃ pos, pos ≤ s.size ∧ w7.heap[w.heap.size]? = some (.stringIter s pos) ∧ Mod no w w7 ∧ ∀ (i : Nat) (hi : i < s.size), i < pos → letter (s[i]'hi).toNat = true) ∧ itPos w7 w.heap.size s.size < itPos w4 w.heap.size s.size) = A
    generalize decide (((Utf8.decode s pos).1 : Int) ≥ 97) = b1
    generalize decide (((Utf8.decode s pos).1 : Int) ≤ 122) = b2
    generalize decide (((Utf8.decode s pos).1 : Int) ≥ 48) = b3
    generalize decide (((Utf8.decode s pos).1 : Int) ≤ 57) = b4
    generalize (((Utf8.decode s pos).1 : Int) == 45) = b5
    generalize (((Utf8.decode s pos).1 : Int) == 95) = b6
    intro hA hB
    cases b1 <;> cases b2 <;> cases b3 <;> cases b4 <;> cases b5 <;> cases b6 <;> first | exact hA rfl | exact hB rfl
  · have hp : ¬ pos < s.size := of_decide_eq_false hp
    have : lettersB s = true := lettersB_of fun i hi => hgood i hi (by omega)
    have h' := h w4 hm
    rwa [plainB, this, Bool.true_and] at h'

theorem name_ok (s : ByteArray) (w : World) (R : Value → World → Prop) (h : ∀ w', Mod no w w' → R (.bool (nameB s)) w') : Ca Try.prog 25 #[.string s] w R := by
  refine ca25 s w R (ifK_of (fun hb => ?_) (fun hb => ?_))
  · refine plain_ok s w _ fun w' hm => ⟨_, rfl, ?_⟩
    have h' := h w' hm
    rwa [nameB, hb, Bool.true_and] at h'
  · have h' := h w (Mod.refl _ _)
    rwa [nameB, hb, Bool.false_and] at h'
end Go.Proofs.Ytgmafocfhepccaa
