/- Rows of whole numbers. It names no program. -/
import Derived.Test.YtgmafocfhepccaaLib
import Derived.Test.YtgmafocfhepccaaSegL
namespace Go.Proofs.Ytgmafocfhepccaa.St
open Go

/-- The row a[:l:c] holds these numbers. -/
def Ints (ik : IntKind) (e : TypeId) (w : World) (a : Option Addr) (l c : Nat) (xs : List Int) : Prop := w.ownsRow 0 e 1 (.slice a l c) l (xs.map (.int ik))

section
variable {ik : IntKind} {e : TypeId} {w w' : World} {a : Option Addr} {l c : Nat} {xs : List Int}
theorem Ints.len (h : Ints ik e w a l c xs) : xs.length = l ∧ l ≤ c ∧ c ≤ 9223372036854775807 := by
  obtain ⟨_, h1, h2, h3⟩ := row_len h
  exact ⟨by simpa using h1, h2, h3⟩
theorem Ints.mod {S : Nat → Prop} (h : Ints ik e w a l c xs) (hm : Mod S w w') (hs : ∀ k, rowB a k → ¬ S k) : Ints ik e w' a l c xs := row_mod h hm hs
theorem Ints.no (h : Ints ik e w a l c xs) (hm : Mod no w w') : Ints ik e w' a l c xs := row_mod h hm fun _ _ => id
theorem Ints.at (h : Ints ik e w a l c xs) {i : Nat} (hi : i < xs.length) : ∃ g, a = some ⟨g, 0, none⟩ ∧ w.cell? (Addr.add ⟨g, 0, none⟩ (i * 1)) = some (.int ik xs[i]) :=
  row_at h (i := i) (by simp [hi])
theorem Ints.put (h : Ints ik e w a l c xs) {i : Nat} (hi : i < xs.length) (v : Int) :
    ∃ ad, a = some ad ∧ (∃ u, w.cell? (Addr.add (Addr.add ad (i * 1)) 0) = some u) ∧ w.frozen? (Addr.add (Addr.add ad (i * 1)) 0) = false ∧
      Mod (rowB a) w (w.setCell (Addr.add (Addr.add ad (i * 1)) 0) (.int ik v)) ∧ Ints ik e (w.setCell (Addr.add (Addr.add ad (i * 1)) 0) (.int ik v)) a l c (xs.set i v) := by
  obtain ⟨ad, h1, h2, h3, h4, h5⟩ := row_put h (i := i) (by have := h.len; omega) (.int ik v)
  exact ⟨ad, h1, h2, h3, h4, by rw [Ints, List.map_set]; exact h5⟩
end

section
variable {e : TypeId} {w : World} {a : Option Addr} {l c : Nat} {xs : List Int}
theorem Ints.get {ik : IntKind} (h : Ints ik e w a l c xs) {i : Nat} (hi : i < xs.length) : ∃ g, a = some ⟨g, 0, none⟩ ∧ w.cell? (Addr.add ⟨g, 0, none⟩ (i * 1)) = some (.int ik (at0 xs i)) := by
  rw [at0_eq hi]; exact h.at hi
end

end Go.Proofs.Ytgmafocfhepccaa.St
