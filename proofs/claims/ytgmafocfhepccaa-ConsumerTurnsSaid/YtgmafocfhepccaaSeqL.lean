/- Iterators as they are ranged over. It names no program. -/
import Derived.Test.YtgmafocfhepccaaIntsL
namespace Go.Proofs.Ytgmafocfhepccaa.St
open Go

def isIt : Obj → Bool
  | .mapIter _ _ _ _ => true
  | .stringIter _ _ => true
  | _ => false

/-- What was older than B stands, and so do iterators. -/
structure Kp (B : Nat) (w w' : World) : Prop where
  os : w'.os = w.os
  tape : w'.tape = w.tape
  output : w'.output = w.output
  size : w.heap.size ≤ w'.heap.size
  old : ∀ k o, w.heap[k]? = some o → (k < B ∨ isIt o = true) → w'.heap[k]? = some o

theorem Kp.refl (B : Nat) (w : World) : Kp B w w := ⟨rfl, rfl, rfl, Nat.le_refl _, fun _ _ h _ => h⟩
theorem Kp.trans {B : Nat} {w w' w'' : World} (h : Kp B w w') (h' : Kp B w' w'') : Kp B w w'' :=
  ⟨h'.os.trans h.os, h'.tape.trans h.tape, h'.output.trans h.output, Nat.le_trans h.size h'.size, fun k o ho hk => h'.old k o (h.old k o ho hk) hk⟩
theorem Kp.of_mod {B : Nat} {S : Nat → Prop} {w w' : World} (h : Mod S w w') (hs : ∀ k o, w.heap[k]? = some o → (k < B ∨ isIt o = true) → ¬ S k) : Kp B w w' :=
  ⟨h.os, h.tape, h.output, h.size, fun k o ho hk => h.at ho (hs k o ho hk)⟩
theorem Kp.of_no {B : Nat} {w w' : World} (h : Mod no w w') : Kp B w w' := Kp.of_mod h fun _ _ _ _ => id
theorem Kp.mod {w w' : World} (h : Kp w.heap.size w w') : Mod no w w' :=
  ⟨h.os, h.tape, h.output, h.size, fun k hk _ => by rw [h.old k _ (Array.getElem?_eq_getElem hk) (.inl hk), Array.getElem?_eq_getElem hk]⟩

/-- What a yield gathers stands where nothing changes but an iterator. -/
def Stab (J : List Value → World → Prop) : Prop :=
  (∀ l w w', J l w → Mod no w w' → J l w') ∧ ∀ l w w' b o, J l w → w.heap[b]? = some o → isIt o = true → Mod (on b) w w' → J l w'

/-- The function value seq, called with a yield, hands it one of the lists of S, one by one: fewer than N, each a T. -/
def SeqOf (P : Program) (seq : Value) (B : Nat) (w0 : World) (N : Nat) (T : Value → Prop) (S : List Value → Prop) : Prop :=
  (∃ g first cap, seq = .func (.func g) first cap) ∧
  ∀ (J : List Value → World → Prop) (y : Value) (w : World) (R : Value → World → Prop), Kp B w0 w → Stab J → J [] w →
    (∀ pre x w', Kp B w0 w' → J pre w' → pre.length < N → T x → ∀ R' : Value → World → Prop, (∀ w'', Kp B w' w'' → J (pre ++ [x]) w'' → R' (.bool true) w'') → CaV P y #[x] w' R') →
    (∀ w' xs, S xs → J xs w' → Kp B w0 w' → R (.tuple #[]) w') → CaV P seq #[y] w R
end Go.Proofs.Ytgmafocfhepccaa.St
