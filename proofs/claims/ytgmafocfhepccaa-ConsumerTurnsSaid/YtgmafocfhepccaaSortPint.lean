/- The library's sort of whole numbers, of twelve at most. -/
import Derived.Test.YtgmafocfhepccaaSortGint
import Derived.Test.YtgmafocfhepccaaBitsL
import Derived.Test.YtgmafocfhepccaaFpint
namespace Go.Proofs.Ytgmafocfhepccaa.Sortint
open Go Go.Proofs.Ytgmafocfhepccaa Go.Proofs.Ytgmafocfhepccaa.St

theorem pdq_small (e : TypeId) (d : Option Addr) (l c : Nat) (a b : Nat) (n : Int) (xs : List Int) (w : World) (hd : Ints .i64 e w d l c xs) (hab : a ≤ b) (hb : b ≤ l) (hs : b - a ≤ 12) (hl : l < 4611686018427387904) (R : Value → World → Prop)
    (h : ∀ w' ys, Ints .i64 e w' d l c ys → Seg a b xs ys → Srt ys a b → Mod (rowB d) w w' → R (.tuple #[]) w') :
    Ca Try.prog 47 #[.slice d l c, .int .i64 a, .int .i64 b, .int .i64 n] w R := by
  refine ca47 d l c a b n w R ?_
  refine ⟨fun x y _ _ _ w' => x = a ∧ y = b ∧ w' = w, fun _ _ _ _ _ _ => 0, ⟨rfl, rfl, rfl⟩, ?_⟩
  rintro _ x y _ _ _ w' ⟨rfl, rfl, rfl⟩
  have e1 : decide (IntKind.i64.wrap ((b : Int) - a) ≤ 12) = true := by rw [wrap64 (by omega) (by omega)]; exact decide_eq_true (by omega)
  rw [e1]
  exact insertion_ok e d l c a b xs w' hd hab hb hl _ fun w' ys h1 h2 h3 h4 => ⟨rfl, h w' ys h1 h2 h3 h4⟩

theorem sort_small (e : TypeId) (d : Option Addr) (l c : Nat) (xs : List Int) (w : World) (hd : Ints .i64 e w d l c xs) (hs : l ≤ 12) (R : Value → World → Prop)
    (h : ∀ w' ys, Ints .i64 e w' d l c ys → ys.Perm xs → Srt ys 0 l → Mod (rowB d) w w' → R (.tuple #[]) w') :
    Ca Try.prog 34 #[.slice d l c] w R := by
  refine ca34 d l c w R ?_
  refine bitsLen_ok _ w _ fun n => ⟨n, rfl, ?_⟩
  exact pdq_small e d l c 0 l n xs w hd (Nat.zero_le _) (Nat.le_refl _) (by omega) (by omega) _ fun w' ys h1 h2 h3 h4 => ⟨rfl, h w' ys h1 h2.perm h3 h4⟩
end Go.Proofs.Ytgmafocfhepccaa.Sortint
