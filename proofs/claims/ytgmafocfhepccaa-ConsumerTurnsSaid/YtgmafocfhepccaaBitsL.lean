/- The library's bits.Len: a number comes out. -/
import Derived.Test.YtgmafocfhepccaaLib
import Derived.Test.YtgmafocfhepccaaFl
namespace Go.Proofs.Ytgmafocfhepccaa
open Go Go.Proofs.Ytgmafocfhepccaa.St

theorem len64_ok (x : Int) (w : World) (R : Value → World → Prop) (h : ∀ n, R (.int .i64 n) w) : Ca Try.prog 64 #[.int .u64 x] w R := by
  refine ca64 x w R ?_
  have hu : ∀ y, (0 : Int) ≤ IntKind.wrap .u8 y ∧ IntKind.wrap .u8 y < 256 := fun y => by rw [IntKind.wrap_u8]; omega
  rw [W64]
  repeat' first
    | exact h _
    | refine ifK_of (fun _ => ?_) (fun _ => ?_)
    | refine ⟨by decide, ?_⟩
    | refine ⟨(hu _).1, (hu _).2, ?_⟩
theorem bitsLen_ok (x : Int) (w : World) (R : Value → World → Prop) (h : ∀ n, R (.int .i64 n) w) : Ca Try.prog 48 #[.int .u64 x] w R := by
  refine ca48 x w R ?_
  exact len64_ok x w _ fun n => ⟨n, rfl, h n⟩
end Go.Proofs.Ytgmafocfhepccaa
