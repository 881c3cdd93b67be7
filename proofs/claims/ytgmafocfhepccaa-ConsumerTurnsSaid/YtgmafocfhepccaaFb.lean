/- The formulas of functions, printed by a program of mine (gen.py) out of the translation. -/
import Derived.Test.YtgmafocfhepccaaCore9
import Derived.Test.YtgmafocfhepccaaProg
namespace Go.Proofs.Ytgmafocfhepccaa
open Go Go.Proofs.Ytgmafocfhepccaa.St
set_option maxRecDepth 100000

/-- slices.DeleteFunc[[]*staith/consumer.wish,*staith/consumer.wish] -/
noncomputable def C31 : Code := (Try.f31.body).getD .skip
def pl31 : Nat → Plan := fun _ => .done
def ls31 : Nat → List (Nat × LT)
  | 0 => [(5, (.one (.int .i64))), (6, (.one (.int .i64)))]
  | _ => []
def W31 (sa : Option Addr) (sl : Nat) (sc : Nat) (del : Value) (w : World) (R : Value → World → Prop) : Prop :=
  (Ca Try.prog (44) (Array.mk [Value.slice sa sl sc, del]) (w) (fun v0 => (fun w1 =>
    (∃ x2 : Int, ((v0 = Value.int IntKind.i64 x2) ∧ (ifK (x2 == -1)
      (R (Value.slice sa sl sc) (w1))
      (∃ z3 : Int → Int → World → Prop, (∃ z4 : Int → Int → World → Nat, ((z3 (x2) (IntKind.wrap IntKind.i64 (x2 + 1)) (w1)) ∧ (∀ (_ : Nat → Value), (∀ (x6 : Int), (∀ (x7 : Int), (∀ (w8 : World), ((z3 (x6) (x7) (w8)) → (ifK (decide (x7 < (↑sl : Int)))
        (∃ a9 : Addr, ((sa = some a9) ∧ (((0 : Int) ≤ x7) ∧ (((x7 : Int) < (↑sl : Int)) ∧ (∃ p10 : Option Addr, ((World.cell? w8 (Addr.add a9 (Int.toNat x7 * 1)) = some (Value.pointer p10)) ∧ (CaV Try.prog (del) (Array.mk [Value.pointer p10]) (w8) (fun v11 => (fun w12 =>
          (∃ b13 : Bool, ((v11 = Value.bool b13) ∧ (ifK (!b13)
            (∃ a14 : Addr, ((sa = some a14) ∧ (((0 : Int) ≤ x6) ∧ (((x6 : Int) < (↑sl : Int)) ∧ ((∃ v15 : Value, (World.cell? w12 (Addr.add (Addr.add a14 (Int.toNat x6 * 1)) 0) = some v15)) ∧ ((World.frozen? w12 (Addr.add (Addr.add a14 (Int.toNat x6 * 1)) 0) = false) ∧ (atW (World.setCell w12 (Addr.add (Addr.add a14 (Int.toNat x6 * 1)) 0) (Value.pointer p10)) (fun w16 =>
              ((z3 (IntKind.wrap IntKind.i64 (x6 + 1)) (IntKind.wrap IntKind.i64 (x7 + 1)) (w16)) ∧ (z4 (IntKind.wrap IntKind.i64 (x6 + 1)) (IntKind.wrap IntKind.i64 (x7 + 1)) w16 < z4 x6 x7 w8))))))))))
            ((z3 (x6) (IntKind.wrap IntKind.i64 (x7 + 1)) (w12)) ∧ (z4 x6 (IntKind.wrap IntKind.i64 (x7 + 1)) w12 < z4 x6 x7 w8))))))))))))))
        (((0 : Int) ≤ x6) ∧ (((x6 : Int) ≤ (↑sl : Int)) ∧ ((((↑sl : Int) : Int) ≤ (↑sc : Int)) ∧ (∃ v17 : Value, (∃ w18 : World, ((Sem.run Try.prog (Builtin.clear_ (Array.mk [57]) 0 (Array.mk [Value.slice (if sc = Int.toNat x6 then sa else Option.map (fun x => Addr.add x (Int.toNat x6 * 1)) sa) (Int.toNat (↑sl : Int) - Int.toNat x6) (sc - Int.toNat x6)])) w8 = Result.ok v17 w18) ∧ ((v17 = Value.tuple (Array.mk (List.reverse []))) ∧ (((0 : Int) ≤ 0) ∧ (((0 : Int) ≤ x6) ∧ (((x6 : Int) ≤ (↑sc : Int)) ∧ (R (Value.slice (if sc = 0 then sa else Option.map (fun x => Addr.add x 0) sa) (Int.toNat x6 - 0) (sc - 0)) (w18)))))))))))))))))))))))))))
theorem ca31 (sa : Option Addr) (sl : Nat) (sc : Nat) (del : Value) (w : World) (R : Value → World → Prop) (h : W31 sa sl sc del w R) : Ca Try.prog 31 ⟨[(.slice sa sl sc), del]⟩ w R := by
  have h1 : Try.prog.follows .mixedOrders = true := by kernel_rfl
  have h2 : Try.f31.body = some C31 := by kernel_rfl
  have h3 : (Try.f31.name == "runtime.NumGoroutine") = false := by kernel_rfl
  have h6 : Try.f31.results.toList = [.tmp 4] := by kernel_rfl
  have h4 : Nat.ble 2 42 = true := by kernel_rfl
  have h5 : okCode 42 pl31 ls31 C31 0 = true := by kernel_rfl
  have e : W31 sa sl sc del w R = wpC none Try.prog 42 pl31 ls31 C31 0 (endP Try.prog [.tmp 4] R) (fr0 [(.slice sa sl sc), del]) [] w := by kernel_rfl
  exact ca_of' (P := Try.prog) (g := 31) (fn := Try.f31) (c := C31) (m := 42) (rs := [.tmp 4]) (args := [(.slice sa sl sc), del]) (pl := pl31) (ls := ls31) (w := w) (R := R) h1 Try.func31 h2 Try.ntmps31 h6 h3 h4 h5 (Eq.mp e h)

/-- (*staith/consumer.Desk).Drop$1 -/
noncomputable def C32 : Code := (Try.f32.body).getD .skip
def pl32 : Nat → Plan := fun _ => .done
def ls32 : Nat → List (Nat × LT) := fun _ => []
def W32 (x : Option Addr) (c0 : Option Addr) (w : World) (R : Value → World → Prop) : Prop :=
  (onP (c0) (fun a0 =>
    (∃ p1 : Option Addr, ((World.cell? w a0 = some (Value.pointer p1)) ∧ (ptrEq Try.prog 68 (x) (p1) (w) (fun b2 => (fun w3 =>
      (R (Value.bool b2) (w3)))))))))
theorem ca32 (x : Option Addr) (c0 : Option Addr) (w : World) (R : Value → World → Prop) (h : W32 x c0 w R) : Ca Try.prog 32 ⟨[(.pointer x), (.pointer c0)]⟩ w R := by
  have h1 : Try.prog.follows .mixedOrders = true := by kernel_rfl
  have h2 : Try.f32.body = some C32 := by kernel_rfl
  have h3 : (Try.f32.name == "runtime.NumGoroutine") = false := by kernel_rfl
  have h6 : Try.f32.results.toList = [.tmp 3] := by kernel_rfl
  have h4 : Nat.ble 2 7 = true := by kernel_rfl
  have h5 : okCode 7 pl32 ls32 C32 0 = true := by kernel_rfl
  have e : W32 x c0 w R = wpC none Try.prog 7 pl32 ls32 C32 0 (endP Try.prog [.tmp 3] R) (fr0 [(.pointer x), (.pointer c0)]) [] w := by kernel_rfl
  exact ca_of' (P := Try.prog) (g := 32) (fn := Try.f32) (c := C32) (m := 7) (rs := [.tmp 3]) (args := [(.pointer x), (.pointer c0)]) (pl := pl32) (ls := ls32) (w := w) (R := R) h1 Try.func32 h2 Try.ntmps32 h6 h3 h4 h5 (Eq.mp e h)
end Go.Proofs.Ytgmafocfhepccaa
