/- The formulas of functions, printed by a program of mine (gen.py) out of the translation. -/
import Derived.Test.YtgmafocfhepccaaCore9
import Derived.Test.YtgmafocfhepccaaProg
namespace Go.Proofs.Ytgmafocfhepccaa
open Go Go.Proofs.Ytgmafocfhepccaa.St
set_option maxRecDepth 100000

/-- cmp.isNaN[int] -/
noncomputable def C73 : Code := (Try.f73.body).getD .skip
def pl73 : Nat → Plan := fun _ => .done
def ls73 : Nat → List (Nat × LT) := fun _ => []
def W73 (x : Int) (w : World) (R : Value → World → Prop) : Prop :=
  (R (Value.bool (x != x)) (w))
theorem ca73 (x : Int) (w : World) (R : Value → World → Prop) (h : W73 x w R) : Ca Try.prog 73 ⟨[(.int .i64 x)]⟩ w R := by
  have h1 : Try.prog.follows .mixedOrders = true := by kernel_rfl
  have h2 : Try.f73.body = some C73 := by kernel_rfl
  have h3 : (Try.f73.name == "runtime.NumGoroutine") = false := by kernel_rfl
  have h6 : Try.f73.results.toList = [.tmp 2] := by kernel_rfl
  have h4 : Nat.ble 1 6 = true := by kernel_rfl
  have h5 : okCode 6 pl73 ls73 C73 0 = true := by kernel_rfl
  have e : W73 x w R = wpC none Try.prog 6 pl73 ls73 C73 0 (endP Try.prog [.tmp 2] R) (fr0 [(.int .i64 x)]) [] w := by kernel_rfl
  exact ca_of' (P := Try.prog) (g := 73) (fn := Try.f73) (c := C73) (m := 6) (rs := [.tmp 2]) (args := [(.int .i64 x)]) (pl := pl73) (ls := ls73) (w := w) (R := R) h1 Try.func73 h2 Try.ntmps73 h6 h3 h4 h5 (Eq.mp e h)

/-- cmp.Less[int] -/
noncomputable def C60 : Code := (Try.f60.body).getD .skip
def pl60 : Nat → Plan := fun _ => .done
def ls60 : Nat → List (Nat × LT) := fun _ => []
def W60 (x : Int) (y : Int) (w : World) (R : Value → World → Prop) : Prop :=
  (Ca Try.prog (73) (Array.mk [Value.int IntKind.i64 x]) (w) (fun v0 => (fun w1 =>
    (∃ b2 : Bool, ((v0 = Value.bool b2) ∧ (ifK (b2)
      (Ca Try.prog (73) (Array.mk [Value.int IntKind.i64 y]) (w1) (fun v3 => (fun w4 =>
        (∃ b5 : Bool, ((v3 = Value.bool b5) ∧ (ifK (!b5)
          (R (Value.bool true) (w4))
          (R (Value.bool (decide (x < y))) (w4))))))))
      (R (Value.bool (decide (x < y))) (w1))))))))
theorem ca60 (x : Int) (y : Int) (w : World) (R : Value → World → Prop) (h : W60 x y w R) : Ca Try.prog 60 ⟨[(.int .i64 x), (.int .i64 y)]⟩ w R := by
  have h1 : Try.prog.follows .mixedOrders = true := by kernel_rfl
  have h2 : Try.f60.body = some C60 := by kernel_rfl
  have h3 : (Try.f60.name == "runtime.NumGoroutine") = false := by kernel_rfl
  have h6 : Try.f60.results.toList = [.tmp 4] := by kernel_rfl
  have h4 : Nat.ble 2 17 = true := by kernel_rfl
  have h5 : okCode 17 pl60 ls60 C60 0 = true := by kernel_rfl
  have e : W60 x y w R = wpC none Try.prog 17 pl60 ls60 C60 0 (endP Try.prog [.tmp 4] R) (fr0 [(.int .i64 x), (.int .i64 y)]) [] w := by kernel_rfl
  exact ca_of' (P := Try.prog) (g := 60) (fn := Try.f60) (c := C60) (m := 17) (rs := [.tmp 4]) (args := [(.int .i64 x), (.int .i64 y)]) (pl := pl60) (ls := ls60) (w := w) (R := R) h1 Try.func60 h2 Try.ntmps60 h6 h3 h4 h5 (Eq.mp e h)

/-- slices.insertionSortOrdered[int] -/
noncomputable def C54 : Code := (Try.f54.body).getD .skip
def pl54 : Nat → Plan
  | 4 => (.quiet 0 (.quiet 1 (.quiet 2 (.quiet 3 (.quiet 4 (.quiet 5 (.quiet 6 (.quiet 7 (.quiet 8 (.quiet 9 (.quiet 10 (.quiet 11 (.quiet 12 (.eff 13 [] (.quiet 14 .done)))))))))))))))
  | 6 => (.quiet 0 (.quiet 1 (.quiet 2 (.quiet 3 (.quiet 4 (.quiet 5 (.quiet 6 (.quiet 7 (.quiet 8 (.quiet 9 (.quiet 10 (.quiet 11 (.quiet 12 (.quiet 13 (.quiet 14 (.eff 15 [] (.quiet 16 (.eff 17 [] .done))))))))))))))))))
  | _ => .done
def ls54 : Nat → List (Nat × LT)
  | 0 => [(6, (.one (.int .i64)))]
  | 1 => [(7, (.one (.int .i64)))]
  | _ => []
def W54 (dataa : Option Addr) (datal : Nat) (_datac : Nat) (a_ : Int) (b : Int) (w : World) (R : Value → World → Prop) : Prop :=
  (∃ z0 : Int → World → Prop, (∃ z1 : Int → World → Nat, ((z0 (IntKind.wrap IntKind.i64 (a_ + 1)) (w)) ∧ (∀ (_ : Nat → Value), (∀ (x3 : Int), (∀ (w4 : World), ((z0 (x3) (w4)) → (ifK (decide (x3 < b))
    (∃ z5 : Int → World → Prop, (∃ z6 : Int → World → Nat, ((z5 (x3) (w4)) ∧ (∀ (_ : Nat → Value), (∀ (x8 : Int), (∀ (w9 : World), ((z5 (x8) (w9)) → (atW (World.drew w9) (fun w10 =>
      (ifK (decide (x8 > a_))
        (∃ a11 : Addr, ((dataa = some a11) ∧ (((0 : Int) ≤ x8) ∧ (((x8 : Int) < (↑datal : Int)) ∧ (∃ x12 : Int, ((World.cell? w10 (Addr.add a11 (Int.toNat x8 * 1)) = some (Value.int IntKind.i64 x12)) ∧ (∃ a13 : Addr, ((dataa = some a13) ∧ (((0 : Int) ≤ IntKind.wrap IntKind.i64 (x8 - 1)) ∧ (((IntKind.wrap IntKind.i64 (x8 - 1) : Int) < (↑datal : Int)) ∧ (∃ x14 : Int, ((World.cell? w10 (Addr.add a13 (Int.toNat (IntKind.wrap IntKind.i64 (x8 - 1)) * 1)) = some (Value.int IntKind.i64 x14)) ∧ (Ca Try.prog (60) (Array.mk [Value.int IntKind.i64 x12, Value.int IntKind.i64 x14]) (w10) (fun v15 => (fun w16 =>
          (∃ b17 : Bool, ((v15 = Value.bool b17) ∧ (ifK (b17)
            (atW (World.drew w16) (fun w18 =>
              (∃ a19 : Addr, ((dataa = some a19) ∧ (((0 : Int) ≤ IntKind.wrap IntKind.i64 (x8 - 1)) ∧ (((IntKind.wrap IntKind.i64 (x8 - 1) : Int) < (↑datal : Int)) ∧ (∃ x20 : Int, ((World.cell? w18 (Addr.add a19 (Int.toNat (IntKind.wrap IntKind.i64 (x8 - 1)) * 1)) = some (Value.int IntKind.i64 x20)) ∧ (∃ a21 : Addr, ((dataa = some a21) ∧ (((0 : Int) ≤ x8) ∧ (((x8 : Int) < (↑datal : Int)) ∧ (∃ x22 : Int, ((World.cell? w18 (Addr.add a21 (Int.toNat x8 * 1)) = some (Value.int IntKind.i64 x22)) ∧ (∃ a23 : Addr, ((dataa = some a23) ∧ (((0 : Int) ≤ x8) ∧ (((x8 : Int) < (↑datal : Int)) ∧ ((∃ v24 : Value, (World.cell? w18 (Addr.add (Addr.add a23 (Int.toNat x8 * 1)) 0) = some v24)) ∧ ((World.frozen? w18 (Addr.add (Addr.add a23 (Int.toNat x8 * 1)) 0) = false) ∧ (atW (World.setCell w18 (Addr.add (Addr.add a23 (Int.toNat x8 * 1)) 0) (Value.int IntKind.i64 x20)) (fun w25 =>
                (∃ a26 : Addr, ((dataa = some a26) ∧ (((0 : Int) ≤ IntKind.wrap IntKind.i64 (x8 - 1)) ∧ (((IntKind.wrap IntKind.i64 (x8 - 1) : Int) < (↑datal : Int)) ∧ ((∃ v27 : Value, (World.cell? w25 (Addr.add (Addr.add a26 (Int.toNat (IntKind.wrap IntKind.i64 (x8 - 1)) * 1)) 0) = some v27)) ∧ ((World.frozen? w25 (Addr.add (Addr.add a26 (Int.toNat (IntKind.wrap IntKind.i64 (x8 - 1)) * 1)) 0) = false) ∧ (atW (World.setCell w25 (Addr.add (Addr.add a26 (Int.toNat (IntKind.wrap IntKind.i64 (x8 - 1)) * 1)) 0) (Value.int IntKind.i64 x22)) (fun w28 =>
                  ((z5 (IntKind.wrap IntKind.i64 (x8 - 1)) (w28)) ∧ (z6 (IntKind.wrap IntKind.i64 (x8 - 1)) w28 < z6 x8 w9))))))))))))))))))))))))))))))))
            ((z0 (IntKind.wrap IntKind.i64 (x3 + 1)) (w16)) ∧ (z1 (IntKind.wrap IntKind.i64 (x3 + 1)) w16 < z1 x3 w4))))))))))))))))))))
        ((z0 (IntKind.wrap IntKind.i64 (x3 + 1)) (w10)) ∧ (z1 (IntKind.wrap IntKind.i64 (x3 + 1)) w10 < z1 x3 w4))))))))))))
    (R (Value.tuple (Array.mk (List.reverse []))) (w4))))))))))
theorem ca54 (dataa : Option Addr) (datal : Nat) (datac : Nat) (a_ : Int) (b : Int) (w : World) (R : Value → World → Prop) (h : W54 dataa datal datac a_ b w R) : Ca Try.prog 54 ⟨[(.slice dataa datal datac), (.int .i64 a_), (.int .i64 b)]⟩ w R := by
  have h1 : Try.prog.follows .mixedOrders = true := by kernel_rfl
  have h2 : Try.f54.body = some C54 := by kernel_rfl
  have h3 : (Try.f54.name == "runtime.NumGoroutine") = false := by kernel_rfl
  have h6 : Try.f54.results.toList = [] := by kernel_rfl
  have h4 : Nat.ble 3 49 = true := by kernel_rfl
  have h5 : okCode 49 pl54 ls54 C54 0 = true := by kernel_rfl
  have e : W54 dataa datal datac a_ b w R = wpC none Try.prog 49 pl54 ls54 C54 0 (endP Try.prog [] R) (fr0 [(.slice dataa datal datac), (.int .i64 a_), (.int .i64 b)]) [] w := by kernel_rfl
  exact ca_of' (P := Try.prog) (g := 54) (fn := Try.f54) (c := C54) (m := 49) (rs := []) (args := [(.slice dataa datal datac), (.int .i64 a_), (.int .i64 b)]) (pl := pl54) (ls := ls54) (w := w) (R := R) h1 Try.func54 h2 Try.ntmps54 h6 h3 h4 h5 (Eq.mp e h)
end Go.Proofs.Ytgmafocfhepccaa
