/- Parts of the proof of ConsumerHoldsSaid. -/
import Derived.Test.YtmnbnjkbbhjocaaCore9
import Derived.Test.YtmnbnjkbbhjocaaProg
import Derived.Test.YtmnbnjkbbhjocaaLib
import Derived.Test.YtmnbnjkbbhjocaaX2
/- The formulas of functions, printed by a program of mine (gen.py) out of the translation. -/
namespace Go.Proofs.Ytmnbnjkbbhjocaa
open Go Go.Proofs.Ytmnbnjkbbhjocaa.St
set_option maxRecDepth 100000

/-- slices.order2Ordered[int] -/
noncomputable def C83 : Code := (Try.f83.body).getD .skip
def pl83 : Nat → Plan
  | 1 => (.quiet 0 (.quiet 1 (.quiet 2 (.quiet 3 (.quiet 4 (.quiet 5 (.quiet 6 (.quiet 7 (.eff 8 [] .done)))))))))
  | _ => .done
def ls83 : Nat → List (Nat × LT) := fun _ => []
def W83 (dataa : Option Addr) (datal : Nat) (_datac : Nat) (a_ : Int) (b : Int) (swaps : Option Addr) (w : World) (R : Value → World → Prop) : Prop :=
  (atW (World.drew w) (fun w0 =>
    (∃ a1 : Addr, ((dataa = some a1) ∧ (((0 : Int) ≤ b) ∧ (((b : Int) < (↑datal : Int)) ∧ (∃ x2 : Int, ((World.cell? w0 (Addr.add a1 (Int.toNat b * 1)) = some (Value.int IntKind.i64 x2)) ∧ (∃ a3 : Addr, ((dataa = some a3) ∧ (((0 : Int) ≤ a_) ∧ (((a_ : Int) < (↑datal : Int)) ∧ (∃ x4 : Int, ((World.cell? w0 (Addr.add a3 (Int.toNat a_ * 1)) = some (Value.int IntKind.i64 x4)) ∧ (Ca Try.prog (60) (Array.mk [Value.int IntKind.i64 x2, Value.int IntKind.i64 x4]) (w0) (fun v5 => (fun w6 =>
      (∃ b7 : Bool, ((v5 = Value.bool b7) ∧ (ifK (b7)
        (onP (swaps) (fun a8 =>
          (∃ x9 : Int, ((World.cell? w6 a8 = some (Value.int IntKind.i64 x9)) ∧ (onP (swaps) (fun a10 =>
            ((∃ v11 : Value, (World.cell? w6 (Addr.add a10 0) = some v11)) ∧ ((World.frozen? w6 (Addr.add a10 0) = false) ∧ (atW (World.setCell w6 (Addr.add a10 0) (Value.int IntKind.i64 (IntKind.wrap IntKind.i64 (x9 + 1)))) (fun w12 =>
              (R (Value.tuple (Array.mk [Value.int IntKind.i64 b, Value.int IntKind.i64 a_])) (w12))))))))))))
        (R (Value.tuple (Array.mk [Value.int IntKind.i64 a_, Value.int IntKind.i64 b])) (w6))))))))))))))))))))))
theorem ca83 (dataa : Option Addr) (datal : Nat) (datac : Nat) (a_ : Int) (b : Int) (swaps : Option Addr) (w : World) (R : Value → World → Prop) (h : W83 dataa datal datac a_ b swaps w R) : Ca Try.prog 83 ⟨[(.slice dataa datal datac), (.int .i64 a_), (.int .i64 b), (.pointer swaps)]⟩ w R := by
  have h1 : Try.prog.follows .mixedOrders = true := by kernel_rfl
  have h2 : Try.f83.body = some C83 := by kernel_rfl
  have h3 : (Try.f83.name == "runtime.NumGoroutine") = false := by kernel_rfl
  have h6 : Try.f83.results.toList = [.tmp 8, .tmp 9] := by kernel_rfl
  have h4 : Nat.ble 4 28 = true := by kernel_rfl
  have h5 : okCode 28 pl83 ls83 C83 0 = true := by kernel_rfl
  have e : W83 dataa datal datac a_ b swaps w R = wpC none Try.prog 28 pl83 ls83 C83 0 (endP Try.prog [.tmp 8, .tmp 9] R) (fr0 [(.slice dataa datal datac), (.int .i64 a_), (.int .i64 b), (.pointer swaps)]) [] w := by kernel_rfl
  exact ca_of' (P := Try.prog) (g := 83) (fn := Try.f83) (c := C83) (m := 28) (rs := [.tmp 8, .tmp 9]) (args := [(.slice dataa datal datac), (.int .i64 a_), (.int .i64 b), (.pointer swaps)]) (pl := pl83) (ls := ls83) (w := w) (R := R) h1 Try.func83 h2 Try.ntmps83 h6 h3 h4 h5 (Eq.mp e h)

/-- slices.medianOrdered[int] -/
noncomputable def C72 : Code := (Try.f72.body).getD .skip
def pl72 : Nat → Plan := fun _ => .done
def ls72 : Nat → List (Nat × LT) := fun _ => []
def W72 (dataa : Option Addr) (datal : Nat) (datac : Nat) (a_ : Int) (b : Int) (c : Int) (swaps : Option Addr) (w : World) (R : Value → World → Prop) : Prop :=
  (Ca Try.prog (83) (Array.mk [Value.slice dataa datal datac, Value.int IntKind.i64 a_, Value.int IntKind.i64 b, Value.pointer swaps]) (w) (fun v0 => (fun w1 =>
    (∃ x2 : Int, (∃ x3 : Int, ((v0 = Value.tuple (Array.mk (List.reverse [Value.int IntKind.i64 x3, Value.int IntKind.i64 x2]))) ∧ (Ca Try.prog (83) (Array.mk [Value.slice dataa datal datac, Value.int IntKind.i64 x3, Value.int IntKind.i64 c, Value.pointer swaps]) (w1) (fun v4 => (fun w5 =>
      (∃ x6 : Int, (∃ x7 : Int, ((v4 = Value.tuple (Array.mk (List.reverse [Value.int IntKind.i64 x7, Value.int IntKind.i64 x6]))) ∧ (Ca Try.prog (83) (Array.mk [Value.slice dataa datal datac, Value.int IntKind.i64 x2, Value.int IntKind.i64 x6, Value.pointer swaps]) (w5) (fun v8 => (fun w9 =>
        (∃ x10 : Int, (∃ x11 : Int, ((v8 = Value.tuple (Array.mk (List.reverse [Value.int IntKind.i64 x11, Value.int IntKind.i64 x10]))) ∧ (R (Value.int IntKind.i64 x11) (w9))))))))))))))))))))
theorem ca72 (dataa : Option Addr) (datal : Nat) (datac : Nat) (a_ : Int) (b : Int) (c : Int) (swaps : Option Addr) (w : World) (R : Value → World → Prop) (h : W72 dataa datal datac a_ b c swaps w R) : Ca Try.prog 72 ⟨[(.slice dataa datal datac), (.int .i64 a_), (.int .i64 b), (.int .i64 c), (.pointer swaps)]⟩ w R := by
  have h1 : Try.prog.follows .mixedOrders = true := by kernel_rfl
  have h2 : Try.f72.body = some C72 := by kernel_rfl
  have h3 : (Try.f72.name == "runtime.NumGoroutine") = false := by kernel_rfl
  have h6 : Try.f72.results.toList = [.tmp 10] := by kernel_rfl
  have h4 : Nat.ble 5 36 = true := by kernel_rfl
  have h5 : okCode 36 pl72 ls72 C72 0 = true := by kernel_rfl
  have e : W72 dataa datal datac a_ b c swaps w R = wpC none Try.prog 36 pl72 ls72 C72 0 (endP Try.prog [.tmp 10] R) (fr0 [(.slice dataa datal datac), (.int .i64 a_), (.int .i64 b), (.int .i64 c), (.pointer swaps)]) [] w := by kernel_rfl
  exact ca_of' (P := Try.prog) (g := 72) (fn := Try.f72) (c := C72) (m := 36) (rs := [.tmp 10]) (args := [(.slice dataa datal datac), (.int .i64 a_), (.int .i64 b), (.int .i64 c), (.pointer swaps)]) (pl := pl72) (ls := ls72) (w := w) (R := R) h1 Try.func72 h2 Try.ntmps72 h6 h3 h4 h5 (Eq.mp e h)

/-- slices.medianAdjacentOrdered[int] -/
noncomputable def C71 : Code := (Try.f71.body).getD .skip
def pl71 : Nat → Plan := fun _ => .done
def ls71 : Nat → List (Nat × LT) := fun _ => []
def W71 (dataa : Option Addr) (datal : Nat) (datac : Nat) (a_ : Int) (swaps : Option Addr) (w : World) (R : Value → World → Prop) : Prop :=
  (Ca Try.prog (72) (Array.mk [Value.slice dataa datal datac, Value.int IntKind.i64 (IntKind.wrap IntKind.i64 (a_ - 1)), Value.int IntKind.i64 a_, Value.int IntKind.i64 (IntKind.wrap IntKind.i64 (a_ + 1)), Value.pointer swaps]) (w) (fun v0 => (fun w1 =>
    (∃ x2 : Int, ((v0 = Value.int IntKind.i64 x2) ∧ (R (Value.int IntKind.i64 x2) (w1)))))))
theorem ca71 (dataa : Option Addr) (datal : Nat) (datac : Nat) (a_ : Int) (swaps : Option Addr) (w : World) (R : Value → World → Prop) (h : W71 dataa datal datac a_ swaps w R) : Ca Try.prog 71 ⟨[(.slice dataa datal datac), (.int .i64 a_), (.pointer swaps)]⟩ w R := by
  have h1 : Try.prog.follows .mixedOrders = true := by kernel_rfl
  have h2 : Try.f71.body = some C71 := by kernel_rfl
  have h3 : (Try.f71.name == "runtime.NumGoroutine") = false := by kernel_rfl
  have h6 : Try.f71.results.toList = [.tmp 6] := by kernel_rfl
  have h4 : Nat.ble 3 15 = true := by kernel_rfl
  have h5 : okCode 15 pl71 ls71 C71 0 = true := by kernel_rfl
  have e : W71 dataa datal datac a_ swaps w R = wpC none Try.prog 15 pl71 ls71 C71 0 (endP Try.prog [.tmp 6] R) (fr0 [(.slice dataa datal datac), (.int .i64 a_), (.pointer swaps)]) [] w := by kernel_rfl
  exact ca_of' (P := Try.prog) (g := 71) (fn := Try.f71) (c := C71) (m := 15) (rs := [.tmp 6]) (args := [(.slice dataa datal datac), (.int .i64 a_), (.pointer swaps)]) (pl := pl71) (ls := ls71) (w := w) (R := R) h1 Try.func71 h2 Try.ntmps71 h6 h3 h4 h5 (Eq.mp e h)

/-- slices.choosePivotOrdered[int] -/
noncomputable def C57 : Code := (Try.f57.body).getD .skip
def pl57 : Nat → Plan := fun _ => .done
def ls57 : Nat → List (Nat × LT)
  | 6 => [(0, .agg []), (11, (.one (.int .i64)))]
  | _ => []
def W57 (dataa : Option Addr) (datal : Nat) (datac : Nat) (a_ : Int) (b : Int) (w : World) (R : Value → World → Prop) : Prop :=
  (atW (World.alloc w (Obj.cells (Array.mk [Value.int IntKind.i64 0]) 3 (0, 0))) (fun w0 =>
    (((4 : Int) ≠ 0) ∧ (((4 : Int) ≠ 0) ∧ (((4 : Int) ≠ 0) ∧ (∃ z1 : Int → World → Prop, ((ifK (decide (IntKind.wrap IntKind.i64 (b - a_) ≥ 8))
      (ifK (decide (IntKind.wrap IntKind.i64 (b - a_) ≥ 50))
        (Ca Try.prog (71) (Array.mk [Value.slice dataa datal datac, Value.int IntKind.i64 (IntKind.wrap IntKind.i64 (a_ + IntKind.wrap IntKind.i64 (IntKind.wrap IntKind.i64 (Int.tdiv (IntKind.wrap IntKind.i64 (b - a_)) 4) * 1))), Value.pointer (some (Addr.mk (Array.size (World.heap w)) 0 none))]) (w0) (fun v2 => (fun w3 =>
          (∃ x4 : Int, ((v2 = Value.int IntKind.i64 x4) ∧ (Ca Try.prog (71) (Array.mk [Value.slice dataa datal datac, Value.int IntKind.i64 (IntKind.wrap IntKind.i64 (a_ + IntKind.wrap IntKind.i64 (IntKind.wrap IntKind.i64 (Int.tdiv (IntKind.wrap IntKind.i64 (b - a_)) 4) * 2))), Value.pointer (some (Addr.mk (Array.size (World.heap w)) 0 none))]) (w3) (fun v5 => (fun w6 =>
            (∃ x7 : Int, ((v5 = Value.int IntKind.i64 x7) ∧ (Ca Try.prog (71) (Array.mk [Value.slice dataa datal datac, Value.int IntKind.i64 (IntKind.wrap IntKind.i64 (a_ + IntKind.wrap IntKind.i64 (IntKind.wrap IntKind.i64 (Int.tdiv (IntKind.wrap IntKind.i64 (b - a_)) 4) * 3))), Value.pointer (some (Addr.mk (Array.size (World.heap w)) 0 none))]) (w6) (fun v8 => (fun w9 =>
              (∃ x10 : Int, ((v8 = Value.int IntKind.i64 x10) ∧ (Ca Try.prog (72) (Array.mk [Value.slice dataa datal datac, Value.int IntKind.i64 x4, Value.int IntKind.i64 x7, Value.int IntKind.i64 x10, Value.pointer (some (Addr.mk (Array.size (World.heap w)) 0 none))]) (w9) (fun v11 => (fun w12 =>
                (∃ x13 : Int, ((v11 = Value.int IntKind.i64 x13) ∧ (z1 (x13) (w12))))))))))))))))))))))
        (Ca Try.prog (72) (Array.mk [Value.slice dataa datal datac, Value.int IntKind.i64 (IntKind.wrap IntKind.i64 (a_ + IntKind.wrap IntKind.i64 (IntKind.wrap IntKind.i64 (Int.tdiv (IntKind.wrap IntKind.i64 (b - a_)) 4) * 1))), Value.int IntKind.i64 (IntKind.wrap IntKind.i64 (a_ + IntKind.wrap IntKind.i64 (IntKind.wrap IntKind.i64 (Int.tdiv (IntKind.wrap IntKind.i64 (b - a_)) 4) * 2))), Value.int IntKind.i64 (IntKind.wrap IntKind.i64 (a_ + IntKind.wrap IntKind.i64 (IntKind.wrap IntKind.i64 (Int.tdiv (IntKind.wrap IntKind.i64 (b - a_)) 4) * 3))), Value.pointer (some (Addr.mk (Array.size (World.heap w)) 0 none))]) (w0) (fun v14 => (fun w15 =>
          (∃ x16 : Int, ((v14 = Value.int IntKind.i64 x16) ∧ (z1 (x16) (w15))))))))
      (z1 (IntKind.wrap IntKind.i64 (a_ + IntKind.wrap IntKind.i64 (IntKind.wrap IntKind.i64 (Int.tdiv (IntKind.wrap IntKind.i64 (b - a_)) 4) * 2))) (w0))) ∧ (∀ (_ : Nat → Value), (∀ (x18 : Int), (∀ (w19 : World), ((z1 (x18) (w19)) → (∃ x20 : Int, ((World.cell? w19 (Addr.mk (Array.size (World.heap w)) 0 none) = some (Value.int IntKind.i64 x20)) ∧ (ifK (x20 == 0)
      (R (Value.tuple (Array.mk [Value.int IntKind.i64 x18, Value.int IntKind.i64 1])) (w19))
      (ifK (x20 == 12)
        (R (Value.tuple (Array.mk [Value.int IntKind.i64 x18, Value.int IntKind.i64 2])) (w19))
        (R (Value.tuple (Array.mk [Value.int IntKind.i64 x18, Value.int IntKind.i64 0])) (w19)))))))))))))))))
theorem ca57 (dataa : Option Addr) (datal : Nat) (datac : Nat) (a_ : Int) (b : Int) (w : World) (R : Value → World → Prop) (h : W57 dataa datal datac a_ b w R) : Ca Try.prog 57 ⟨[(.slice dataa datal datac), (.int .i64 a_), (.int .i64 b)]⟩ w R := by
  have h1 : Try.prog.follows .mixedOrders = true := by kernel_rfl
  have h2 : Try.f57.body = some C57 := by kernel_rfl
  have h3 : (Try.f57.name == "runtime.NumGoroutine") = false := by kernel_rfl
  have h6 : Try.f57.results.toList = [.tmp 6, .tmp 7] := by kernel_rfl
  have h4 : Nat.ble 3 57 = true := by kernel_rfl
  have h5 : okCode 57 pl57 ls57 C57 0 = true := by kernel_rfl
  have e : W57 dataa datal datac a_ b w R = wpC none Try.prog 57 pl57 ls57 C57 0 (endP Try.prog [.tmp 6, .tmp 7] R) (fr0 [(.slice dataa datal datac), (.int .i64 a_), (.int .i64 b)]) [] w := by kernel_rfl
  exact ca_of' (P := Try.prog) (g := 57) (fn := Try.f57) (c := C57) (m := 57) (rs := [.tmp 6, .tmp 7]) (args := [(.slice dataa datal datac), (.int .i64 a_), (.int .i64 b)]) (pl := pl57) (ls := ls57) (w := w) (R := R) h1 Try.func57 h2 Try.ntmps57 h6 h3 h4 h5 (Eq.mp e h)

/-- slices.reverseRangeOrdered[int] -/
noncomputable def C58 : Code := (Try.f58.body).getD .skip
def pl58 : Nat → Plan
  | 3 => (.quiet 0 (.quiet 1 (.quiet 2 (.quiet 3 (.quiet 4 (.quiet 5 (.quiet 6 (.quiet 7 (.quiet 8 (.quiet 9 (.quiet 10 (.quiet 11 (.quiet 12 (.eff 13 [] (.quiet 14 (.eff 15 [] .done))))))))))))))))
  | _ => .done
def ls58 : Nat → List (Nat × LT)
  | 2 => [(6, (.one (.int .i64))), (7, (.one (.int .i64)))]
  | _ => []
def W58 (dataa : Option Addr) (datal : Nat) (_datac : Nat) (a_ : Int) (b : Int) (w : World) (R : Value → World → Prop) : Prop :=
  (∃ z0 : Int → Int → World → Prop, (∃ z1 : Int → Int → World → Nat, ((z0 (a_) (IntKind.wrap IntKind.i64 (b - 1)) (w)) ∧ (∀ (_ : Nat → Value), (∀ (x3 : Int), (∀ (x4 : Int), (∀ (w5 : World), ((z0 (x3) (x4) (w5)) → (ifK (decide (x3 < x4))
    (atW (World.drew w5) (fun w6 =>
      (∃ a7 : Addr, ((dataa = some a7) ∧ (((0 : Int) ≤ x4) ∧ (((x4 : Int) < (↑datal : Int)) ∧ (∃ x8 : Int, ((World.cell? w6 (Addr.add a7 (Int.toNat x4 * 1)) = some (Value.int IntKind.i64 x8)) ∧ (∃ a9 : Addr, ((dataa = some a9) ∧ (((0 : Int) ≤ x3) ∧ (((x3 : Int) < (↑datal : Int)) ∧ (∃ x10 : Int, ((World.cell? w6 (Addr.add a9 (Int.toNat x3 * 1)) = some (Value.int IntKind.i64 x10)) ∧ (∃ a11 : Addr, ((dataa = some a11) ∧ (((0 : Int) ≤ x3) ∧ (((x3 : Int) < (↑datal : Int)) ∧ ((∃ v12 : Value, (World.cell? w6 (Addr.add (Addr.add a11 (Int.toNat x3 * 1)) 0) = some v12)) ∧ ((World.frozen? w6 (Addr.add (Addr.add a11 (Int.toNat x3 * 1)) 0) = false) ∧ (atW (World.setCell w6 (Addr.add (Addr.add a11 (Int.toNat x3 * 1)) 0) (Value.int IntKind.i64 x8)) (fun w13 =>
        (∃ a14 : Addr, ((dataa = some a14) ∧ (((0 : Int) ≤ x4) ∧ (((x4 : Int) < (↑datal : Int)) ∧ ((∃ v15 : Value, (World.cell? w13 (Addr.add (Addr.add a14 (Int.toNat x4 * 1)) 0) = some v15)) ∧ ((World.frozen? w13 (Addr.add (Addr.add a14 (Int.toNat x4 * 1)) 0) = false) ∧ (atW (World.setCell w13 (Addr.add (Addr.add a14 (Int.toNat x4 * 1)) 0) (Value.int IntKind.i64 x10)) (fun w16 =>
          ((z0 (IntKind.wrap IntKind.i64 (x3 + 1)) (IntKind.wrap IntKind.i64 (x4 - 1)) (w16)) ∧ (z1 (IntKind.wrap IntKind.i64 (x3 + 1)) (IntKind.wrap IntKind.i64 (x4 - 1)) w16 < z1 x3 x4 w5))))))))))))))))))))))))))))))))
    (R (Value.tuple (Array.mk (List.reverse []))) (w5)))))))))))
theorem ca58 (dataa : Option Addr) (datal : Nat) (datac : Nat) (a_ : Int) (b : Int) (w : World) (R : Value → World → Prop) (h : W58 dataa datal datac a_ b w R) : Ca Try.prog 58 ⟨[(.slice dataa datal datac), (.int .i64 a_), (.int .i64 b)]⟩ w R := by
  have h1 : Try.prog.follows .mixedOrders = true := by kernel_rfl
  have h2 : Try.f58.body = some C58 := by kernel_rfl
  have h3 : (Try.f58.name == "runtime.NumGoroutine") = false := by kernel_rfl
  have h6 : Try.f58.results.toList = [] := by kernel_rfl
  have h4 : Nat.ble 3 32 = true := by kernel_rfl
  have h5 : okCode 32 pl58 ls58 C58 0 = true := by kernel_rfl
  have e : W58 dataa datal datac a_ b w R = wpC none Try.prog 32 pl58 ls58 C58 0 (endP Try.prog [] R) (fr0 [(.slice dataa datal datac), (.int .i64 a_), (.int .i64 b)]) [] w := by kernel_rfl
  exact ca_of' (P := Try.prog) (g := 58) (fn := Try.f58) (c := C58) (m := 32) (rs := []) (args := [(.slice dataa datal datac), (.int .i64 a_), (.int .i64 b)]) (pl := pl58) (ls := ls58) (w := w) (R := R) h1 Try.func58 h2 Try.ntmps58 h6 h3 h4 h5 (Eq.mp e h)

/-- slices.partitionOrdered[int] -/
noncomputable def C62 : Code := (Try.f62.body).getD .skip
def pl62 : Nat → Plan
  | 1 => (.quiet 0 (.quiet 1 (.quiet 2 (.quiet 3 (.quiet 4 (.quiet 5 (.quiet 6 (.quiet 7 (.quiet 8 (.quiet 9 (.quiet 10 (.quiet 11 (.quiet 12 (.eff 13 [] (.quiet 14 (.eff 15 [] .done))))))))))))))))
  | 3 => (.quiet 0 (.quiet 1 (.quiet 2 (.quiet 3 (.quiet 4 (.quiet 5 (.quiet 6 (.quiet 7 (.quiet 8 (.quiet 9 (.quiet 10 (.quiet 11 (.eff 12 [] (.quiet 13 .done))))))))))))))
  | 5 => (.quiet 0 (.quiet 1 (.quiet 2 (.quiet 3 (.quiet 4 (.quiet 5 (.quiet 6 (.quiet 7 (.quiet 8 (.quiet 9 (.quiet 10 (.quiet 11 (.eff 12 [] (.quiet 13 (.quiet 14 .done)))))))))))))))
  | 8 => (.quiet 0 (.quiet 1 (.quiet 2 (.quiet 3 (.quiet 4 (.quiet 5 (.quiet 6 (.quiet 7 (.quiet 8 (.quiet 9 (.quiet 10 (.quiet 11 (.quiet 12 (.eff 13 [] (.quiet 14 (.eff 15 [] .done))))))))))))))))
  | 10 => (.quiet 0 (.quiet 1 (.quiet 2 (.quiet 3 (.quiet 4 (.quiet 5 (.quiet 6 (.quiet 7 (.quiet 8 (.quiet 9 (.quiet 10 (.quiet 11 (.quiet 12 (.eff 13 [] (.quiet 14 (.eff 15 [] .done))))))))))))))))
  | 13 => (.quiet 0 (.quiet 1 (.quiet 2 (.quiet 3 (.quiet 4 (.quiet 5 (.quiet 6 (.quiet 7 (.quiet 8 (.quiet 9 (.quiet 10 (.quiet 11 (.eff 12 [] (.quiet 13 .done))))))))))))))
  | 15 => (.quiet 0 (.quiet 1 (.quiet 2 (.quiet 3 (.quiet 4 (.quiet 5 (.quiet 6 (.quiet 7 (.quiet 8 (.quiet 9 (.quiet 10 (.quiet 11 (.eff 12 [] (.quiet 13 (.quiet 14 .done)))))))))))))))
  | 18 => (.quiet 0 (.quiet 1 (.quiet 2 (.quiet 3 (.quiet 4 (.quiet 5 (.quiet 6 (.quiet 7 (.quiet 8 (.quiet 9 (.quiet 10 (.quiet 11 (.quiet 12 (.eff 13 [] (.quiet 14 (.eff 15 [] .done))))))))))))))))
  | 21 => (.quiet 0 (.quiet 1 (.quiet 2 (.quiet 3 (.quiet 4 (.quiet 5 (.quiet 6 (.quiet 7 (.quiet 8 (.quiet 9 (.quiet 10 (.quiet 11 (.quiet 12 (.eff 13 [] (.quiet 14 (.eff 15 [] .done))))))))))))))))
  | _ => .done
def ls62 : Nat → List (Nat × LT)
  | 3 => [(0, .agg []), (10, (.one (.int .i64)))]
  | 4 => [(10, (.one (.int .i64)))]
  | 7 => [(0, .agg []), (11, (.one (.int .i64)))]
  | 8 => [(11, (.one (.int .i64)))]
  | 19 => [(10, (.one (.int .i64))), (11, (.one (.int .i64)))]
  | 20 => [(0, .agg []), (10, (.one (.int .i64)))]
  | 21 => [(10, (.one (.int .i64)))]
  | 24 => [(0, .agg []), (11, (.one (.int .i64)))]
  | 25 => [(11, (.one (.int .i64)))]
  | _ => []
def W62 (dataa : Option Addr) (datal : Nat) (_datac : Nat) (a_ : Int) (b : Int) (pivot : Int) (w : World) (R : Value → World → Prop) : Prop :=
  (atW (World.drew w) (fun w0 =>
    (∃ a1 : Addr, ((dataa = some a1) ∧ (((0 : Int) ≤ pivot) ∧ (((pivot : Int) < (↑datal : Int)) ∧ (∃ x2 : Int, ((World.cell? w0 (Addr.add a1 (Int.toNat pivot * 1)) = some (Value.int IntKind.i64 x2)) ∧ (∃ a3 : Addr, ((dataa = some a3) ∧ (((0 : Int) ≤ a_) ∧ (((a_ : Int) < (↑datal : Int)) ∧ (∃ x4 : Int, ((World.cell? w0 (Addr.add a3 (Int.toNat a_ * 1)) = some (Value.int IntKind.i64 x4)) ∧ (∃ a5 : Addr, ((dataa = some a5) ∧ (((0 : Int) ≤ a_) ∧ (((a_ : Int) < (↑datal : Int)) ∧ ((∃ v6 : Value, (World.cell? w0 (Addr.add (Addr.add a5 (Int.toNat a_ * 1)) 0) = some v6)) ∧ ((World.frozen? w0 (Addr.add (Addr.add a5 (Int.toNat a_ * 1)) 0) = false) ∧ (atW (World.setCell w0 (Addr.add (Addr.add a5 (Int.toNat a_ * 1)) 0) (Value.int IntKind.i64 x2)) (fun w7 =>
      (∃ a8 : Addr, ((dataa = some a8) ∧ (((0 : Int) ≤ pivot) ∧ (((pivot : Int) < (↑datal : Int)) ∧ ((∃ v9 : Value, (World.cell? w7 (Addr.add (Addr.add a8 (Int.toNat pivot * 1)) 0) = some v9)) ∧ ((World.frozen? w7 (Addr.add (Addr.add a8 (Int.toNat pivot * 1)) 0) = false) ∧ (atW (World.setCell w7 (Addr.add (Addr.add a8 (Int.toNat pivot * 1)) 0) (Value.int IntKind.i64 x4)) (fun w10 =>
        (∃ z11 : Int → World → Prop, ((∃ z12 : Int → World → Prop, (∃ z13 : Int → World → Nat, ((z12 (IntKind.wrap IntKind.i64 (a_ + 1)) (w10)) ∧ (∀ (_ : Nat → Value), (∀ (x15 : Int), (∀ (w16 : World), ((z12 (x15) (w16)) → (atW (World.drew w16) (fun w17 =>
          (ifK (decide (x15 ≤ IntKind.wrap IntKind.i64 (b - 1)))
            (∃ a18 : Addr, ((dataa = some a18) ∧ (((0 : Int) ≤ x15) ∧ (((x15 : Int) < (↑datal : Int)) ∧ (∃ x19 : Int, ((World.cell? w17 (Addr.add a18 (Int.toNat x15 * 1)) = some (Value.int IntKind.i64 x19)) ∧ (∃ a20 : Addr, ((dataa = some a20) ∧ (((0 : Int) ≤ a_) ∧ (((a_ : Int) < (↑datal : Int)) ∧ (∃ x21 : Int, ((World.cell? w17 (Addr.add a20 (Int.toNat a_ * 1)) = some (Value.int IntKind.i64 x21)) ∧ (Ca Try.prog (60) (Array.mk [Value.int IntKind.i64 x19, Value.int IntKind.i64 x21]) (w17) (fun v22 => (fun w23 =>
              (∃ b24 : Bool, ((v22 = Value.bool b24) ∧ (ifK (b24)
                ((z12 (IntKind.wrap IntKind.i64 (x15 + 1)) (w23)) ∧ (z13 (IntKind.wrap IntKind.i64 (x15 + 1)) w23 < z13 x15 w16))
                (z11 (x15) (w23))))))))))))))))))))
            (z11 (x15) (w17)))))))))))) ∧ (∀ (_ : Nat → Value), (∀ (x26 : Int), (∀ (w27 : World), ((z11 (x26) (w27)) → (∃ z28 : Int → World → Prop, ((∃ z29 : Int → World → Prop, (∃ z30 : Int → World → Nat, ((z29 (IntKind.wrap IntKind.i64 (b - 1)) (w27)) ∧ (∀ (_ : Nat → Value), (∀ (x32 : Int), (∀ (w33 : World), ((z29 (x32) (w33)) → (atW (World.drew w33) (fun w34 =>
          (ifK (decide (x26 ≤ x32))
            (∃ a35 : Addr, ((dataa = some a35) ∧ (((0 : Int) ≤ x32) ∧ (((x32 : Int) < (↑datal : Int)) ∧ (∃ x36 : Int, ((World.cell? w34 (Addr.add a35 (Int.toNat x32 * 1)) = some (Value.int IntKind.i64 x36)) ∧ (∃ a37 : Addr, ((dataa = some a37) ∧ (((0 : Int) ≤ a_) ∧ (((a_ : Int) < (↑datal : Int)) ∧ (∃ x38 : Int, ((World.cell? w34 (Addr.add a37 (Int.toNat a_ * 1)) = some (Value.int IntKind.i64 x38)) ∧ (Ca Try.prog (60) (Array.mk [Value.int IntKind.i64 x36, Value.int IntKind.i64 x38]) (w34) (fun v39 => (fun w40 =>
              (∃ b41 : Bool, ((v39 = Value.bool b41) ∧ (ifK (!b41)
                ((z29 (IntKind.wrap IntKind.i64 (x32 - 1)) (w40)) ∧ (z30 (IntKind.wrap IntKind.i64 (x32 - 1)) w40 < z30 x32 w33))
                (z28 (x32) (w40))))))))))))))))))))
            (z28 (x32) (w34)))))))))))) ∧ (∀ (_ : Nat → Value), (∀ (x43 : Int), (∀ (w44 : World), ((z28 (x43) (w44)) → (ifK (decide (x26 > x43))
          (atW (World.drew w44) (fun w45 =>
            (∃ a46 : Addr, ((dataa = some a46) ∧ (((0 : Int) ≤ a_) ∧ (((a_ : Int) < (↑datal : Int)) ∧ (∃ x47 : Int, ((World.cell? w45 (Addr.add a46 (Int.toNat a_ * 1)) = some (Value.int IntKind.i64 x47)) ∧ (∃ a48 : Addr, ((dataa = some a48) ∧ (((0 : Int) ≤ x43) ∧ (((x43 : Int) < (↑datal : Int)) ∧ (∃ x49 : Int, ((World.cell? w45 (Addr.add a48 (Int.toNat x43 * 1)) = some (Value.int IntKind.i64 x49)) ∧ (∃ a50 : Addr, ((dataa = some a50) ∧ (((0 : Int) ≤ x43) ∧ (((x43 : Int) < (↑datal : Int)) ∧ ((∃ v51 : Value, (World.cell? w45 (Addr.add (Addr.add a50 (Int.toNat x43 * 1)) 0) = some v51)) ∧ ((World.frozen? w45 (Addr.add (Addr.add a50 (Int.toNat x43 * 1)) 0) = false) ∧ (atW (World.setCell w45 (Addr.add (Addr.add a50 (Int.toNat x43 * 1)) 0) (Value.int IntKind.i64 x47)) (fun w52 =>
              (∃ a53 : Addr, ((dataa = some a53) ∧ (((0 : Int) ≤ a_) ∧ (((a_ : Int) < (↑datal : Int)) ∧ ((∃ v54 : Value, (World.cell? w52 (Addr.add (Addr.add a53 (Int.toNat a_ * 1)) 0) = some v54)) ∧ ((World.frozen? w52 (Addr.add (Addr.add a53 (Int.toNat a_ * 1)) 0) = false) ∧ (atW (World.setCell w52 (Addr.add (Addr.add a53 (Int.toNat a_ * 1)) 0) (Value.int IntKind.i64 x49)) (fun w55 =>
                (R (Value.tuple (Array.mk [Value.int IntKind.i64 x43, Value.bool true])) (w55))))))))))))))))))))))))))))))))
          (atW (World.drew w44) (fun w56 =>
            (∃ a57 : Addr, ((dataa = some a57) ∧ (((0 : Int) ≤ x43) ∧ (((x43 : Int) < (↑datal : Int)) ∧ (∃ x58 : Int, ((World.cell? w56 (Addr.add a57 (Int.toNat x43 * 1)) = some (Value.int IntKind.i64 x58)) ∧ (∃ a59 : Addr, ((dataa = some a59) ∧ (((0 : Int) ≤ x26) ∧ (((x26 : Int) < (↑datal : Int)) ∧ (∃ x60 : Int, ((World.cell? w56 (Addr.add a59 (Int.toNat x26 * 1)) = some (Value.int IntKind.i64 x60)) ∧ (∃ a61 : Addr, ((dataa = some a61) ∧ (((0 : Int) ≤ x26) ∧ (((x26 : Int) < (↑datal : Int)) ∧ ((∃ v62 : Value, (World.cell? w56 (Addr.add (Addr.add a61 (Int.toNat x26 * 1)) 0) = some v62)) ∧ ((World.frozen? w56 (Addr.add (Addr.add a61 (Int.toNat x26 * 1)) 0) = false) ∧ (atW (World.setCell w56 (Addr.add (Addr.add a61 (Int.toNat x26 * 1)) 0) (Value.int IntKind.i64 x58)) (fun w63 =>
              (∃ a64 : Addr, ((dataa = some a64) ∧ (((0 : Int) ≤ x43) ∧ (((x43 : Int) < (↑datal : Int)) ∧ ((∃ v65 : Value, (World.cell? w63 (Addr.add (Addr.add a64 (Int.toNat x43 * 1)) 0) = some v65)) ∧ ((World.frozen? w63 (Addr.add (Addr.add a64 (Int.toNat x43 * 1)) 0) = false) ∧ (atW (World.setCell w63 (Addr.add (Addr.add a64 (Int.toNat x43 * 1)) 0) (Value.int IntKind.i64 x60)) (fun w66 =>
                (∃ z67 : Int → Int → World → Prop, (∃ z68 : Int → Int → World → Nat, ((z67 (IntKind.wrap IntKind.i64 (x26 + 1)) (IntKind.wrap IntKind.i64 (x43 - 1)) (w66)) ∧ (∀ (_ : Nat → Value), (∀ (x70 : Int), (∀ (x71 : Int), (∀ (w72 : World), ((z67 (x70) (x71) (w72)) → (∃ z73 : Int → World → Prop, ((∃ z74 : Int → World → Prop, (∃ z75 : Int → World → Nat, ((z74 (x70) (w72)) ∧ (∀ (_ : Nat → Value), (∀ (x77 : Int), (∀ (w78 : World), ((z74 (x77) (w78)) → (atW (World.drew w78) (fun w79 =>
                  (ifK (decide (x77 ≤ x71))
                    (∃ a80 : Addr, ((dataa = some a80) ∧ (((0 : Int) ≤ x77) ∧ (((x77 : Int) < (↑datal : Int)) ∧ (∃ x81 : Int, ((World.cell? w79 (Addr.add a80 (Int.toNat x77 * 1)) = some (Value.int IntKind.i64 x81)) ∧ (∃ a82 : Addr, ((dataa = some a82) ∧ (((0 : Int) ≤ a_) ∧ (((a_ : Int) < (↑datal : Int)) ∧ (∃ x83 : Int, ((World.cell? w79 (Addr.add a82 (Int.toNat a_ * 1)) = some (Value.int IntKind.i64 x83)) ∧ (Ca Try.prog (60) (Array.mk [Value.int IntKind.i64 x81, Value.int IntKind.i64 x83]) (w79) (fun v84 => (fun w85 =>
                      (∃ b86 : Bool, ((v84 = Value.bool b86) ∧ (ifK (b86)
                        ((z74 (IntKind.wrap IntKind.i64 (x77 + 1)) (w85)) ∧ (z75 (IntKind.wrap IntKind.i64 (x77 + 1)) w85 < z75 x77 w78))
                        (z73 (x77) (w85))))))))))))))))))))
                    (z73 (x77) (w79)))))))))))) ∧ (∀ (_ : Nat → Value), (∀ (x88 : Int), (∀ (w89 : World), ((z73 (x88) (w89)) → (∃ z90 : Int → World → Prop, ((∃ z91 : Int → World → Prop, (∃ z92 : Int → World → Nat, ((z91 (x71) (w89)) ∧ (∀ (_ : Nat → Value), (∀ (x94 : Int), (∀ (w95 : World), ((z91 (x94) (w95)) → (atW (World.drew w95) (fun w96 =>
                  (ifK (decide (x88 ≤ x94))
                    (∃ a97 : Addr, ((dataa = some a97) ∧ (((0 : Int) ≤ x94) ∧ (((x94 : Int) < (↑datal : Int)) ∧ (∃ x98 : Int, ((World.cell? w96 (Addr.add a97 (Int.toNat x94 * 1)) = some (Value.int IntKind.i64 x98)) ∧ (∃ a99 : Addr, ((dataa = some a99) ∧ (((0 : Int) ≤ a_) ∧ (((a_ : Int) < (↑datal : Int)) ∧ (∃ x100 : Int, ((World.cell? w96 (Addr.add a99 (Int.toNat a_ * 1)) = some (Value.int IntKind.i64 x100)) ∧ (Ca Try.prog (60) (Array.mk [Value.int IntKind.i64 x98, Value.int IntKind.i64 x100]) (w96) (fun v101 => (fun w102 =>
                      (∃ b103 : Bool, ((v101 = Value.bool b103) ∧ (ifK (!b103)
                        ((z91 (IntKind.wrap IntKind.i64 (x94 - 1)) (w102)) ∧ (z92 (IntKind.wrap IntKind.i64 (x94 - 1)) w102 < z92 x94 w95))
                        (z90 (x94) (w102))))))))))))))))))))
                    (z90 (x94) (w96)))))))))))) ∧ (∀ (_ : Nat → Value), (∀ (x105 : Int), (∀ (w106 : World), ((z90 (x105) (w106)) → (ifK (decide (x88 > x105))
                  (atW (World.drew w106) (fun w107 =>
                    (∃ a108 : Addr, ((dataa = some a108) ∧ (((0 : Int) ≤ a_) ∧ (((a_ : Int) < (↑datal : Int)) ∧ (∃ x109 : Int, ((World.cell? w107 (Addr.add a108 (Int.toNat a_ * 1)) = some (Value.int IntKind.i64 x109)) ∧ (∃ a110 : Addr, ((dataa = some a110) ∧ (((0 : Int) ≤ x105) ∧ (((x105 : Int) < (↑datal : Int)) ∧ (∃ x111 : Int, ((World.cell? w107 (Addr.add a110 (Int.toNat x105 * 1)) = some (Value.int IntKind.i64 x111)) ∧ (∃ a112 : Addr, ((dataa = some a112) ∧ (((0 : Int) ≤ x105) ∧ (((x105 : Int) < (↑datal : Int)) ∧ ((∃ v113 : Value, (World.cell? w107 (Addr.add (Addr.add a112 (Int.toNat x105 * 1)) 0) = some v113)) ∧ ((World.frozen? w107 (Addr.add (Addr.add a112 (Int.toNat x105 * 1)) 0) = false) ∧ (atW (World.setCell w107 (Addr.add (Addr.add a112 (Int.toNat x105 * 1)) 0) (Value.int IntKind.i64 x109)) (fun w114 =>
                      (∃ a115 : Addr, ((dataa = some a115) ∧ (((0 : Int) ≤ a_) ∧ (((a_ : Int) < (↑datal : Int)) ∧ ((∃ v116 : Value, (World.cell? w114 (Addr.add (Addr.add a115 (Int.toNat a_ * 1)) 0) = some v116)) ∧ ((World.frozen? w114 (Addr.add (Addr.add a115 (Int.toNat a_ * 1)) 0) = false) ∧ (atW (World.setCell w114 (Addr.add (Addr.add a115 (Int.toNat a_ * 1)) 0) (Value.int IntKind.i64 x111)) (fun w117 =>
                        (R (Value.tuple (Array.mk [Value.int IntKind.i64 x105, Value.bool false])) (w117))))))))))))))))))))))))))))))))
                  (atW (World.drew w106) (fun w118 =>
                    (∃ a119 : Addr, ((dataa = some a119) ∧ (((0 : Int) ≤ x105) ∧ (((x105 : Int) < (↑datal : Int)) ∧ (∃ x120 : Int, ((World.cell? w118 (Addr.add a119 (Int.toNat x105 * 1)) = some (Value.int IntKind.i64 x120)) ∧ (∃ a121 : Addr, ((dataa = some a121) ∧ (((0 : Int) ≤ x88) ∧ (((x88 : Int) < (↑datal : Int)) ∧ (∃ x122 : Int, ((World.cell? w118 (Addr.add a121 (Int.toNat x88 * 1)) = some (Value.int IntKind.i64 x122)) ∧ (∃ a123 : Addr, ((dataa = some a123) ∧ (((0 : Int) ≤ x88) ∧ (((x88 : Int) < (↑datal : Int)) ∧ ((∃ v124 : Value, (World.cell? w118 (Addr.add (Addr.add a123 (Int.toNat x88 * 1)) 0) = some v124)) ∧ ((World.frozen? w118 (Addr.add (Addr.add a123 (Int.toNat x88 * 1)) 0) = false) ∧ (atW (World.setCell w118 (Addr.add (Addr.add a123 (Int.toNat x88 * 1)) 0) (Value.int IntKind.i64 x120)) (fun w125 =>
                      (∃ a126 : Addr, ((dataa = some a126) ∧ (((0 : Int) ≤ x105) ∧ (((x105 : Int) < (↑datal : Int)) ∧ ((∃ v127 : Value, (World.cell? w125 (Addr.add (Addr.add a126 (Int.toNat x105 * 1)) 0) = some v127)) ∧ ((World.frozen? w125 (Addr.add (Addr.add a126 (Int.toNat x105 * 1)) 0) = false) ∧ (atW (World.setCell w125 (Addr.add (Addr.add a126 (Int.toNat x105 * 1)) 0) (Value.int IntKind.i64 x122)) (fun w128 =>
                        ((z67 (IntKind.wrap IntKind.i64 (x88 + 1)) (IntKind.wrap IntKind.i64 (x105 - 1)) (w128)) ∧ (z68 (IntKind.wrap IntKind.i64 (x88 + 1)) (IntKind.wrap IntKind.i64 (x105 - 1)) w128 < z68 x70 x71 w72))))))))))))))))))))))))))))))))))))))))))))))))))))))))))))))))))))))))))))))))))))))))))))))))))))))))))))))))))))))))))))))
theorem ca62 (dataa : Option Addr) (datal : Nat) (datac : Nat) (a_ : Int) (b : Int) (pivot : Int) (w : World) (R : Value → World → Prop) (h : W62 dataa datal datac a_ b pivot w R) : Ca Try.prog 62 ⟨[(.slice dataa datal datac), (.int .i64 a_), (.int .i64 b), (.int .i64 pivot)]⟩ w R := by
  have h1 : Try.prog.follows .mixedOrders = true := by kernel_rfl
  have h2 : Try.f62.body = some C62 := by kernel_rfl
  have h3 : (Try.f62.name == "runtime.NumGoroutine") = false := by kernel_rfl
  have h6 : Try.f62.results.toList = [.tmp 8, .tmp 9] := by kernel_rfl
  have h4 : Nat.ble 4 168 = true := by kernel_rfl
  have h5 : okCode 168 pl62 ls62 C62 0 = true := by kernel_rfl
  have e : W62 dataa datal datac a_ b pivot w R = wpC none Try.prog 168 pl62 ls62 C62 0 (endP Try.prog [.tmp 8, .tmp 9] R) (fr0 [(.slice dataa datal datac), (.int .i64 a_), (.int .i64 b), (.int .i64 pivot)]) [] w := by kernel_rfl
  exact ca_of' (P := Try.prog) (g := 62) (fn := Try.f62) (c := C62) (m := 168) (rs := [.tmp 8, .tmp 9]) (args := [(.slice dataa datal datac), (.int .i64 a_), (.int .i64 b), (.int .i64 pivot)]) (pl := pl62) (ls := ls62) (w := w) (R := R) h1 Try.func62 h2 Try.ntmps62 h6 h3 h4 h5 (Eq.mp e h)

/-- slices.partitionEqualOrdered[int] -/
noncomputable def C61 : Code := (Try.f61.body).getD .skip
def pl61 : Nat → Plan
  | 1 => (.quiet 0 (.quiet 1 (.quiet 2 (.quiet 3 (.quiet 4 (.quiet 5 (.quiet 6 (.quiet 7 (.quiet 8 (.quiet 9 (.quiet 10 (.quiet 11 (.quiet 12 (.eff 13 [] (.quiet 14 (.eff 15 [] .done))))))))))))))))
  | 3 => (.quiet 0 (.quiet 1 (.quiet 2 (.quiet 3 (.quiet 4 (.quiet 5 (.quiet 6 (.quiet 7 (.quiet 8 (.quiet 9 (.quiet 10 (.quiet 11 (.eff 12 [] (.quiet 13 (.quiet 14 .done)))))))))))))))
  | 5 => (.quiet 0 (.quiet 1 (.quiet 2 (.quiet 3 (.quiet 4 (.quiet 5 (.quiet 6 (.quiet 7 (.quiet 8 (.quiet 9 (.quiet 10 (.quiet 11 (.eff 12 [] (.quiet 13 .done))))))))))))))
  | 8 => (.quiet 0 (.quiet 1 (.quiet 2 (.quiet 3 (.quiet 4 (.quiet 5 (.quiet 6 (.quiet 7 (.quiet 8 (.quiet 9 (.quiet 10 (.quiet 11 (.quiet 12 (.eff 13 [] (.quiet 14 (.eff 15 [] .done))))))))))))))))
  | _ => .done
def ls61 : Nat → List (Nat × LT)
  | 4 => [(9, (.one (.int .i64))), (10, (.one (.int .i64)))]
  | 5 => [(0, .agg []), (9, (.one (.int .i64)))]
  | 6 => [(9, (.one (.int .i64)))]
  | 9 => [(0, .agg []), (10, (.one (.int .i64)))]
  | 10 => [(10, (.one (.int .i64)))]
  | _ => []
def W61 (dataa : Option Addr) (datal : Nat) (_datac : Nat) (a_ : Int) (b : Int) (pivot : Int) (w : World) (R : Value → World → Prop) : Prop :=
  (atW (World.drew w) (fun w0 =>
    (∃ a1 : Addr, ((dataa = some a1) ∧ (((0 : Int) ≤ pivot) ∧ (((pivot : Int) < (↑datal : Int)) ∧ (∃ x2 : Int, ((World.cell? w0 (Addr.add a1 (Int.toNat pivot * 1)) = some (Value.int IntKind.i64 x2)) ∧ (∃ a3 : Addr, ((dataa = some a3) ∧ (((0 : Int) ≤ a_) ∧ (((a_ : Int) < (↑datal : Int)) ∧ (∃ x4 : Int, ((World.cell? w0 (Addr.add a3 (Int.toNat a_ * 1)) = some (Value.int IntKind.i64 x4)) ∧ (∃ a5 : Addr, ((dataa = some a5) ∧ (((0 : Int) ≤ a_) ∧ (((a_ : Int) < (↑datal : Int)) ∧ ((∃ v6 : Value, (World.cell? w0 (Addr.add (Addr.add a5 (Int.toNat a_ * 1)) 0) = some v6)) ∧ ((World.frozen? w0 (Addr.add (Addr.add a5 (Int.toNat a_ * 1)) 0) = false) ∧ (atW (World.setCell w0 (Addr.add (Addr.add a5 (Int.toNat a_ * 1)) 0) (Value.int IntKind.i64 x2)) (fun w7 =>
      (∃ a8 : Addr, ((dataa = some a8) ∧ (((0 : Int) ≤ pivot) ∧ (((pivot : Int) < (↑datal : Int)) ∧ ((∃ v9 : Value, (World.cell? w7 (Addr.add (Addr.add a8 (Int.toNat pivot * 1)) 0) = some v9)) ∧ ((World.frozen? w7 (Addr.add (Addr.add a8 (Int.toNat pivot * 1)) 0) = false) ∧ (atW (World.setCell w7 (Addr.add (Addr.add a8 (Int.toNat pivot * 1)) 0) (Value.int IntKind.i64 x4)) (fun w10 =>
        (∃ z11 : Int → Int → World → Prop, (∃ z12 : Int → Int → World → Nat, ((z11 (IntKind.wrap IntKind.i64 (a_ + 1)) (IntKind.wrap IntKind.i64 (b - 1)) (w10)) ∧ (∀ (_ : Nat → Value), (∀ (x14 : Int), (∀ (x15 : Int), (∀ (w16 : World), ((z11 (x14) (x15) (w16)) → (∃ z17 : Int → World → Prop, ((∃ z18 : Int → World → Prop, (∃ z19 : Int → World → Nat, ((z18 (x14) (w16)) ∧ (∀ (_ : Nat → Value), (∀ (x21 : Int), (∀ (w22 : World), ((z18 (x21) (w22)) → (atW (World.drew w22) (fun w23 =>
          (ifK (decide (x21 ≤ x15))
            (∃ a24 : Addr, ((dataa = some a24) ∧ (((0 : Int) ≤ a_) ∧ (((a_ : Int) < (↑datal : Int)) ∧ (∃ x25 : Int, ((World.cell? w23 (Addr.add a24 (Int.toNat a_ * 1)) = some (Value.int IntKind.i64 x25)) ∧ (∃ a26 : Addr, ((dataa = some a26) ∧ (((0 : Int) ≤ x21) ∧ (((x21 : Int) < (↑datal : Int)) ∧ (∃ x27 : Int, ((World.cell? w23 (Addr.add a26 (Int.toNat x21 * 1)) = some (Value.int IntKind.i64 x27)) ∧ (Ca Try.prog (60) (Array.mk [Value.int IntKind.i64 x25, Value.int IntKind.i64 x27]) (w23) (fun v28 => (fun w29 =>
              (∃ b30 : Bool, ((v28 = Value.bool b30) ∧ (ifK (!b30)
                ((z18 (IntKind.wrap IntKind.i64 (x21 + 1)) (w29)) ∧ (z19 (IntKind.wrap IntKind.i64 (x21 + 1)) w29 < z19 x21 w22))
                (z17 (x21) (w29))))))))))))))))))))
            (z17 (x21) (w23)))))))))))) ∧ (∀ (_ : Nat → Value), (∀ (x32 : Int), (∀ (w33 : World), ((z17 (x32) (w33)) → (∃ z34 : Int → World → Prop, ((∃ z35 : Int → World → Prop, (∃ z36 : Int → World → Nat, ((z35 (x15) (w33)) ∧ (∀ (_ : Nat → Value), (∀ (x38 : Int), (∀ (w39 : World), ((z35 (x38) (w39)) → (atW (World.drew w39) (fun w40 =>
          (ifK (decide (x32 ≤ x38))
            (∃ a41 : Addr, ((dataa = some a41) ∧ (((0 : Int) ≤ a_) ∧ (((a_ : Int) < (↑datal : Int)) ∧ (∃ x42 : Int, ((World.cell? w40 (Addr.add a41 (Int.toNat a_ * 1)) = some (Value.int IntKind.i64 x42)) ∧ (∃ a43 : Addr, ((dataa = some a43) ∧ (((0 : Int) ≤ x38) ∧ (((x38 : Int) < (↑datal : Int)) ∧ (∃ x44 : Int, ((World.cell? w40 (Addr.add a43 (Int.toNat x38 * 1)) = some (Value.int IntKind.i64 x44)) ∧ (Ca Try.prog (60) (Array.mk [Value.int IntKind.i64 x42, Value.int IntKind.i64 x44]) (w40) (fun v45 => (fun w46 =>
              (∃ b47 : Bool, ((v45 = Value.bool b47) ∧ (ifK (b47)
                ((z35 (IntKind.wrap IntKind.i64 (x38 - 1)) (w46)) ∧ (z36 (IntKind.wrap IntKind.i64 (x38 - 1)) w46 < z36 x38 w39))
                (z34 (x38) (w46))))))))))))))))))))
            (z34 (x38) (w40)))))))))))) ∧ (∀ (_ : Nat → Value), (∀ (x49 : Int), (∀ (w50 : World), ((z34 (x49) (w50)) → (ifK (decide (x32 > x49))
          (R (Value.int IntKind.i64 x32) (w50))
          (atW (World.drew w50) (fun w51 =>
            (∃ a52 : Addr, ((dataa = some a52) ∧ (((0 : Int) ≤ x49) ∧ (((x49 : Int) < (↑datal : Int)) ∧ (∃ x53 : Int, ((World.cell? w51 (Addr.add a52 (Int.toNat x49 * 1)) = some (Value.int IntKind.i64 x53)) ∧ (∃ a54 : Addr, ((dataa = some a54) ∧ (((0 : Int) ≤ x32) ∧ (((x32 : Int) < (↑datal : Int)) ∧ (∃ x55 : Int, ((World.cell? w51 (Addr.add a54 (Int.toNat x32 * 1)) = some (Value.int IntKind.i64 x55)) ∧ (∃ a56 : Addr, ((dataa = some a56) ∧ (((0 : Int) ≤ x32) ∧ (((x32 : Int) < (↑datal : Int)) ∧ ((∃ v57 : Value, (World.cell? w51 (Addr.add (Addr.add a56 (Int.toNat x32 * 1)) 0) = some v57)) ∧ ((World.frozen? w51 (Addr.add (Addr.add a56 (Int.toNat x32 * 1)) 0) = false) ∧ (atW (World.setCell w51 (Addr.add (Addr.add a56 (Int.toNat x32 * 1)) 0) (Value.int IntKind.i64 x53)) (fun w58 =>
              (∃ a59 : Addr, ((dataa = some a59) ∧ (((0 : Int) ≤ x49) ∧ (((x49 : Int) < (↑datal : Int)) ∧ ((∃ v60 : Value, (World.cell? w58 (Addr.add (Addr.add a59 (Int.toNat x49 * 1)) 0) = some v60)) ∧ ((World.frozen? w58 (Addr.add (Addr.add a59 (Int.toNat x49 * 1)) 0) = false) ∧ (atW (World.setCell w58 (Addr.add (Addr.add a59 (Int.toNat x49 * 1)) 0) (Value.int IntKind.i64 x55)) (fun w61 =>
                ((z11 (IntKind.wrap IntKind.i64 (x32 + 1)) (IntKind.wrap IntKind.i64 (x49 - 1)) (w61)) ∧ (z12 (IntKind.wrap IntKind.i64 (x32 + 1)) (IntKind.wrap IntKind.i64 (x49 - 1)) w61 < z12 x14 x15 w16)))))))))))))))))))))))))))))))))))))))))))))))))))))))))))))))))))))))))))))))))))
theorem ca61 (dataa : Option Addr) (datal : Nat) (datac : Nat) (a_ : Int) (b : Int) (pivot : Int) (w : World) (R : Value → World → Prop) (h : W61 dataa datal datac a_ b pivot w R) : Ca Try.prog 61 ⟨[(.slice dataa datal datac), (.int .i64 a_), (.int .i64 b), (.int .i64 pivot)]⟩ w R := by
  have h1 : Try.prog.follows .mixedOrders = true := by kernel_rfl
  have h2 : Try.f61.body = some C61 := by kernel_rfl
  have h3 : (Try.f61.name == "runtime.NumGoroutine") = false := by kernel_rfl
  have h6 : Try.f61.results.toList = [.tmp 8] := by kernel_rfl
  have h4 : Nat.ble 4 84 = true := by kernel_rfl
  have h5 : okCode 84 pl61 ls61 C61 0 = true := by kernel_rfl
  have e : W61 dataa datal datac a_ b pivot w R = wpC none Try.prog 84 pl61 ls61 C61 0 (endP Try.prog [.tmp 8] R) (fr0 [(.slice dataa datal datac), (.int .i64 a_), (.int .i64 b), (.int .i64 pivot)]) [] w := by kernel_rfl
  exact ca_of' (P := Try.prog) (g := 61) (fn := Try.f61) (c := C61) (m := 84) (rs := [.tmp 8]) (args := [(.slice dataa datal datac), (.int .i64 a_), (.int .i64 b), (.int .i64 pivot)]) (pl := pl61) (ls := ls61) (w := w) (R := R) h1 Try.func61 h2 Try.ntmps61 h6 h3 h4 h5 (Eq.mp e h)

/-- slices.siftDownOrdered[int] -/
noncomputable def C68 : Code := (Try.f68.body).getD .skip
def pl68 : Nat → Plan
  | 3 => (.quiet 0 (.quiet 1 (.quiet 2 (.quiet 3 (.quiet 4 (.quiet 5 (.quiet 6 (.quiet 7 (.quiet 8 (.quiet 9 (.quiet 10 (.quiet 11 (.quiet 12 (.quiet 13 (.quiet 14 (.quiet 15 (.quiet 16 (.quiet 17 (.eff 18 [] (.quiet 19 .done))))))))))))))))))))
  | 5 => (.quiet 0 (.quiet 1 (.quiet 2 (.quiet 3 (.quiet 4 (.quiet 5 (.quiet 6 (.quiet 7 (.quiet 8 (.quiet 9 (.quiet 10 (.quiet 11 (.eff 12 [] (.quiet 13 .done))))))))))))))
  | 6 => (.quiet 0 (.quiet 1 (.quiet 2 (.quiet 3 (.quiet 4 (.quiet 5 (.quiet 6 (.quiet 7 (.quiet 8 (.quiet 9 (.quiet 10 (.quiet 11 (.quiet 12 (.quiet 13 (.quiet 14 (.quiet 15 (.quiet 16 (.quiet 17 (.quiet 18 (.quiet 19 (.quiet 20 (.eff 21 [] (.quiet 22 (.eff 23 [] .done))))))))))))))))))))))))
  | _ => .done
def ls68 : Nat → List (Nat × LT)
  | 1 => [(8, (.one (.int .i64)))]
  | 5 => [(0, .agg []), (9, (.one (.int .i64)))]
  | _ => []
def W68 (dataa : Option Addr) (datal : Nat) (_datac : Nat) (lo : Int) (hi : Int) (first : Int) (w : World) (R : Value → World → Prop) : Prop :=
  (∃ z0 : Int → World → Prop, (∃ z1 : Int → World → Nat, ((z0 (lo) (w)) ∧ (∀ (_ : Nat → Value), (∀ (x3 : Int), (∀ (w4 : World), ((z0 (x3) (w4)) → (ifK (decide (IntKind.wrap IntKind.i64 (IntKind.wrap IntKind.i64 (2 * x3) + 1) ≥ hi))
    (R (Value.tuple (Array.mk (List.reverse []))) (w4))
    (∃ z5 : Int → World → Prop, ((atW (World.drew w4) (fun w6 =>
      (ifK (decide (IntKind.wrap IntKind.i64 (IntKind.wrap IntKind.i64 (IntKind.wrap IntKind.i64 (2 * x3) + 1) + 1) < hi))
        (∃ a7 : Addr, ((dataa = some a7) ∧ (((0 : Int) ≤ IntKind.wrap IntKind.i64 (first + IntKind.wrap IntKind.i64 (IntKind.wrap IntKind.i64 (2 * x3) + 1))) ∧ (((IntKind.wrap IntKind.i64 (first + IntKind.wrap IntKind.i64 (IntKind.wrap IntKind.i64 (2 * x3) + 1)) : Int) < (↑datal : Int)) ∧ (∃ x8 : Int, ((World.cell? w6 (Addr.add a7 (Int.toNat (IntKind.wrap IntKind.i64 (first + IntKind.wrap IntKind.i64 (IntKind.wrap IntKind.i64 (2 * x3) + 1))) * 1)) = some (Value.int IntKind.i64 x8)) ∧ (∃ a9 : Addr, ((dataa = some a9) ∧ (((0 : Int) ≤ IntKind.wrap IntKind.i64 (IntKind.wrap IntKind.i64 (first + IntKind.wrap IntKind.i64 (IntKind.wrap IntKind.i64 (2 * x3) + 1)) + 1)) ∧ (((IntKind.wrap IntKind.i64 (IntKind.wrap IntKind.i64 (first + IntKind.wrap IntKind.i64 (IntKind.wrap IntKind.i64 (2 * x3) + 1)) + 1) : Int) < (↑datal : Int)) ∧ (∃ x10 : Int, ((World.cell? w6 (Addr.add a9 (Int.toNat (IntKind.wrap IntKind.i64 (IntKind.wrap IntKind.i64 (first + IntKind.wrap IntKind.i64 (IntKind.wrap IntKind.i64 (2 * x3) + 1)) + 1)) * 1)) = some (Value.int IntKind.i64 x10)) ∧ (Ca Try.prog (60) (Array.mk [Value.int IntKind.i64 x8, Value.int IntKind.i64 x10]) (w6) (fun v11 => (fun w12 =>
          (∃ b13 : Bool, ((v11 = Value.bool b13) ∧ (ifK (b13)
            (z5 (IntKind.wrap IntKind.i64 (IntKind.wrap IntKind.i64 (IntKind.wrap IntKind.i64 (2 * x3) + 1) + 1)) (w12))
            (z5 (IntKind.wrap IntKind.i64 (IntKind.wrap IntKind.i64 (2 * x3) + 1)) (w12))))))))))))))))))))
        (z5 (IntKind.wrap IntKind.i64 (IntKind.wrap IntKind.i64 (2 * x3) + 1)) (w6))))) ∧ (∀ (_ : Nat → Value), (∀ (x15 : Int), (∀ (w16 : World), ((z5 (x15) (w16)) → (atW (World.drew w16) (fun w17 =>
      (∃ a18 : Addr, ((dataa = some a18) ∧ (((0 : Int) ≤ IntKind.wrap IntKind.i64 (first + x3)) ∧ (((IntKind.wrap IntKind.i64 (first + x3) : Int) < (↑datal : Int)) ∧ (∃ x19 : Int, ((World.cell? w17 (Addr.add a18 (Int.toNat (IntKind.wrap IntKind.i64 (first + x3)) * 1)) = some (Value.int IntKind.i64 x19)) ∧ (∃ a20 : Addr, ((dataa = some a20) ∧ (((0 : Int) ≤ IntKind.wrap IntKind.i64 (first + x15)) ∧ (((IntKind.wrap IntKind.i64 (first + x15) : Int) < (↑datal : Int)) ∧ (∃ x21 : Int, ((World.cell? w17 (Addr.add a20 (Int.toNat (IntKind.wrap IntKind.i64 (first + x15)) * 1)) = some (Value.int IntKind.i64 x21)) ∧ (Ca Try.prog (60) (Array.mk [Value.int IntKind.i64 x19, Value.int IntKind.i64 x21]) (w17) (fun v22 => (fun w23 =>
        (∃ b24 : Bool, ((v22 = Value.bool b24) ∧ (ifK (!b24)
          (R (Value.tuple (Array.mk (List.reverse []))) (w23))
          (atW (World.drew w23) (fun w25 =>
            (∃ a26 : Addr, ((dataa = some a26) ∧ (((0 : Int) ≤ IntKind.wrap IntKind.i64 (first + x15)) ∧ (((IntKind.wrap IntKind.i64 (first + x15) : Int) < (↑datal : Int)) ∧ (∃ x27 : Int, ((World.cell? w25 (Addr.add a26 (Int.toNat (IntKind.wrap IntKind.i64 (first + x15)) * 1)) = some (Value.int IntKind.i64 x27)) ∧ (∃ a28 : Addr, ((dataa = some a28) ∧ (((0 : Int) ≤ IntKind.wrap IntKind.i64 (first + x3)) ∧ (((IntKind.wrap IntKind.i64 (first + x3) : Int) < (↑datal : Int)) ∧ (∃ x29 : Int, ((World.cell? w25 (Addr.add a28 (Int.toNat (IntKind.wrap IntKind.i64 (first + x3)) * 1)) = some (Value.int IntKind.i64 x29)) ∧ (∃ a30 : Addr, ((dataa = some a30) ∧ (((0 : Int) ≤ IntKind.wrap IntKind.i64 (first + x3)) ∧ (((IntKind.wrap IntKind.i64 (first + x3) : Int) < (↑datal : Int)) ∧ ((∃ v31 : Value, (World.cell? w25 (Addr.add (Addr.add a30 (Int.toNat (IntKind.wrap IntKind.i64 (first + x3)) * 1)) 0) = some v31)) ∧ ((World.frozen? w25 (Addr.add (Addr.add a30 (Int.toNat (IntKind.wrap IntKind.i64 (first + x3)) * 1)) 0) = false) ∧ (atW (World.setCell w25 (Addr.add (Addr.add a30 (Int.toNat (IntKind.wrap IntKind.i64 (first + x3)) * 1)) 0) (Value.int IntKind.i64 x27)) (fun w32 =>
              (∃ a33 : Addr, ((dataa = some a33) ∧ (((0 : Int) ≤ IntKind.wrap IntKind.i64 (first + x15)) ∧ (((IntKind.wrap IntKind.i64 (first + x15) : Int) < (↑datal : Int)) ∧ ((∃ v34 : Value, (World.cell? w32 (Addr.add (Addr.add a33 (Int.toNat (IntKind.wrap IntKind.i64 (first + x15)) * 1)) 0) = some v34)) ∧ ((World.frozen? w32 (Addr.add (Addr.add a33 (Int.toNat (IntKind.wrap IntKind.i64 (first + x15)) * 1)) 0) = false) ∧ (atW (World.setCell w32 (Addr.add (Addr.add a33 (Int.toNat (IntKind.wrap IntKind.i64 (first + x15)) * 1)) 0) (Value.int IntKind.i64 x29)) (fun w35 =>
                ((z0 (x15) (w35)) ∧ (z1 x15 w35 < z1 x3 w4))))))))))))))))))))))))))))))))))))))))))))))))))))))))))))))))))
theorem ca68 (dataa : Option Addr) (datal : Nat) (datac : Nat) (lo : Int) (hi : Int) (first : Int) (w : World) (R : Value → World → Prop) (h : W68 dataa datal datac lo hi first w R) : Ca Try.prog 68 ⟨[(.slice dataa datal datac), (.int .i64 lo), (.int .i64 hi), (.int .i64 first)]⟩ w R := by
  have h1 : Try.prog.follows .mixedOrders = true := by kernel_rfl
  have h2 : Try.f68.body = some C68 := by kernel_rfl
  have h3 : (Try.f68.name == "runtime.NumGoroutine") = false := by kernel_rfl
  have h6 : Try.f68.results.toList = [] := by kernel_rfl
  have h4 : Nat.ble 4 76 = true := by kernel_rfl
  have h5 : okCode 76 pl68 ls68 C68 0 = true := by kernel_rfl
  have e : W68 dataa datal datac lo hi first w R = wpC none Try.prog 76 pl68 ls68 C68 0 (endP Try.prog [] R) (fr0 [(.slice dataa datal datac), (.int .i64 lo), (.int .i64 hi), (.int .i64 first)]) [] w := by kernel_rfl
  exact ca_of' (P := Try.prog) (g := 68) (fn := Try.f68) (c := C68) (m := 76) (rs := []) (args := [(.slice dataa datal datac), (.int .i64 lo), (.int .i64 hi), (.int .i64 first)]) (pl := pl68) (ls := ls68) (w := w) (R := R) h1 Try.func68 h2 Try.ntmps68 h6 h3 h4 h5 (Eq.mp e h)

/-- slices.heapSortOrdered[int] -/
noncomputable def C55 : Code := (Try.f55.body).getD .skip
def pl55 : Nat → Plan
  | 10 => (.quiet 0 (.quiet 1 (.quiet 2 (.quiet 3 (.quiet 4 (.quiet 5 (.quiet 6 (.quiet 7 (.quiet 8 (.quiet 9 (.quiet 10 (.quiet 11 (.quiet 12 (.quiet 13 (.quiet 14 (.quiet 15 (.quiet 16 (.eff 17 [] (.quiet 18 (.eff 19 [] .done))))))))))))))))))))
  | _ => .done
def ls55 : Nat → List (Nat × LT)
  | 5 => [(9, (.one (.int .i64)))]
  | 10 => [(10, (.one (.int .i64)))]
  | _ => []
def W55 (dataa : Option Addr) (datal : Nat) (datac : Nat) (a_ : Int) (b : Int) (w : World) (R : Value → World → Prop) : Prop :=
  (((2 : Int) ≠ 0) ∧ (∃ z0 : Int → World → Prop, (∃ z1 : Int → World → Nat, ((z0 (IntKind.wrap IntKind.i64 (Int.tdiv (IntKind.wrap IntKind.i64 (IntKind.wrap IntKind.i64 (b - a_) - 1)) 2)) (w)) ∧ (∀ (_ : Nat → Value), (∀ (x3 : Int), (∀ (w4 : World), ((z0 (x3) (w4)) → (ifK (decide (x3 ≥ 0))
    (Ca Try.prog (68) (Array.mk [Value.slice dataa datal datac, Value.int IntKind.i64 x3, Value.int IntKind.i64 (IntKind.wrap IntKind.i64 (b - a_)), Value.int IntKind.i64 a_]) (w4) (fun v5 => (fun w6 =>
      ((v5 = Value.tuple (Array.mk (List.reverse []))) ∧ ((z0 (IntKind.wrap IntKind.i64 (x3 - 1)) (w6)) ∧ (z1 (IntKind.wrap IntKind.i64 (x3 - 1)) w6 < z1 x3 w4))))))
    (∃ z7 : Int → World → Prop, (∃ z8 : Int → World → Nat, ((z7 (IntKind.wrap IntKind.i64 (IntKind.wrap IntKind.i64 (b - a_) - 1)) (w4)) ∧ (∀ (_ : Nat → Value), (∀ (x10 : Int), (∀ (w11 : World), ((z7 (x10) (w11)) → (ifK (decide (x10 ≥ 0))
      (atW (World.drew w11) (fun w12 =>
        (∃ a13 : Addr, ((dataa = some a13) ∧ (((0 : Int) ≤ IntKind.wrap IntKind.i64 (a_ + x10)) ∧ (((IntKind.wrap IntKind.i64 (a_ + x10) : Int) < (↑datal : Int)) ∧ (∃ x14 : Int, ((World.cell? w12 (Addr.add a13 (Int.toNat (IntKind.wrap IntKind.i64 (a_ + x10)) * 1)) = some (Value.int IntKind.i64 x14)) ∧ (∃ a15 : Addr, ((dataa = some a15) ∧ (((0 : Int) ≤ a_) ∧ (((a_ : Int) < (↑datal : Int)) ∧ (∃ x16 : Int, ((World.cell? w12 (Addr.add a15 (Int.toNat a_ * 1)) = some (Value.int IntKind.i64 x16)) ∧ (∃ a17 : Addr, ((dataa = some a17) ∧ (((0 : Int) ≤ a_) ∧ (((a_ : Int) < (↑datal : Int)) ∧ ((∃ v18 : Value, (World.cell? w12 (Addr.add (Addr.add a17 (Int.toNat a_ * 1)) 0) = some v18)) ∧ ((World.frozen? w12 (Addr.add (Addr.add a17 (Int.toNat a_ * 1)) 0) = false) ∧ (atW (World.setCell w12 (Addr.add (Addr.add a17 (Int.toNat a_ * 1)) 0) (Value.int IntKind.i64 x14)) (fun w19 =>
          (∃ a20 : Addr, ((dataa = some a20) ∧ (((0 : Int) ≤ IntKind.wrap IntKind.i64 (a_ + x10)) ∧ (((IntKind.wrap IntKind.i64 (a_ + x10) : Int) < (↑datal : Int)) ∧ ((∃ v21 : Value, (World.cell? w19 (Addr.add (Addr.add a20 (Int.toNat (IntKind.wrap IntKind.i64 (a_ + x10)) * 1)) 0) = some v21)) ∧ ((World.frozen? w19 (Addr.add (Addr.add a20 (Int.toNat (IntKind.wrap IntKind.i64 (a_ + x10)) * 1)) 0) = false) ∧ (atW (World.setCell w19 (Addr.add (Addr.add a20 (Int.toNat (IntKind.wrap IntKind.i64 (a_ + x10)) * 1)) 0) (Value.int IntKind.i64 x16)) (fun w22 =>
            (Ca Try.prog (68) (Array.mk [Value.slice dataa datal datac, Value.int IntKind.i64 0, Value.int IntKind.i64 x10, Value.int IntKind.i64 a_]) (w22) (fun v23 => (fun w24 =>
              ((v23 = Value.tuple (Array.mk (List.reverse []))) ∧ ((z7 (IntKind.wrap IntKind.i64 (x10 - 1)) (w24)) ∧ (z8 (IntKind.wrap IntKind.i64 (x10 - 1)) w24 < z8 x10 w11))))))))))))))))))))))))))))))))))))
      (R (Value.tuple (Array.mk (List.reverse []))) (w11)))))))))))))))))))
theorem ca55 (dataa : Option Addr) (datal : Nat) (datac : Nat) (a_ : Int) (b : Int) (w : World) (R : Value → World → Prop) (h : W55 dataa datal datac a_ b w R) : Ca Try.prog 55 ⟨[(.slice dataa datal datac), (.int .i64 a_), (.int .i64 b)]⟩ w R := by
  have h1 : Try.prog.follows .mixedOrders = true := by kernel_rfl
  have h2 : Try.f55.body = some C55 := by kernel_rfl
  have h3 : (Try.f55.name == "runtime.NumGoroutine") = false := by kernel_rfl
  have h6 : Try.f55.results.toList = [] := by kernel_rfl
  have h4 : Nat.ble 3 56 = true := by kernel_rfl
  have h5 : okCode 56 pl55 ls55 C55 0 = true := by kernel_rfl
  have e : W55 dataa datal datac a_ b w R = wpC none Try.prog 56 pl55 ls55 C55 0 (endP Try.prog [] R) (fr0 [(.slice dataa datal datac), (.int .i64 a_), (.int .i64 b)]) [] w := by kernel_rfl
  exact ca_of' (P := Try.prog) (g := 55) (fn := Try.f55) (c := C55) (m := 56) (rs := []) (args := [(.slice dataa datal datac), (.int .i64 a_), (.int .i64 b)]) (pl := pl55) (ls := ls55) (w := w) (R := R) h1 Try.func55 h2 Try.ntmps55 h6 h3 h4 h5 (Eq.mp e h)

/-- slices.breakPatternsOrdered[int] -/
noncomputable def C56 : Code := (Try.f56.body).getD .skip
def pl56 : Nat → Plan
  | 10 => (.quiet 0 (.quiet 1 (.quiet 2 (.quiet 3 (.quiet 4 (.quiet 5 (.quiet 6 (.quiet 7 (.quiet 8 (.quiet 9 (.quiet 10 (.quiet 11 (.quiet 12 (.quiet 13 (.quiet 14 (.quiet 15 (.quiet 16 (.eff 17 [] (.quiet 18 (.eff 19 [] .done))))))))))))))))))))
  | _ => .done
def ls56 : Nat → List (Nat × LT)
  | 5 => [(9, (.one (.int .i64)))]
  | 10 => [(0, .agg []), (10, (.one (.int .i64)))]
  | _ => []
def W56 (dataa : Option Addr) (datal : Nat) (_datac : Nat) (a_ : Int) (b : Int) (w : World) (R : Value → World → Prop) : Prop :=
  (ifK (decide (IntKind.wrap IntKind.i64 (b - a_) ≥ 8))
    (atW (World.alloc w (Obj.cells (Array.mk [Value.int IntKind.u64 0]) 109 (0, 0))) (fun w0 =>
      ((∃ v1 : Value, (World.cell? w0 (Addr.add (Addr.mk (Array.size (World.heap w)) 0 none) 0) = some v1)) ∧ ((World.frozen? w0 (Addr.add (Addr.mk (Array.size (World.heap w)) 0 none) 0) = false) ∧ (atW (World.setCell w0 (Addr.add (Addr.mk (Array.size (World.heap w)) 0 none) 0) (Value.int IntKind.u64 (IntKind.wrap IntKind.u64 (IntKind.wrap IntKind.i64 (b - a_))))) (fun w2 =>
        (Ca Try.prog (69) (Array.mk [Value.int IntKind.i64 (IntKind.wrap IntKind.i64 (b - a_))]) (w2) (fun v3 => (fun w4 =>
          (∃ x5 : Int, ((v3 = Value.int IntKind.u64 x5) ∧ (((4 : Int) ≠ 0) ∧ (∃ z6 : Int → World → Prop, (∃ z7 : Int → World → Nat, ((z6 (IntKind.wrap IntKind.i64 (IntKind.wrap IntKind.i64 (a_ + IntKind.wrap IntKind.i64 (IntKind.wrap IntKind.i64 (Int.tdiv (IntKind.wrap IntKind.i64 (b - a_)) 4) * 2)) - 1)) (w4)) ∧ (∀ (_ : Nat → Value), (∀ (x9 : Int), (∀ (w10 : World), ((z6 (x9) (w10)) → (((4 : Int) ≠ 0) ∧ (ifK (decide (x9 ≤ IntKind.wrap IntKind.i64 (IntKind.wrap IntKind.i64 (a_ + IntKind.wrap IntKind.i64 (IntKind.wrap IntKind.i64 (Int.tdiv (IntKind.wrap IntKind.i64 (b - a_)) 4) * 2)) + 1)))
            (Ca Try.prog (70) (Array.mk [Value.pointer (some (Addr.mk (Array.size (World.heap w)) 0 none))]) (w10) (fun v11 => (fun w12 =>
              (∃ x13 : Int, ((v11 = Value.int IntKind.u64 x13) ∧ (∃ z14 : Int → World → Prop, ((ifK (decide (IntKind.wrap IntKind.i64 (IntKind.wrap IntKind.u64 (↑(BitVec.toNat (BitVec.ofInt 64 x13 &&& BitVec.ofInt 64 (IntKind.wrap IntKind.u64 (x5 - 1)))) : Int)) ≥ IntKind.wrap IntKind.i64 (b - a_)))
                (z14 (IntKind.wrap IntKind.i64 (IntKind.wrap IntKind.i64 (IntKind.wrap IntKind.u64 (↑(BitVec.toNat (BitVec.ofInt 64 x13 &&& BitVec.ofInt 64 (IntKind.wrap IntKind.u64 (x5 - 1)))) : Int)) - IntKind.wrap IntKind.i64 (b - a_))) (w12))
                (z14 (IntKind.wrap IntKind.i64 (IntKind.wrap IntKind.u64 (↑(BitVec.toNat (BitVec.ofInt 64 x13 &&& BitVec.ofInt 64 (IntKind.wrap IntKind.u64 (x5 - 1)))) : Int))) (w12))) ∧ (∀ (_ : Nat → Value), (∀ (x16 : Int), (∀ (w17 : World), ((z14 (x16) (w17)) → (atW (World.drew w17) (fun w18 =>
                (∃ a19 : Addr, ((dataa = some a19) ∧ (((0 : Int) ≤ IntKind.wrap IntKind.i64 (a_ + x16)) ∧ (((IntKind.wrap IntKind.i64 (a_ + x16) : Int) < (↑datal : Int)) ∧ (∃ x20 : Int, ((World.cell? w18 (Addr.add a19 (Int.toNat (IntKind.wrap IntKind.i64 (a_ + x16)) * 1)) = some (Value.int IntKind.i64 x20)) ∧ (∃ a21 : Addr, ((dataa = some a21) ∧ (((0 : Int) ≤ x9) ∧ (((x9 : Int) < (↑datal : Int)) ∧ (∃ x22 : Int, ((World.cell? w18 (Addr.add a21 (Int.toNat x9 * 1)) = some (Value.int IntKind.i64 x22)) ∧ (∃ a23 : Addr, ((dataa = some a23) ∧ (((0 : Int) ≤ x9) ∧ (((x9 : Int) < (↑datal : Int)) ∧ ((∃ v24 : Value, (World.cell? w18 (Addr.add (Addr.add a23 (Int.toNat x9 * 1)) 0) = some v24)) ∧ ((World.frozen? w18 (Addr.add (Addr.add a23 (Int.toNat x9 * 1)) 0) = false) ∧ (atW (World.setCell w18 (Addr.add (Addr.add a23 (Int.toNat x9 * 1)) 0) (Value.int IntKind.i64 x20)) (fun w25 =>
                  (∃ a26 : Addr, ((dataa = some a26) ∧ (((0 : Int) ≤ IntKind.wrap IntKind.i64 (a_ + x16)) ∧ (((IntKind.wrap IntKind.i64 (a_ + x16) : Int) < (↑datal : Int)) ∧ ((∃ v27 : Value, (World.cell? w25 (Addr.add (Addr.add a26 (Int.toNat (IntKind.wrap IntKind.i64 (a_ + x16)) * 1)) 0) = some v27)) ∧ ((World.frozen? w25 (Addr.add (Addr.add a26 (Int.toNat (IntKind.wrap IntKind.i64 (a_ + x16)) * 1)) 0) = false) ∧ (atW (World.setCell w25 (Addr.add (Addr.add a26 (Int.toNat (IntKind.wrap IntKind.i64 (a_ + x16)) * 1)) 0) (Value.int IntKind.i64 x22)) (fun w28 =>
                    ((z6 (IntKind.wrap IntKind.i64 (x9 + 1)) (w28)) ∧ (z7 (IntKind.wrap IntKind.i64 (x9 + 1)) w28 < z7 x9 w10)))))))))))))))))))))))))))))))))))))))))))
            (R (Value.tuple (Array.mk (List.reverse []))) (w10)))))))))))))))))))))))
    (R (Value.tuple (Array.mk (List.reverse []))) (w)))
theorem ca56 (dataa : Option Addr) (datal : Nat) (datac : Nat) (a_ : Int) (b : Int) (w : World) (R : Value → World → Prop) (h : W56 dataa datal datac a_ b w R) : Ca Try.prog 56 ⟨[(.slice dataa datal datac), (.int .i64 a_), (.int .i64 b)]⟩ w R := by
  have h1 : Try.prog.follows .mixedOrders = true := by kernel_rfl
  have h2 : Try.f56.body = some C56 := by kernel_rfl
  have h3 : (Try.f56.name == "runtime.NumGoroutine") = false := by kernel_rfl
  have h6 : Try.f56.results.toList = [] := by kernel_rfl
  have h4 : Nat.ble 3 65 = true := by kernel_rfl
  have h5 : okCode 65 pl56 ls56 C56 0 = true := by kernel_rfl
  have e : W56 dataa datal datac a_ b w R = wpC none Try.prog 65 pl56 ls56 C56 0 (endP Try.prog [] R) (fr0 [(.slice dataa datal datac), (.int .i64 a_), (.int .i64 b)]) [] w := by kernel_rfl
  exact ca_of' (P := Try.prog) (g := 56) (fn := Try.f56) (c := C56) (m := 65) (rs := []) (args := [(.slice dataa datal datac), (.int .i64 a_), (.int .i64 b)]) (pl := pl56) (ls := ls56) (w := w) (R := R) h1 Try.func56 h2 Try.ntmps56 h6 h3 h4 h5 (Eq.mp e h)

/-- slices.partialInsertionSortOrdered[int] -/
noncomputable def C59 : Code := (Try.f59.body).getD .skip
def pl59 : Nat → Plan
  | 5 => (.quiet 0 (.quiet 1 (.quiet 2 (.quiet 3 (.quiet 4 (.quiet 5 (.quiet 6 (.quiet 7 (.quiet 8 (.quiet 9 (.quiet 10 (.quiet 11 (.quiet 12 (.eff 13 [] (.quiet 14 (.quiet 15 .done))))))))))))))))
  | 11 => (.quiet 0 (.quiet 1 (.quiet 2 (.quiet 3 (.quiet 4 (.quiet 5 (.quiet 6 (.quiet 7 (.quiet 8 (.quiet 9 (.quiet 10 (.quiet 11 (.quiet 12 (.quiet 13 (.quiet 14 (.eff 15 [] (.quiet 16 (.eff 17 [] .done))))))))))))))))))
  | 16 => (.quiet 0 (.quiet 1 (.quiet 2 (.quiet 3 (.quiet 4 (.quiet 5 (.quiet 6 (.quiet 7 (.quiet 8 (.eff 9 [] (.quiet 10 .done)))))))))))
  | 17 => (.quiet 0 (.quiet 1 (.quiet 2 (.quiet 3 (.quiet 4 (.quiet 5 (.quiet 6 (.quiet 7 (.quiet 8 (.quiet 9 (.quiet 10 (.quiet 11 (.quiet 12 (.quiet 13 (.quiet 14 (.eff 15 [] (.quiet 16 (.eff 17 [] .done))))))))))))))))))
  | 22 => (.quiet 0 (.quiet 1 (.quiet 2 (.quiet 3 (.quiet 4 (.quiet 5 (.quiet 6 (.quiet 7 (.quiet 8 (.eff 9 [] (.quiet 10 .done)))))))))))
  | 23 => (.quiet 0 (.quiet 1 (.quiet 2 (.quiet 3 (.quiet 4 (.quiet 5 (.quiet 6 (.quiet 7 (.quiet 8 (.quiet 9 (.quiet 10 (.quiet 11 (.quiet 12 (.quiet 13 (.quiet 14 (.eff 15 [] (.quiet 16 (.eff 17 [] .done))))))))))))))))))
  | _ => .done
def ls59 : Nat → List (Nat × LT)
  | 4 => [(7, (.one (.int .i64))), (8, (.one (.int .i64)))]
  | 8 => [(0, .agg []), (7, (.one (.int .i64)))]
  | 9 => [(7, (.one (.int .i64)))]
  | 19 => [(0, .agg [])]
  | 22 => [(9, (.one (.int .i64)))]
  | 30 => [(10, (.one (.int .i64)))]
  | _ => []
def W59 (dataa : Option Addr) (datal : Nat) (_datac : Nat) (a_ : Int) (b : Int) (w : World) (R : Value → World → Prop) : Prop :=
  (∃ z0 : Int → Int → World → Prop, (∃ z1 : Int → Int → World → Nat, ((z0 (IntKind.wrap IntKind.i64 (a_ + 1)) (0) (w)) ∧ (∀ (_ : Nat → Value), (∀ (x3 : Int), (∀ (x4 : Int), (∀ (w5 : World), ((z0 (x3) (x4) (w5)) → (ifK (decide (x4 < 5))
    (∃ z6 : Int → World → Prop, ((∃ z7 : Int → World → Prop, (∃ z8 : Int → World → Nat, ((z7 (x3) (w5)) ∧ (∀ (_ : Nat → Value), (∀ (x10 : Int), (∀ (w11 : World), ((z7 (x10) (w11)) → (atW (World.drew w11) (fun w12 =>
      (ifK (decide (x10 < b))
        (∃ a13 : Addr, ((dataa = some a13) ∧ (((0 : Int) ≤ x10) ∧ (((x10 : Int) < (↑datal : Int)) ∧ (∃ x14 : Int, ((World.cell? w12 (Addr.add a13 (Int.toNat x10 * 1)) = some (Value.int IntKind.i64 x14)) ∧ (∃ a15 : Addr, ((dataa = some a15) ∧ (((0 : Int) ≤ IntKind.wrap IntKind.i64 (x10 - 1)) ∧ (((IntKind.wrap IntKind.i64 (x10 - 1) : Int) < (↑datal : Int)) ∧ (∃ x16 : Int, ((World.cell? w12 (Addr.add a15 (Int.toNat (IntKind.wrap IntKind.i64 (x10 - 1)) * 1)) = some (Value.int IntKind.i64 x16)) ∧ (Ca Try.prog (60) (Array.mk [Value.int IntKind.i64 x14, Value.int IntKind.i64 x16]) (w12) (fun v17 => (fun w18 =>
          (∃ b19 : Bool, ((v17 = Value.bool b19) ∧ (ifK (!b19)
            ((z7 (IntKind.wrap IntKind.i64 (x10 + 1)) (w18)) ∧ (z8 (IntKind.wrap IntKind.i64 (x10 + 1)) w18 < z8 x10 w11))
            (z6 (x10) (w18))))))))))))))))))))
        (z6 (x10) (w12)))))))))))) ∧ (∀ (_ : Nat → Value), (∀ (x21 : Int), (∀ (w22 : World), ((z6 (x21) (w22)) → (ifK (x21 == b)
      (R (Value.bool true) (w22))
      (ifK (decide (IntKind.wrap IntKind.i64 (b - a_) < 50))
        (R (Value.bool false) (w22))
        (atW (World.drew w22) (fun w23 =>
          (∃ a24 : Addr, ((dataa = some a24) ∧ (((0 : Int) ≤ IntKind.wrap IntKind.i64 (x21 - 1)) ∧ (((IntKind.wrap IntKind.i64 (x21 - 1) : Int) < (↑datal : Int)) ∧ (∃ x25 : Int, ((World.cell? w23 (Addr.add a24 (Int.toNat (IntKind.wrap IntKind.i64 (x21 - 1)) * 1)) = some (Value.int IntKind.i64 x25)) ∧ (∃ a26 : Addr, ((dataa = some a26) ∧ (((0 : Int) ≤ x21) ∧ (((x21 : Int) < (↑datal : Int)) ∧ (∃ x27 : Int, ((World.cell? w23 (Addr.add a26 (Int.toNat x21 * 1)) = some (Value.int IntKind.i64 x27)) ∧ (∃ a28 : Addr, ((dataa = some a28) ∧ (((0 : Int) ≤ x21) ∧ (((x21 : Int) < (↑datal : Int)) ∧ ((∃ v29 : Value, (World.cell? w23 (Addr.add (Addr.add a28 (Int.toNat x21 * 1)) 0) = some v29)) ∧ ((World.frozen? w23 (Addr.add (Addr.add a28 (Int.toNat x21 * 1)) 0) = false) ∧ (atW (World.setCell w23 (Addr.add (Addr.add a28 (Int.toNat x21 * 1)) 0) (Value.int IntKind.i64 x25)) (fun w30 =>
            (∃ a31 : Addr, ((dataa = some a31) ∧ (((0 : Int) ≤ IntKind.wrap IntKind.i64 (x21 - 1)) ∧ (((IntKind.wrap IntKind.i64 (x21 - 1) : Int) < (↑datal : Int)) ∧ ((∃ v32 : Value, (World.cell? w30 (Addr.add (Addr.add a31 (Int.toNat (IntKind.wrap IntKind.i64 (x21 - 1)) * 1)) 0) = some v32)) ∧ ((World.frozen? w30 (Addr.add (Addr.add a31 (Int.toNat (IntKind.wrap IntKind.i64 (x21 - 1)) * 1)) 0) = false) ∧ (atW (World.setCell w30 (Addr.add (Addr.add a31 (Int.toNat (IntKind.wrap IntKind.i64 (x21 - 1)) * 1)) 0) (Value.int IntKind.i64 x27)) (fun w33 =>
              (∃ z34 : World → Prop, ((ifK (decide (IntKind.wrap IntKind.i64 (x21 - a_) ≥ 2))
                (∃ z35 : Int → World → Prop, (∃ z36 : Int → World → Nat, ((z35 (IntKind.wrap IntKind.i64 (x21 - 1)) (w33)) ∧ (∀ (_ : Nat → Value), (∀ (x38 : Int), (∀ (w39 : World), ((z35 (x38) (w39)) → (ifK (decide (x38 ≥ 1))
                  (atW (World.drew w39) (fun w40 =>
                    (∃ a41 : Addr, ((dataa = some a41) ∧ (((0 : Int) ≤ x38) ∧ (((x38 : Int) < (↑datal : Int)) ∧ (∃ x42 : Int, ((World.cell? w40 (Addr.add a41 (Int.toNat x38 * 1)) = some (Value.int IntKind.i64 x42)) ∧ (∃ a43 : Addr, ((dataa = some a43) ∧ (((0 : Int) ≤ IntKind.wrap IntKind.i64 (x38 - 1)) ∧ (((IntKind.wrap IntKind.i64 (x38 - 1) : Int) < (↑datal : Int)) ∧ (∃ x44 : Int, ((World.cell? w40 (Addr.add a43 (Int.toNat (IntKind.wrap IntKind.i64 (x38 - 1)) * 1)) = some (Value.int IntKind.i64 x44)) ∧ (Ca Try.prog (60) (Array.mk [Value.int IntKind.i64 x42, Value.int IntKind.i64 x44]) (w40) (fun v45 => (fun w46 =>
                      (∃ b47 : Bool, ((v45 = Value.bool b47) ∧ (ifK (!b47)
                        (z34 (w46))
                        (atW (World.drew w46) (fun w48 =>
                          (∃ a49 : Addr, ((dataa = some a49) ∧ (((0 : Int) ≤ IntKind.wrap IntKind.i64 (x38 - 1)) ∧ (((IntKind.wrap IntKind.i64 (x38 - 1) : Int) < (↑datal : Int)) ∧ (∃ x50 : Int, ((World.cell? w48 (Addr.add a49 (Int.toNat (IntKind.wrap IntKind.i64 (x38 - 1)) * 1)) = some (Value.int IntKind.i64 x50)) ∧ (∃ a51 : Addr, ((dataa = some a51) ∧ (((0 : Int) ≤ x38) ∧ (((x38 : Int) < (↑datal : Int)) ∧ (∃ x52 : Int, ((World.cell? w48 (Addr.add a51 (Int.toNat x38 * 1)) = some (Value.int IntKind.i64 x52)) ∧ (∃ a53 : Addr, ((dataa = some a53) ∧ (((0 : Int) ≤ x38) ∧ (((x38 : Int) < (↑datal : Int)) ∧ ((∃ v54 : Value, (World.cell? w48 (Addr.add (Addr.add a53 (Int.toNat x38 * 1)) 0) = some v54)) ∧ ((World.frozen? w48 (Addr.add (Addr.add a53 (Int.toNat x38 * 1)) 0) = false) ∧ (atW (World.setCell w48 (Addr.add (Addr.add a53 (Int.toNat x38 * 1)) 0) (Value.int IntKind.i64 x50)) (fun w55 =>
                            (∃ a56 : Addr, ((dataa = some a56) ∧ (((0 : Int) ≤ IntKind.wrap IntKind.i64 (x38 - 1)) ∧ (((IntKind.wrap IntKind.i64 (x38 - 1) : Int) < (↑datal : Int)) ∧ ((∃ v57 : Value, (World.cell? w55 (Addr.add (Addr.add a56 (Int.toNat (IntKind.wrap IntKind.i64 (x38 - 1)) * 1)) 0) = some v57)) ∧ ((World.frozen? w55 (Addr.add (Addr.add a56 (Int.toNat (IntKind.wrap IntKind.i64 (x38 - 1)) * 1)) 0) = false) ∧ (atW (World.setCell w55 (Addr.add (Addr.add a56 (Int.toNat (IntKind.wrap IntKind.i64 (x38 - 1)) * 1)) 0) (Value.int IntKind.i64 x52)) (fun w58 =>
                              ((z35 (IntKind.wrap IntKind.i64 (x38 - 1)) (w58)) ∧ (z36 (IntKind.wrap IntKind.i64 (x38 - 1)) w58 < z36 x38 w39))))))))))))))))))))))))))))))))))))))))))))))))))))
                  (z34 (w39))))))))))
                (z34 (w33))) ∧ (∀ (_ : Nat → Value), (∀ (w60 : World), ((z34 (w60)) → (ifK (decide (IntKind.wrap IntKind.i64 (b - x21) ≥ 2))
                (∃ z61 : Int → World → Prop, (∃ z62 : Int → World → Nat, ((z61 (IntKind.wrap IntKind.i64 (x21 + 1)) (w60)) ∧ (∀ (_ : Nat → Value), (∀ (x64 : Int), (∀ (w65 : World), ((z61 (x64) (w65)) → (ifK (decide (x64 < b))
                  (atW (World.drew w65) (fun w66 =>
                    (∃ a67 : Addr, ((dataa = some a67) ∧ (((0 : Int) ≤ x64) ∧ (((x64 : Int) < (↑datal : Int)) ∧ (∃ x68 : Int, ((World.cell? w66 (Addr.add a67 (Int.toNat x64 * 1)) = some (Value.int IntKind.i64 x68)) ∧ (∃ a69 : Addr, ((dataa = some a69) ∧ (((0 : Int) ≤ IntKind.wrap IntKind.i64 (x64 - 1)) ∧ (((IntKind.wrap IntKind.i64 (x64 - 1) : Int) < (↑datal : Int)) ∧ (∃ x70 : Int, ((World.cell? w66 (Addr.add a69 (Int.toNat (IntKind.wrap IntKind.i64 (x64 - 1)) * 1)) = some (Value.int IntKind.i64 x70)) ∧ (Ca Try.prog (60) (Array.mk [Value.int IntKind.i64 x68, Value.int IntKind.i64 x70]) (w66) (fun v71 => (fun w72 =>
                      (∃ b73 : Bool, ((v71 = Value.bool b73) ∧ (ifK (!b73)
                        ((z0 (x21) (IntKind.wrap IntKind.i64 (x4 + 1)) (w72)) ∧ (z1 x21 (IntKind.wrap IntKind.i64 (x4 + 1)) w72 < z1 x3 x4 w5))
                        (atW (World.drew w72) (fun w74 =>
                          (∃ a75 : Addr, ((dataa = some a75) ∧ (((0 : Int) ≤ IntKind.wrap IntKind.i64 (x64 - 1)) ∧ (((IntKind.wrap IntKind.i64 (x64 - 1) : Int) < (↑datal : Int)) ∧ (∃ x76 : Int, ((World.cell? w74 (Addr.add a75 (Int.toNat (IntKind.wrap IntKind.i64 (x64 - 1)) * 1)) = some (Value.int IntKind.i64 x76)) ∧ (∃ a77 : Addr, ((dataa = some a77) ∧ (((0 : Int) ≤ x64) ∧ (((x64 : Int) < (↑datal : Int)) ∧ (∃ x78 : Int, ((World.cell? w74 (Addr.add a77 (Int.toNat x64 * 1)) = some (Value.int IntKind.i64 x78)) ∧ (∃ a79 : Addr, ((dataa = some a79) ∧ (((0 : Int) ≤ x64) ∧ (((x64 : Int) < (↑datal : Int)) ∧ ((∃ v80 : Value, (World.cell? w74 (Addr.add (Addr.add a79 (Int.toNat x64 * 1)) 0) = some v80)) ∧ ((World.frozen? w74 (Addr.add (Addr.add a79 (Int.toNat x64 * 1)) 0) = false) ∧ (atW (World.setCell w74 (Addr.add (Addr.add a79 (Int.toNat x64 * 1)) 0) (Value.int IntKind.i64 x76)) (fun w81 =>
                            (∃ a82 : Addr, ((dataa = some a82) ∧ (((0 : Int) ≤ IntKind.wrap IntKind.i64 (x64 - 1)) ∧ (((IntKind.wrap IntKind.i64 (x64 - 1) : Int) < (↑datal : Int)) ∧ ((∃ v83 : Value, (World.cell? w81 (Addr.add (Addr.add a82 (Int.toNat (IntKind.wrap IntKind.i64 (x64 - 1)) * 1)) 0) = some v83)) ∧ ((World.frozen? w81 (Addr.add (Addr.add a82 (Int.toNat (IntKind.wrap IntKind.i64 (x64 - 1)) * 1)) 0) = false) ∧ (atW (World.setCell w81 (Addr.add (Addr.add a82 (Int.toNat (IntKind.wrap IntKind.i64 (x64 - 1)) * 1)) 0) (Value.int IntKind.i64 x78)) (fun w84 =>
                              ((z61 (IntKind.wrap IntKind.i64 (x64 + 1)) (w84)) ∧ (z62 (IntKind.wrap IntKind.i64 (x64 + 1)) w84 < z62 x64 w65))))))))))))))))))))))))))))))))))))))))))))))))))))
                  ((z0 (x21) (IntKind.wrap IntKind.i64 (x4 + 1)) (w65)) ∧ (z1 x21 (IntKind.wrap IntKind.i64 (x4 + 1)) w65 < z1 x3 x4 w5))))))))))
                ((z0 (x21) (IntKind.wrap IntKind.i64 (x4 + 1)) (w60)) ∧ (z1 x21 (IntKind.wrap IntKind.i64 (x4 + 1)) w60 < z1 x3 x4 w5))))))))))))))))))))))))))))))))))))))))))))))
    (R (Value.bool false) (w5)))))))))))
theorem ca59 (dataa : Option Addr) (datal : Nat) (datac : Nat) (a_ : Int) (b : Int) (w : World) (R : Value → World → Prop) (h : W59 dataa datal datac a_ b w R) : Ca Try.prog 59 ⟨[(.slice dataa datal datac), (.int .i64 a_), (.int .i64 b)]⟩ w R := by
  have h1 : Try.prog.follows .mixedOrders = true := by kernel_rfl
  have h2 : Try.f59.body = some C59 := by kernel_rfl
  have h3 : (Try.f59.name == "runtime.NumGoroutine") = false := by kernel_rfl
  have h6 : Try.f59.results.toList = [.tmp 6] := by kernel_rfl
  have h4 : Nat.ble 3 133 = true := by kernel_rfl
  have h5 : okCode 133 pl59 ls59 C59 0 = true := by kernel_rfl
  have e : W59 dataa datal datac a_ b w R = wpC none Try.prog 133 pl59 ls59 C59 0 (endP Try.prog [.tmp 6] R) (fr0 [(.slice dataa datal datac), (.int .i64 a_), (.int .i64 b)]) [] w := by kernel_rfl
  exact ca_of' (P := Try.prog) (g := 59) (fn := Try.f59) (c := C59) (m := 133) (rs := [.tmp 6]) (args := [(.slice dataa datal datac), (.int .i64 a_), (.int .i64 b)]) (pl := pl59) (ls := ls59) (w := w) (R := R) h1 Try.func59 h2 Try.ntmps59 h6 h3 h4 h5 (Eq.mp e h)
end Go.Proofs.Ytmnbnjkbbhjocaa

/- The library's general sort, at one type: what its parts do. -/
namespace Go.Proofs.Ytmnbnjkbbhjocaa.Sortint
open Go Go.Proofs.Ytmnbnjkbbhjocaa Go.Proofs.Ytmnbnjkbbhjocaa.St

theorem piv_eqs (a b l : Nat) (hab : a ≤ b) (hb : b ≤ l) (hl : l < 4611686018427387904) :
    IntKind.i64.wrap ((b : Int) - a) = ((b - a : Nat) : Int) ∧ Int.tdiv ((b - a : Nat) : Int) 4 = (((b - a) / 4 : Nat) : Int) ∧
    IntKind.i64.wrap ((a : Int) + IntKind.i64.wrap (IntKind.i64.wrap (((b - a) / 4 : Nat) : Int) * 1)) = ((a + (b - a) / 4 : Nat) : Int) ∧
    IntKind.i64.wrap ((a : Int) + IntKind.i64.wrap (IntKind.i64.wrap (((b - a) / 4 : Nat) : Int) * 2)) = ((a + (b - a) / 4 * 2 : Nat) : Int) ∧
    IntKind.i64.wrap ((a : Int) + IntKind.i64.wrap (IntKind.i64.wrap (((b - a) / 4 : Nat) : Int) * 3)) = ((a + (b - a) / 4 * 3 : Nat) : Int) :=
  ⟨(by first | (simp only [IntKind.wrap_i64]; omega) | omega), by rw [show (4 : Int) = ((4 : Nat) : Int) from rfl, ← Int.ofNat_tdiv], (by first | (simp only [IntKind.wrap_i64]; omega) | omega), (by first | (simp only [IntKind.wrap_i64]; omega) | omega), (by first | (simp only [IntKind.wrap_i64]; omega) | omega)⟩

section
variable (e : TypeId) (d : Option Addr) (l c : Nat) (xs : List Int) (w : World) (hd : Els (Value.int .i64) e w d l c xs) (hl : l < 4611686018427387904)
include hd hl

/-! ### The pivot -/
omit hl in
theorem order2_ok (s : Nat) (t : TypeId) (n : Int) (hs : w.heap[s]? = some (.cells #[.int .i64 n] t (0, 0))) (x y : Nat) (hx : x < l) (hy : y < l) (R : Value → World → Prop)
    (h : ∀ w' (n' : Int) (x' y' : Nat), (x' = x ∧ y' = y ∨ x' = y ∧ y' = x) → w'.heap[s]? = some (.cells #[.int .i64 n'] t (0, 0)) → Mod (on s) w w' → R (.tuple #[.int .i64 x', .int .i64 y']) w') :
    Ca Try.prog 83 #[.slice d l c, .int .i64 x, .int .i64 y, .pointer (some ⟨s, 0, none⟩)] w R := by
  refine ca83 d l c x y (some ⟨s, 0, none⟩) w R ?_
  intro w0 e0
  have m0 : Mod no w w0 := by subst e0; exact Mod.drew _
  clear e0
  have hs0 := m0.at' hs
  refine lss (hd.no m0) y x rfl rfl hy hx (fun _ => ?_) (fun _ => ?_)
  · refine ⟨n, by rw [cl hs0]; rfl, ⟨_, by rw [cl1 hs0]; rfl⟩, fz1 hs0 _, ?_⟩
    intro w1 e1
    have hs1 : w1.heap[s]? = some (.cells #[.int .i64 (IntKind.i64.wrap (n + 1))] t (0, 0)) := by subst e1; exact set1 hs0 _ _
    have m1 : Mod (on s) w0 w1 := by subst e1; exact Mod.set1 _ _ _ _
    exact h w1 _ y x (.inr ⟨rfl, rfl⟩) hs1 (m0.no_trans m1)
  · exact h w0 n x y (.inl ⟨rfl, rfl⟩) hs0 m0.of_no

omit hl in
theorem median_ok (s : Nat) (t : TypeId) (n : Int) (hs : w.heap[s]? = some (.cells #[.int .i64 n] t (0, 0))) (hne : ¬ rowB d s) (x y z : Nat) (hx : x < l) (hy : y < l) (hz : z < l) (R : Value → World → Prop)
    (h : ∀ w' (n' : Int) (m : Nat), (m = x ∨ m = y ∨ m = z) → w'.heap[s]? = some (.cells #[.int .i64 n'] t (0, 0)) → Mod (on s) w w' → R (.int .i64 m) w') :
    Ca Try.prog 72 #[.slice d l c, .int .i64 x, .int .i64 y, .int .i64 z, .pointer (some ⟨s, 0, none⟩)] w R := by
  refine ca72 d l c x y z (some ⟨s, 0, none⟩) w R ?_
  have keep : ∀ {w'}, Mod (on s) w w' → Els (Value.int .i64) e w' d l c xs := fun hm => hd.mod hm fun k hk he => hne (by cases he; exact hk)
  refine order2_ok e d l c xs w hd s t n hs x y hx hy _ fun w1 n1 x1 y1 h1 hs1 m1 => ⟨_, _, rfl, ?_⟩
  refine order2_ok e d l c xs w1 (keep m1) s t n1 hs1 y1 z (by omega) hz _ fun w2 n2 y2 z2 h2 hs2 m2 => ⟨_, _, rfl, ?_⟩
  refine order2_ok e d l c xs w2 (keep (m1.trans m2)) s t n2 hs2 x1 y2 (by omega) (by omega) _ fun w3 n3 x3 y3 h3 hs3 m3 => ⟨_, _, rfl, ?_⟩
  exact h w3 n3 y3 (by omega) hs3 ((m1.trans m2).trans m3)

theorem medianAdj_ok (s : Nat) (t : TypeId) (n : Int) (hs : w.heap[s]? = some (.cells #[.int .i64 n] t (0, 0))) (hne : ¬ rowB d s) (x : Nat) (hx : 0 < x) (hx1 : x + 1 < l) (R : Value → World → Prop)
    (h : ∀ w' (n' : Int) (m : Nat), (x ≤ m + 1 ∧ m ≤ x + 1) → w'.heap[s]? = some (.cells #[.int .i64 n'] t (0, 0)) → Mod (on s) w w' → R (.int .i64 m) w') :
    Ca Try.prog 71 #[.slice d l c, .int .i64 x, .pointer (some ⟨s, 0, none⟩)] w R := by
  refine ca71 d l c x (some ⟨s, 0, none⟩) w R ?_
  have e1 : IntKind.i64.wrap ((x : Int) - 1) = ((x - 1 : Nat) : Int) := (by first | (simp only [IntKind.wrap_i64]; omega) | omega)
  have e2 : IntKind.i64.wrap ((x : Int) + 1) = ((x + 1 : Nat) : Int) := (by first | (simp only [IntKind.wrap_i64]; omega) | omega)
  rw [W71, e1, e2]
  exact median_ok e d l c xs w hd s t n hs hne (x - 1) x (x + 1) (by omega) (by omega) hx1 _ fun w1 n1 m h1 hs1 m1 => ⟨_, rfl, h w1 n1 m (by rcases h1 with rfl | rfl | rfl <;> omega) hs1 m1⟩

theorem choosePivot_ok (a b : Nat) (hab : a + 8 ≤ b) (hb : b ≤ l) (R : Value → World → Prop)
    (h : ∀ w' (p : Nat) (hint : Int), a ≤ p → p < b → Mod no w w' → R (.tuple #[.int .i64 p, .int .i64 hint]) w') :
    Ca Try.prog 57 #[.slice d l c, .int .i64 a, .int .i64 b] w R := by
  refine ca57 d l c a b w R ?_
  obtain ⟨elen, e4, ei, ej, ek⟩ := piv_eqs a b l (by omega) hb hl
  rw [W57]
  simp only [elen, e4, ei, ej, ek]
  clear elen e4 ei ej ek
  intro w0 e0
  have m0 : Mod no w w0 := by subst e0; exact Mod.alloc _ _
  have hs0 : w0.heap[w.heap.size]? = some (.cells #[.int .i64 0] 3 (0, 0)) := by subst e0; exact new_at _ _
  clear e0
  have hne : ¬ rowB d w.heap.size := by
    intro hk
    obtain ⟨g, rfl, hc⟩ := hd.get (i := 0) (by have := hd.len; omega)
    have : g = w.heap.size := by simpa [rowB] using hk
    subst this
    have := hd.at (i := 0) (by have := hd.len; omega)
    obtain ⟨g', hg', hc'⟩ := this
    injection hg' with hg'; injection hg' with hg'; subst hg'
    rw [World.cell?, Array.getElem?_eq_none (by simp [Addr.add])] at hc'
    cases hc'
  have hd0 := hd.no m0
  have keep : ∀ {w'}, Mod (on w.heap.size) w0 w' → Els (Value.int .i64) e w' d l c xs := fun hm => hd0.mod hm fun k hk he => hne (by cases he; exact hk)
  refine ⟨by decide, by decide, by decide, fun x w' => ∃ (m : Nat) (n : Int), x = m ∧ a ≤ m ∧ m < b ∧ w'.heap[w.heap.size]? = some (.cells #[.int .i64 n] 3 (0, 0)) ∧ Mod (on w.heap.size) w0 w', ?_, ?_⟩
  · refine ifK_dec (fun _ => ifK_dec (fun h50 => ?_) (fun _ => ?_)) (fun hn => ?_)
    · refine medianAdj_ok e d l c xs w0 hd0 hl _ 3 0 hs0 hne _ (by omega) (by omega) _ fun w1 n1 x1 h1 hs1 m1 => ⟨_, rfl, ?_⟩
      refine medianAdj_ok e d l c xs w1 (keep m1) hl _ 3 n1 hs1 hne _ (by omega) (by omega) _ fun w2 n2 x2 h2 hs2 m2 => ⟨_, rfl, ?_⟩
      refine medianAdj_ok e d l c xs w2 (keep (m1.trans m2)) hl _ 3 n2 hs2 hne _ (by omega) (by omega) _ fun w3 n3 x3 h3 hs3 m3 => ⟨_, rfl, ?_⟩
      refine median_ok e d l c xs w3 (keep ((m1.trans m2).trans m3)) _ 3 n3 hs3 hne _ _ _ (by omega) (by omega) (by omega) _ fun w4 n4 x4 h4 hs4 m4 => ⟨_, rfl, ?_⟩
      have hx : a ≤ x4 ∧ x4 < b := by
        clear hs1 hs2 hs3 hs4 m1 m2 m3 m4 h
        rcases h4 with rfl | rfl | rfl <;> omega
      exact ⟨x4, n4, rfl, hx.1, hx.2, hs4, ((m1.trans m2).trans m3).trans m4⟩
    · refine median_ok e d l c xs w0 hd0 _ 3 0 hs0 hne _ _ _ (by omega) (by omega) (by omega) _ fun w4 n4 x4 h4 hs4 m4 => ⟨_, rfl, ?_⟩
      have hx : a ≤ x4 ∧ x4 < b := by rcases h4 with rfl | rfl | rfl <;> omega
      exact ⟨x4, n4, rfl, hx.1, hx.2, hs4, m4⟩
    · exact absurd hn (by omega)
  · rintro _ _ w1 ⟨m, n, rfl, h1, h2, hs1, m1⟩
    have m01 : Mod no w w1 := m0.new m1 fun k hk => by cases hk; exact Nat.le_refl _
    refine ⟨n, by rw [cl hs1]; rfl, ifK_of (fun _ => ?_) (fun _ => ifK_of (fun _ => ?_) (fun _ => ?_))⟩
    all_goals exact h w1 m _ h1 h2 m01

/-! ### Reversing, scattering -/
theorem reverse_ok (a b : Nat) (hab : a < b) (hb : b ≤ l) (R : Value → World → Prop)
    (h : ∀ w' ys, Els (Value.int .i64) e w' d l c ys → Seg a b xs ys → Mod (rowB d) w w' → R (.tuple #[]) w') :
    Ca Try.prog 58 #[.slice d l c, .int .i64 a, .int .i64 b] w R := by
  refine ca58 d l c a b w R ?_
  refine ⟨fun x y w' => ∃ (i j : Nat) (ys : List Int), x = i ∧ y = j ∧ a ≤ i ∧ i ≤ b ∧ j < b ∧ Els (Value.int .i64) e w' d l c ys ∧ Seg a b xs ys ∧ Mod (rowB d) w w', fun x y _ => (y - x).toNat,
    ⟨a, b - 1, xs, rfl, (by first | (simp only [IntKind.wrap_i64]; omega) | omega), Nat.le_refl _, by omega, by omega, hd, Seg.refl _ _ _, Mod.refl _ _⟩, ?_⟩
  rintro _ _ _ w1 ⟨i, j, ys, rfl, rfl, hi, hib, hj, hys, hsg, hm⟩
  have hyl := hys.len.1
  refine ifK_dec (fun hij => ?_) (fun _ => h w1 ys hys hsg hm)
  intro w2 e2
  have m2 : Mod no w1 w2 := by subst e2; exact Mod.drew _
  clear e2
  refine (hys.no m2).swp i j rfl rfl (by omega) (by omega) fun w3 h3 m3 => ?_
  exact ⟨⟨i + 1, j - 1, _, (by first | (simp only [IntKind.wrap_i64]; omega) | omega), (by first | (simp only [IntKind.wrap_i64]; omega) | omega), by omega, by omega, by omega, h3, hsg.trans (Seg.swap (by omega) (by omega) (by omega) (by omega) (by omega) (by omega)), (hm.trans_no m2).trans m3⟩, (by first | (simp only [IntKind.wrap_i64]; omega) | omega)⟩

/-! ### Parting -/
omit hd in
/-- As long as the left one is less. -/
theorem part_up (a b : Nat) (hb : b ≤ l) : ∀ (ys : List Int) (w' : World) (i j : Nat) (J : Int) (Q : Int → World → Prop), J = j → Els (Value.int .i64) e w' d l c ys → Pt ys a b i j →
    (∀ (i' : Nat) w'', Els (Value.int .i64) e w'' d l c ys → Pt ys a b i' j → (i' ≤ j → at0 ys a ≤ at0 ys i') → i ≤ i' → Mod no w' w'' → Q i' w'') →
    (∃ (z : Int → World → Prop) (m : Int → World → Nat), z i w' ∧ ∀ (_ : Nat → Value) (x : Int) (w1 : World), z x w1 → atW w1.drew fun w2 => ifK (decide (x ≤ J))
      (∃ ad : Addr, d = some ad ∧ (0 : Int) ≤ x ∧ x < (↑l : Int) ∧ ∃ y : Int, w2.cell? (Addr.add ad (Int.toNat x * 1)) = some ((Value.int .i64) y) ∧
        ∃ ad : Addr, d = some ad ∧ (0 : Int) ≤ (a : Int) ∧ (a : Int) < (↑l : Int) ∧ ∃ y' : Int, w2.cell? (Addr.add ad (Int.toNat (a : Int) * 1)) = some ((Value.int .i64) y') ∧
        Ca Try.prog 60 (Array.mk [(Value.int .i64) y, (Value.int .i64) y']) w2 (fun v w' => ∃ b : Bool, v = Value.bool b ∧ ifK b (z (IntKind.wrap .i64 (x + 1)) w' ∧ m (IntKind.wrap .i64 (x + 1)) w' < m x w1) (Q x w')))
      (Q x w2)) := by
  intro ys w' i j J Q hJ hys hpt hQ
  refine ⟨fun x w'' => ∃ i' : Nat, x = i' ∧ Els (Value.int .i64) e w'' d l c ys ∧ Pt ys a b i' j ∧ i ≤ i' ∧ Mod no w' w'', fun x _ => ((j : Int) + 1 - x).toNat, ⟨i, rfl, hys, hpt, Nat.le_refl _, Mod.refl _ _⟩, ?_⟩
  rintro _ _ w1 ⟨i', rfl, hy1, hp1, hi1, m1⟩ w2 e2
  have m2 : Mod no w1 w2 := by subst e2; exact Mod.drew _
  clear e2
  have hjb := hp1.jb
  have hai := hp1.ai
  refine ifK_dec (fun hle => ?_) (fun hgt => hQ i' w2 (hy1.no m2) hp1 (fun h => by omega) hi1 (m1.trans m2))
  refine lss (hy1.no m2) i' a rfl rfl (by omega) (by omega) (fun hlt => ?_) (fun hge => hQ i' w2 (hy1.no m2) hp1 (fun _ => Lin.nlt hge) hi1 (m1.trans m2))
  exact ⟨⟨i' + 1, (by first | (simp only [IntKind.wrap_i64]; omega) | omega), hy1.no m2, hp1.up (by omega) (Lin.lle hlt), by omega, m1.trans m2⟩, (by first | (simp only [IntKind.wrap_i64]; omega) | omega)⟩
omit hd in
/-- As long as the right one is not less. -/
theorem part_down (a b : Nat) (hb : b ≤ l) : ∀ (ys : List Int) (w' : World) (i j : Nat) (I : Int) (Q : Int → World → Prop), I = i → Els (Value.int .i64) e w' d l c ys → Pt ys a b i j → (i ≤ j → at0 ys a ≤ at0 ys i) →
    (∀ (j' : Nat) w'', Els (Value.int .i64) e w'' d l c ys → Pt ys a b i j' → (i ≤ j' → at0 ys a ≤ at0 ys i ∧ at0 ys j' < at0 ys a) → j' ≤ j → Mod no w' w'' → Q j' w'') →
    (∃ (z : Int → World → Prop) (m : Int → World → Nat), z j w' ∧ ∀ (_ : Nat → Value) (x : Int) (w1 : World), z x w1 → atW w1.drew fun w2 => ifK (decide (I ≤ x))
      (∃ ad : Addr, d = some ad ∧ (0 : Int) ≤ x ∧ x < (↑l : Int) ∧ ∃ y : Int, w2.cell? (Addr.add ad (Int.toNat x * 1)) = some ((Value.int .i64) y) ∧
        ∃ ad : Addr, d = some ad ∧ (0 : Int) ≤ (a : Int) ∧ (a : Int) < (↑l : Int) ∧ ∃ y' : Int, w2.cell? (Addr.add ad (Int.toNat (a : Int) * 1)) = some ((Value.int .i64) y') ∧
        Ca Try.prog 60 (Array.mk [(Value.int .i64) y, (Value.int .i64) y']) w2 (fun v w' => ∃ b : Bool, v = Value.bool b ∧ ifK (!b) (z (IntKind.wrap .i64 (x - 1)) w' ∧ m (IntKind.wrap .i64 (x - 1)) w' < m x w1) (Q x w')))
      (Q x w2)) := by
  intro ys w' i j I Q hI hys hpt hi0 hQ
  refine ⟨fun x w'' => ∃ j' : Nat, x = j' ∧ Els (Value.int .i64) e w'' d l c ys ∧ Pt ys a b i j' ∧ j' ≤ j ∧ Mod no w' w'', fun x _ => (x + 1 - (i : Int)).toNat, ⟨j, rfl, hys, hpt, Nat.le_refl _, Mod.refl _ _⟩, ?_⟩
  rintro _ _ w1 ⟨j', rfl, hy1, hp1, hj1, m1⟩ w2 e2
  have m2 : Mod no w1 w2 := by subst e2; exact Mod.drew _
  clear e2
  have hjb := hp1.jb
  have hai := hp1.ai
  refine ifK_dec (fun hle => ?_) (fun hgt => hQ j' w2 (hy1.no m2) hp1 (fun h => by omega) hj1 (m1.trans m2))
  refine nls (hy1.no m2) j' a rfl rfl (by omega) (by omega) (fun hge => ?_) (fun hlt => hQ j' w2 (hy1.no m2) hp1 (fun _ => ⟨hi0 (by omega), hlt⟩) hj1 (m1.trans m2))
  exact ⟨⟨j' - 1, (by first | (simp only [IntKind.wrap_i64]; omega) | omega), hy1.no m2, hp1.down (by omega) (Lin.nlt hge), by omega, m1.trans m2⟩, (by first | (simp only [IntKind.wrap_i64]; omega) | omega)⟩
theorem partition_ok (a b p : Nat) (hap : a ≤ p) (hpb : p < b) (hb : b ≤ l) (R : Value → World → Prop)
    (h : ∀ w' ys (m : Nat) (q : Bool), Els (Value.int .i64) e w' d l c ys → Seg a b xs ys → Parted ys a m b → Mod (rowB d) w w' → R (.tuple #[.int .i64 m, .bool q]) w') :
    Ca Try.prog 62 #[.slice d l c, .int .i64 a, .int .i64 b, .int .i64 p] w R := by
  have hxl := hd.len.1
  refine ca62 d l c a b p w R ?_
  have ea : IntKind.i64.wrap ((a : Int) + 1) = ((a + 1 : Nat) : Int) := (by first | (simp only [IntKind.wrap_i64]; omega) | omega)
  have eb : IntKind.i64.wrap ((b : Int) - 1) = ((b - 1 : Nat) : Int) := (by first | (simp only [IntKind.wrap_i64]; omega) | omega)
  rw [W62, ea, eb]
  clear ea eb
  intro w0 e0
  have m0 : Mod no w w0 := by subst e0; exact Mod.drew _
  clear e0
  refine (hd.no m0).swp a p rfl rfl (by omega) (by omega) fun w1 h1 m1 => ?_
  have m1 := m0.no_trans m1
  have s1 : Seg a b xs (swapL xs a p) := Seg.swap (by omega) (by omega) (by omega) (by omega) hap hpb
  have fin : ∀ (ys : List Int) (w' : World) (i j : Nat) (q : Bool), Els (Value.int .i64) e w' d l c ys → Seg a b xs ys → Pt ys a b i j → j < i → Mod (rowB d) w w' →
      ∀ w'', Els (Value.int .i64) e w'' d l c (swapL ys j a) → Mod (rowB d) w' w'' → R (.tuple #[.int .i64 j, .bool q]) w'' := by
    intro ys w' i j q hys hsg hpt hji hm w'' hy'' m''
    have hyl := hys.len.1
    have h1 := hpt.ai
    have h2 := hpt.ij
    have h3 := hpt.jb
    exact h w'' _ j q hy'' (hsg.trans (Seg.swap (by omega) (by omega) (by omega) (by omega) (by omega) (by omega))) (hpt.done (by omega) hji) (hm.trans m'')
  refine ⟨_, part_up e d l c hl a b hb _ w1 (a + 1) (b - 1) _ (fun x w' => ∃ i : Nat, x = i ∧ Els (Value.int .i64) e w' d l c (swapL xs a p) ∧ Pt (swapL xs a p) a b i (b - 1) ∧ (i ≤ b - 1 → at0 (swapL xs a p) a ≤ at0 (swapL xs a p) i) ∧ Mod (rowB d) w w') rfl h1
    ⟨Nat.le_refl _, by omega, by omega, fun k h1 h2 => by omega, fun k h1 h2 => by omega⟩ (fun i w' h1 h2 h3 _ h4 => ⟨i, rfl, h1, h2, h3, m1.trans_no h4⟩), ?_⟩
  rintro _ _ w2 ⟨i, rfl, h2, hpt, hi, m2⟩
  refine ⟨_, part_down e d l c hl a b hb _ w2 i (b - 1) _ (fun x w' => ∃ j : Nat, x = j ∧ Els (Value.int .i64) e w' d l c (swapL xs a p) ∧ Pt (swapL xs a p) a b i j ∧ (i ≤ j → at0 (swapL xs a p) a ≤ at0 (swapL xs a p) i ∧ at0 (swapL xs a p) j < at0 (swapL xs a p) a) ∧ Mod (rowB d) w w') rfl h2 hpt hi
    (fun j w' h1 h2 h3 _ h4 => ⟨j, rfl, h1, h2, h3, m2.trans_no h4⟩), ?_⟩
  rintro _ _ w3 ⟨j, rfl, h3, hpt, hij, m3⟩
  have hjb := hpt.jb
  have hai := hpt.ai
  have hil := hpt.ij
  have step : ∀ (ys : List Int) (w' : World) (i j : Nat), Els (Value.int .i64) e w' d l c ys → Seg a b xs ys → Pt ys a b i j → (i ≤ j → at0 ys a ≤ at0 ys i ∧ at0 ys j < at0 ys a) → i ≤ j → i < j := by
    intro ys w' i j _ _ hpt hij hle
    refine Nat.lt_of_le_of_ne hle fun e => ?_
    subst e
    have := hij hle
    exact absurd this.2 (by simpa using this.1)
  refine ifK_dec (fun hgt => ?_) (fun hle => ?_)
  · intro w4 e4
    have m4 : Mod no w3 w4 := by subst e4; exact Mod.drew _
    clear e4
    refine (h3.no m4).swp j a rfl rfl (by omega) (by omega) fun w5 h5 m5 => ?_
    exact fin _ w4 i j true (h3.no m4) s1 hpt (by omega) (m3.trans_no m4) w5 h5 m5
  · intro w4 e4
    have m4 : Mod no w3 w4 := by subst e4; exact Mod.drew _
    clear e4
    have hlt := step _ w3 i j h3 s1 hpt hij (by omega)
    obtain ⟨hx, hy⟩ := hij (by omega)
    refine (h3.no m4).swp i j rfl rfl (by omega) (by omega) fun w5 h5 m5 => ?_
    have hl3 := h3.len.1
    refine ⟨fun x y w' => ∃ (i j : Nat) (ys : List Int), x = i ∧ y = j ∧ Els (Value.int .i64) e w' d l c ys ∧ Seg a b xs ys ∧ Pt ys a b i j ∧ Mod (rowB d) w w', fun x y _ => (y + 1 - x).toNat,
      ⟨i + 1, j - 1, _, (by first | (simp only [IntKind.wrap_i64]; omega) | omega), (by first | (simp only [IntKind.wrap_i64]; omega) | omega), h5, s1.trans (Seg.swap (by omega) (by omega) (by omega) (by omega) (by omega) (by omega)), hpt.swap (by omega) hlt (Lin.lle hy) hx, (m3.trans_no m4).trans m5⟩, ?_⟩
    rintro _ _ _ w6 ⟨i6, j6, ys, rfl, rfl, h6, s6, hpt6, m6⟩
    refine ⟨_, part_up e d l c hl a b hb _ w6 i6 j6 _ (fun x w' => ∃ i : Nat, x = i ∧ Els (Value.int .i64) e w' d l c ys ∧ Pt ys a b i j6 ∧ (i ≤ j6 → at0 ys a ≤ at0 ys i) ∧ i6 ≤ i ∧ Mod (rowB d) w w') rfl h6 hpt6
      (fun i w' h1 h2 h3 h5 h4 => ⟨i, rfl, h1, h2, h3, h5, m6.trans_no h4⟩), ?_⟩
    rintro _ _ w7 ⟨i7, rfl, h7, hpt7, hi7, hii, m7⟩
    refine ⟨_, part_down e d l c hl a b hb _ w7 i7 j6 _ (fun x w' => ∃ j : Nat, x = j ∧ Els (Value.int .i64) e w' d l c ys ∧ Pt ys a b i7 j ∧ (i7 ≤ j → at0 ys a ≤ at0 ys i7 ∧ at0 ys j < at0 ys a) ∧ j ≤ j6 ∧ Mod (rowB d) w w') rfl h7 hpt7 hi7
      (fun j w' h1 h2 h3 h5 h4 => ⟨j, rfl, h1, h2, h3, h5, m7.trans_no h4⟩), ?_⟩
    rintro _ _ w8 ⟨j8, rfl, h8, hpt8, hij8, hjj, m8⟩
    have hjb8 := hpt8.jb
    have hai8 := hpt8.ai
    have hil8 := hpt8.ij
    have hl8 := h8.len.1
    refine ifK_dec (fun hgt => ?_) (fun hle => ?_)
    · intro w9 e9
      have m9 : Mod no w8 w9 := by subst e9; exact Mod.drew _
      clear e9
      refine (h8.no m9).swp j8 a rfl rfl (by omega) (by omega) fun w10 h10 m10 => ?_
      exact fin _ w9 i7 j8 false (h8.no m9) s6 hpt8 (by omega) (m8.trans_no m9) w10 h10 m10
    · intro w9 e9
      have m9 : Mod no w8 w9 := by subst e9; exact Mod.drew _
      clear e9
      have hlt8 := step _ w8 i7 j8 h8 s6 hpt8 hij8 (by omega)
      obtain ⟨hx8, hy8⟩ := hij8 (by omega)
      refine (h8.no m9).swp i7 j8 rfl rfl (by omega) (by omega) fun w10 h10 m10 => ?_
      exact ⟨⟨i7 + 1, j8 - 1, _, (by first | (simp only [IntKind.wrap_i64]; omega) | omega), (by first | (simp only [IntKind.wrap_i64]; omega) | omega), h10, s6.trans (Seg.swap (by omega) (by omega) (by omega) (by omega) (by omega) (by omega)), hpt8.swap (by omega) hlt8 (Lin.lle hy8) hx8, (m8.trans_no m9).trans m10⟩, (by first | (simp only [IntKind.wrap_i64]; omega) | omega)⟩
end
end Go.Proofs.Ytmnbnjkbbhjocaa.Sortint

/- The library's general sort, at one type: parting off what is equal, heap sort, scattering, sorting what is nearly sorted. -/
namespace Go.Proofs.Ytmnbnjkbbhjocaa.Sortint
open Go Go.Proofs.Ytmnbnjkbbhjocaa Go.Proofs.Ytmnbnjkbbhjocaa.St

section
variable (e : TypeId) (d : Option Addr) (l c : Nat) (xs : List Int) (w : World) (hd : Els (Value.int .i64) e w d l c xs) (hl : l < 4611686018427387904)
include hd hl

theorem partEq_ok (a b p : Nat) (hap : a ≤ p) (hpb : p < b) (hb : b ≤ l) (hmin : ∀ k, a ≤ k → k < b → at0 xs p ≤ at0 xs k) (R : Value → World → Prop)
    (h : ∀ w' ys (m : Nat), Els (Value.int .i64) e w' d l c ys → Seg a b xs ys → Eqd ys a m b → Mod (rowB d) w w' → R (.int .i64 m) w') :
    Ca Try.prog 61 #[.slice d l c, .int .i64 a, .int .i64 b, .int .i64 p] w R := by
  refine ca61 d l c a b p w R ?_
  have ea : IntKind.i64.wrap ((a : Int) + 1) = ((a + 1 : Nat) : Int) := (by first | (simp only [IntKind.wrap_i64]; omega) | omega)
  have eb : IntKind.i64.wrap ((b : Int) - 1) = ((b - 1 : Nat) : Int) := (by first | (simp only [IntKind.wrap_i64]; omega) | omega)
  rw [W61, ea, eb]
  clear ea eb
  intro w0 e0
  have m0 : Mod no w w0 := by subst e0; exact Mod.drew _
  clear e0
  refine (hd.no m0).swp a p rfl rfl (by omega) (by omega) fun w1 h1 m1 => ?_
  have m1 := m0.no_trans m1
  have s1 : Seg a b xs (swapL xs a p) := hd.seg (by omega) (by omega) (by omega) (by omega) hap hpb
  have p1 : AtE (swapL xs a p) a (at0 xs p) := by
    refine ⟨?_⟩
    rw [at0_swapL (hd.lt (by omega)) (hd.lt (by omega))]
    by_cases e : a = p
    · rw [if_pos e, e]
    · rw [if_neg e, if_pos rfl]
  refine ⟨fun x y w' => ∃ (i j : Nat) (ys : List Int), x = i ∧ y = j ∧ Els (Value.int .i64) e w' d l c ys ∧ Seg a b xs ys ∧ Pt ys a b i j ∧ AtE ys a (at0 xs p) ∧ Mod (rowB d) w w', fun x y _ => (y + 1 - x).toNat,
    ⟨a + 1, b - 1, _, rfl, rfl, h1, s1, ⟨Nat.le_refl _, by omega, by omega, fun k h1 h2 => by omega, fun k h1 h2 => by omega⟩, p1, m1⟩, ?_⟩
  rintro _ _ _ w2 ⟨i, j, ys, rfl, rfl, h2, s2, hpt, hp2, m2⟩
  refine ⟨fun x w' => ∃ i' : Nat, x = i' ∧ Els (Value.int .i64) e w' d l c ys ∧ Pt ys a b i' j ∧ i ≤ i' ∧ (i' ≤ j → at0 ys a < at0 ys i') ∧ Mod (rowB d) w w', ⟨fun x w' => ∃ i' : Nat, x = i' ∧ Els (Value.int .i64) e w' d l c ys ∧ Pt ys a b i' j ∧ i ≤ i' ∧ Mod (rowB d) w w',
    fun x _ => ((j : Int) + 1 - x).toNat, ⟨i, rfl, h2, hpt, Nat.le_refl _, m2⟩, ?_⟩, ?_⟩
  · rintro _ _ w3 ⟨i', rfl, h3, hp3, hi3, m3⟩ w4 e4
    have m4 : Mod no w3 w4 := by subst e4; exact Mod.drew _
    clear e4
    have hjb := hp3.jb
    have hai := hp3.ai
    have m4' := m3.trans_no m4
    refine ifK_dec (fun hle => ?_) (fun hgt => ⟨i', rfl, h3.no m4, hp3, hi3, fun h => by omega, m4'⟩)
    refine nls (h3.no m4) a i' rfl rfl (by omega) (by omega) (fun hge => ?_) (fun hlt => ⟨i', rfl, h3.no m4, hp3, hi3, fun _ => hlt, m4'⟩)
    exact ⟨⟨i' + 1, (by first | (simp only [IntKind.wrap_i64]; omega) | omega), h3.no m4, hp3.up (by omega) (Lin.nlt hge), by omega, m4'⟩, (by first | (simp only [IntKind.wrap_i64]; omega) | omega)⟩
  rintro _ _ w5 ⟨i5, rfl, h5, hp5, hi5, hx5, m5⟩
  refine ⟨fun x w' => ∃ j' : Nat, x = j' ∧ Els (Value.int .i64) e w' d l c ys ∧ Pt ys a b i5 j' ∧ j' ≤ j ∧ (i5 ≤ j' → at0 ys j' ≤ at0 ys a) ∧ Mod (rowB d) w w', ⟨fun x w' => ∃ j' : Nat, x = j' ∧ Els (Value.int .i64) e w' d l c ys ∧ Pt ys a b i5 j' ∧ j' ≤ j ∧ Mod (rowB d) w w',
    fun x _ => (x + 1 - (i5 : Int)).toNat, ⟨j, rfl, h5, hp5, Nat.le_refl _, m5⟩, ?_⟩, ?_⟩
  · rintro _ _ w3 ⟨j', rfl, h3, hp3, hi3, m3⟩ w4 e4
    have m4 : Mod no w3 w4 := by subst e4; exact Mod.drew _
    clear e4
    have hjb := hp3.jb
    have hai := hp3.ai
    have m4' := m3.trans_no m4
    refine ifK_dec (fun hle => ?_) (fun hgt => ⟨j', rfl, h3.no m4, hp3, hi3, fun h => by omega, m4'⟩)
    refine lss (h3.no m4) a j' rfl rfl (by omega) (by omega) (fun hlt => ?_) (fun hge => ⟨j', rfl, h3.no m4, hp3, hi3, fun _ => Lin.nlt hge, m4'⟩)
    exact ⟨⟨j' - 1, (by first | (simp only [IntKind.wrap_i64]; omega) | omega), h3.no m4, hp3.down (by omega) (Lin.lle hlt), by omega, m4'⟩, (by first | (simp only [IntKind.wrap_i64]; omega) | omega)⟩
  rintro _ _ w6 ⟨j6, rfl, h6, hp6, hj6, hx6, m6⟩
  have hjb := hp6.jb
  have hai := hp6.ai
  have hil := hp6.ij
  refine ifK_dec (fun hgt => ?_) (fun hle => ?_)
  · refine h w6 ys i5 h6 s2 (hp6.eqd (by omega) fun k h7 h8 => ?_) m6
    rw [hp2.eq]
    exact s2.all (hd.le hb) (P := fun v => at0 xs p ≤ v) hmin k h7 h8
  · intro w7 e7
    have m7 : Mod no w6 w7 := by subst e7; exact Mod.drew _
    clear e7
    have hlt : i5 < j6 := by
      refine Nat.lt_of_le_of_ne (by omega) fun e => ?_
      subst e
      have h7 := hx5 (by omega)
      have h8 := hx6 (by omega)
      exact absurd h7 (by simpa using h8)
    refine (h6.no m7).swp i5 j6 rfl rfl (by omega) (by omega) fun w8 h8 m8 => ?_
    refine ⟨⟨i5 + 1, j6 - 1, _, (by first | (simp only [IntKind.wrap_i64]; omega) | omega), (by first | (simp only [IntKind.wrap_i64]; omega) | omega), h8, s2.trans (h6.seg (by omega) (by omega) (by omega) (by omega) (by omega) (by omega)), hp6.swap (h6.le hb) hlt (hx6 (by omega)) (Lin.lle (hx5 (by omega))), ?_, (m6.trans_no m7).trans m8⟩, (by first | (simp only [IntKind.wrap_i64]; omega) | omega)⟩
    exact ⟨by rw [at0_swapL (h6.lt (by omega)) (h6.lt (by omega)), if_neg (by omega), if_neg (by omega), hp2.eq]⟩

/-! ### Heap sort -/
theorem siftDown_ok (lo hi f : Nat) (hlo : lo ≤ hi) (hf : f + hi ≤ l) (hh : Hp xs f (lo + 1) hi) (R : Value → World → Prop)
    (h : ∀ w' ys, Els (Value.int .i64) e w' d l c ys → Seg (f + lo) (f + hi) xs ys → Hp ys f lo hi → Mod (rowB d) w w' → R (.tuple #[]) w') :
    Ca Try.prog 68 #[.slice d l c, .int .i64 lo, .int .i64 hi, .int .i64 f] w R := by
  refine ca68 d l c lo hi f w R ?_
  refine ⟨fun x w' => ∃ (r : Nat) (ys : List Int), x = r ∧ lo ≤ r ∧ (r < hi ∨ r = lo) ∧ Els (Value.int .i64) e w' d l c ys ∧ Seg (f + lo) (f + hi) xs ys ∧ Sift ys f lo hi r ∧ Mod (rowB d) w w', fun x _ => ((hi : Int) - x).toNat,
    ⟨lo, xs, rfl, Nat.le_refl _, .inr rfl, hd, Seg.refl _ _ _, Sift.start hh, Mod.refl _ _⟩, ?_⟩
  rintro _ _ w1 ⟨r, ys, rfl, hlr, hr, h1, s1, hs1, m1⟩
  refine ifK_of (fun hb => ?_) (fun hb => ?_)
  · have hb : hi ≤ 2 * r + 1 := by
      have := of_decide_eq_true hb
      clear hb
      simp only [IntKind.wrap_i64] at this
      omega
    exact h w1 ys h1 s1 (hs1.done fun k h2 h3 => by omega) m1
  have hb : 2 * r + 1 < hi := by
    have := of_decide_eq_false hb
    clear hb
    simp only [IntKind.wrap_i64] at this
    omega
  refine ⟨fun x w' => ∃ k : Nat, x = k ∧ (k = 2 * r + 1 ∨ k = 2 * r + 2) ∧ k < hi ∧ (∀ q, (q = 2 * r + 1 ∨ q = 2 * r + 2) → q < hi → at0 ys (f + q) ≤ at0 ys (f + k)) ∧ Els (Value.int .i64) e w' d l c ys ∧ Mod (rowB d) w w', ?_, ?_⟩
  · intro w2 e2
    have m2 : Mod no w1 w2 := by subst e2; exact Mod.drew _
    clear e2
    refine ifK_of (fun hc => ?_) (fun hc => ?_)
    · have hc : 2 * r + 2 < hi := by
        have := of_decide_eq_true hc
        clear hc
        simp only [IntKind.wrap_i64] at this
        omega
      refine lss (h1.no m2) (f + (2 * r + 1)) (f + (2 * r + 2)) (by first | (simp only [IntKind.wrap_i64]; omega) | omega) (by first | (simp only [IntKind.wrap_i64]; omega) | omega) (by omega) (by omega) (fun hlt => ?_) (fun hge => ?_)
      · refine ⟨2 * r + 2, (by first | (simp only [IntKind.wrap_i64]; omega) | omega), .inr rfl, hc, fun q hq hqh => ?_, h1.no m2, m1.trans_no m2⟩
        rcases hq with rfl | rfl
        · exact Lin.lle hlt
        · exact Lin.refl _
      · refine ⟨2 * r + 1, (by first | (simp only [IntKind.wrap_i64]; omega) | omega), .inl rfl, hb, fun q hq hqh => ?_, h1.no m2, m1.trans_no m2⟩
        rcases hq with rfl | rfl
        · exact Lin.refl _
        · exact Lin.nlt hge
    · have hc : hi ≤ 2 * r + 2 := by
        have := of_decide_eq_false hc
        clear hc
        simp only [IntKind.wrap_i64] at this
        omega
      refine ⟨2 * r + 1, (by first | (simp only [IntKind.wrap_i64]; omega) | omega), .inl rfl, hb, fun q hq hqh => ?_, h1.no m2, m1.trans_no m2⟩
      rcases hq with rfl | rfl
      · exact Lin.refl _
      · omega
  rintro _ _ w3 ⟨k, rfl, hk, hkh, hmax, h3, m3⟩ w4 e4
  have m4 : Mod no w3 w4 := by subst e4; exact Mod.drew _
  clear e4
  refine nls (h3.no m4) (f + r) (f + k) (by first | (simp only [IntKind.wrap_i64]; omega) | omega) (by first | (simp only [IntKind.wrap_i64]; omega) | omega) (by omega) (by omega) (fun hge => ?_) (fun hlt => ?_)
  · exact h w4 ys (h3.no m4) s1 (hs1.done fun q hq hqh => Lin.tr (hmax q hq hqh) (Lin.nlt hge)) (m3.trans_no m4)
  · intro w5 e5
    have m5 : Mod no w4 w5 := by subst e5; exact Mod.drew _
    clear e5
    refine ((h3.no m4).no m5).swp (f + r) (f + k) (by first | (simp only [IntKind.wrap_i64]; omega) | omega) (by first | (simp only [IntKind.wrap_i64]; omega) | omega) (by omega) (by omega) fun w6 h6 m6 => ?_
    refine ⟨⟨k, _, rfl, by omega, .inl hkh, h6, s1.trans (h1.seg (by omega) (by omega) (by omega) (by omega) (by omega) (by omega)), hs1.step hlr (h1.le hf) hk hkh hmax hlt, ((m3.trans_no m4).trans_no m5).trans m6⟩, by simp only; omega⟩

theorem heapSort_ok (a b : Nat) (hab : a < b) (hb : b ≤ l) (R : Value → World → Prop)
    (h : ∀ w' ys, Els (Value.int .i64) e w' d l c ys → Seg a b xs ys → Srt ys a b → Mod (rowB d) w w' → R (.tuple #[]) w') :
    Ca Try.prog 55 #[.slice d l c, .int .i64 a, .int .i64 b] w R := by
  refine ca55 d l c a b w R ?_
  obtain ⟨n, rfl⟩ : ∃ n, b = a + (n + 1) := ⟨b - a - 1, by omega⟩
  have e1 : IntKind.i64.wrap (((a + (n + 1) : Nat) : Int) - a) = ((n + 1 : Nat) : Int) := (by first | (simp only [IntKind.wrap_i64]; omega) | omega)
  have e2 : IntKind.i64.wrap (((n + 1 : Nat) : Int) - 1) = (n : Int) := (by first | (simp only [IntKind.wrap_i64]; omega) | omega)
  have e3 : Int.tdiv (n : Int) 2 = ((n / 2 : Nat) : Int) := by rw [show (2 : Int) = ((2 : Nat) : Int) from rfl, ← Int.ofNat_tdiv]
  have e4 : IntKind.i64.wrap ((n / 2 : Nat) : Int) = ((n / 2 : Nat) : Int) := (by first | (simp only [IntKind.wrap_i64]; omega) | omega)
  rw [W55, e1, e2, e3, e4]
  clear e1 e2 e3 e4
  refine ⟨by decide, ?_⟩
  refine ⟨fun x w' => ∃ (i : Nat) (ys : List Int), x = (i : Int) - 1 ∧ i ≤ n + 1 ∧ Els (Value.int .i64) e w' d l c ys ∧ Seg a (a + (n + 1)) xs ys ∧ Hp ys a i (n + 1) ∧ Mod (rowB d) w w', fun x _ => (x + 1).toNat,
    ⟨n / 2 + 1, xs, by omega, by omega, hd, Seg.refl _ _ _, fun p k h1 h2 h3 => by omega, Mod.refl _ _⟩, ?_⟩
  rintro _ _ w1 ⟨i, ys, rfl, hi, h1, s1, hp1, m1⟩
  refine ifK_dec (fun hge => ?_) (fun hlt => ?_)
  · obtain ⟨k, rfl⟩ : ∃ k, i = k + 1 := ⟨i - 1, by omega⟩
    rw [show ((k + 1 : Nat) : Int) - 1 = (k : Int) by omega]
    refine siftDown_ok e d l c ys w1 h1 hl k (n + 1) a (by omega) (by omega) hp1 _ fun w2 zs h2 s2 hp2 m2 => ⟨rfl, ⟨k, zs, (by first | (simp only [IntKind.wrap_i64]; omega) | omega), by omega, h2, s1.trans (s2.mono (by omega) (by omega)), hp2, m1.trans m2⟩, (by first | (simp only [IntKind.wrap_i64]; omega) | omega)⟩
  · have : i = 0 := by omega
    subst this
    refine ⟨fun x w' => ∃ (i : Nat) (ys : List Int), x = (i : Int) - 1 ∧ i ≤ n + 1 ∧ Els (Value.int .i64) e w' d l c ys ∧ Seg a (a + (n + 1)) xs ys ∧ Pop ys a i (n + 1) ∧ Mod (rowB d) w w', fun x _ => (x + 1).toNat,
      ⟨n + 1, ys, by omega, by omega, h1, s1, Pop.start hp1, m1⟩, ?_⟩
    rintro _ _ w2 ⟨i, ys, rfl, hi, h2, s2, hp2, m2⟩
    refine ifK_dec (fun hge => ?_) (fun hlt => ?_)
    · obtain ⟨k, rfl⟩ : ∃ k, i = k + 1 := ⟨i - 1, by omega⟩
      rw [show ((k + 1 : Nat) : Int) - 1 = (k : Int) by omega]
      intro w3 e3
      have m3 : Mod no w2 w3 := by subst e3; exact Mod.drew _
      clear e3
      refine (h2.no m3).swp a (a + k) rfl (by first | (simp only [IntKind.wrap_i64]; omega) | omega) (by omega) (by omega) fun w4 h4 m4 => ?_
      refine siftDown_ok e d l c _ w4 h4 hl 0 k a (by omega) (by omega) (hp2.swap (by omega) (h2.le (by omega))) _ fun w5 zs h5 s5 hp5 m5 => ⟨rfl, ⟨k, zs, (by first | (simp only [IntKind.wrap_i64]; omega) | omega), by omega, h5, ?_, hp2.step (by omega) (h2.le (by omega)) s5 hp5, ((m2.trans_no m3).trans m4).trans m5⟩, (by first | (simp only [IntKind.wrap_i64]; omega) | omega)⟩
      exact (s2.trans (h2.seg (by omega) (by omega) (by omega) (by omega) (by omega) (by omega))).trans (s5.mono (by omega) (by omega))
    · have : i = 0 := by omega
      subst this
      exact h w2 ys h2 s2 hp2.done m2
end

/-! ### Scattering -/
theorem wrapU (x : Int) : IntKind.wrap .u64 x = x % 18446744073709551616 := by simp [IntKind.wrap, IntKind.bits, IntKind.signed]
theorem nextPow_ok (n : Nat) (hn : 0 < n) (hl : n < 4611686018427387904) (w : World) (R : Value → World → Prop) (h : ∀ k : Nat, k ≤ 2 * n → 0 < k → R (.int .u64 k) w) : Ca Try.prog 69 #[.int .i64 n] w R := by
  refine ca69 n w R ?_
  have e1 : IntKind.wrap .u64 (n : Int) = n := by rw [wrapU]; omega
  rw [W69, e1]
  clear e1
  refine bitsLen_ok n w _ fun k hk => ⟨_, rfl, by omega, ?_⟩
  obtain ⟨h1, h2⟩ := hk (by omega) (by omega)
  have h3 : ((2 ^ k : Nat) : Int) ≤ 2 * n := by simpa using h2
  have h4 : 0 < 2 ^ k := Nat.pow_pos (by decide)
  have e2 : IntKind.wrap .u64 (1 * 2 ^ min (Int.toNat (k : Int)) 64) = ((2 ^ k : Nat) : Int) := by
    have e3 : min (Int.toNat (k : Int)) 64 = k := by omega
    have e4 : (1 : Int) * 2 ^ k = ((2 ^ k : Nat) : Int) := by simp
    rw [e3, e4, wrapU]
    omega
  rw [e2]
  exact h _ (by omega) h4
theorem xorNext_ok (s : Nat) (t : TypeId) (n : Int) (w : World) (hs : w.heap[s]? = some (.cells #[.int .u64 n] t (0, 0))) (R : Value → World → Prop)
    (h : ∀ w' (n' : Int), w'.heap[s]? = some (.cells #[.int .u64 n'] t (0, 0)) → Mod (on s) w w' → R (.int .u64 n') w') : Ca Try.prog 70 #[.pointer (some ⟨s, 0, none⟩)] w R := by
  refine ca70 (some ⟨s, 0, none⟩) w R ?_
  have step : ∀ (w : World) (n m : Int) (K : World → Prop), w.heap[s]? = some (.cells #[.int .u64 n] t (0, 0)) → (∀ w', w'.heap[s]? = some (.cells #[.int .u64 m] t (0, 0)) → Mod (on s) w w' → K w') →
      (∃ v : Value, w.cell? (Addr.add ⟨s, 0, none⟩ 0) = some v) ∧ w.frozen? (Addr.add ⟨s, 0, none⟩ 0) = false ∧ atW (w.setCell (Addr.add ⟨s, 0, none⟩ 0) (.int .u64 m)) K := by
    intro w n m K hs hK
    refine ⟨⟨_, by rw [cl1 hs]; rfl⟩, fz1 hs _, fun w' e => ?_⟩
    subst e
    exact hK _ (set1 hs 0 _) (Mod.set1 _ _ _ _)
  intro w0 e0
  have m0 : Mod no w w0 := by subst e0; exact Mod.drew _
  clear e0
  have hs0 := m0.at' hs
  refine ⟨n, by rw [cl hs0]; rfl, n, by rw [cl hs0]; rfl, by decide, step w0 n _ _ hs0 fun w1 hs1 m1 => ?_⟩
  intro w2 e2
  have m2 : Mod no w1 w2 := by subst e2; exact Mod.drew _
  clear e2
  have hs2 := m2.at' hs1
  refine ⟨_, by rw [cl hs2]; rfl, _, by rw [cl hs2]; rfl, by decide, step w2 _ _ _ hs2 fun w3 hs3 m3 => ?_⟩
  intro w4 e4
  have m4 : Mod no w3 w4 := by subst e4; exact Mod.drew _
  clear e4
  have hs4 := m4.at' hs3
  refine ⟨_, by rw [cl hs4]; rfl, _, by rw [cl hs4]; rfl, by decide, step w4 _ _ _ hs4 fun w5 hs5 m5 => ?_⟩
  exact ⟨_, by rw [cl hs5]; rfl, h w5 _ hs5 (((((m0.no_trans m1).trans_no m2).trans m3).trans_no m4).trans m5)⟩

theorem and_le (x y : Int) (k : Nat) (hy : y = k) (hk : k < 18446744073709551616) : ((BitVec.ofInt 64 x &&& BitVec.ofInt 64 y).toNat) ≤ k := by
  rw [BitVec.toNat_and]
  refine Nat.le_trans Nat.and_le_right ?_
  rw [hy, BitVec.toNat_ofInt]
  omega
theorem breakP_ok (e : TypeId) (d : Option Addr) (l c : Nat) (xs : List Int) (w : World) (hd : Els (Value.int .i64) e w d l c xs) (hl : l < 4611686018427387904) (a b : Nat) (hab : a + 8 ≤ b) (hb : b ≤ l) (R : Value → World → Prop)
    (h : ∀ w' ys, Els (Value.int .i64) e w' d l c ys → Seg a b xs ys → Mod (rowB d) w w' → R (.tuple #[]) w') :
    Ca Try.prog 56 #[.slice d l c, .int .i64 a, .int .i64 b] w R := by
  refine ca56 d l c a b w R ?_
  obtain ⟨elen, e4, ei, ej, ek⟩ := piv_eqs a b l (by omega) hb hl
  rw [W56]
  simp only [elen, e4, ej]
  clear elen e4 ei ej ek
  have hq : a + (b - a) / 4 * 2 + 1 < b ∧ a + 1 ≤ a + (b - a) / 4 * 2 := by omega
  generalize a + (b - a) / 4 * 2 = mid at hq
  have em : IntKind.i64.wrap ((mid : Int) - 1) = ((mid - 1 : Nat) : Int) := (by first | (simp only [IntKind.wrap_i64]; omega) | omega)
  have ep : IntKind.i64.wrap ((mid : Int) + 1) = ((mid + 1 : Nat) : Int) := (by first | (simp only [IntKind.wrap_i64]; omega) | omega)
  rw [em, ep]
  clear em ep
  refine ifK_of (fun _ => ?_) (fun hn => absurd (of_decide_eq_false hn) (by omega))
  intro w0 e0
  have m0 : Mod no w w0 := by subst e0; exact Mod.alloc _ _
  have hs0 : ∃ t, w0.heap[w.heap.size]? = some (.cells #[.int .u64 0] t (0, 0)) := by subst e0; exact ⟨_, new_at _ _⟩
  clear e0
  obtain ⟨t, hs0⟩ := hs0
  have hne : ¬ rowB d w.heap.size := by
    intro hk
    obtain ⟨g, rfl, hc⟩ := hd.get (i := 0) (by have := hd.len; omega)
    have : g = w.heap.size := by simpa [rowB] using hk
    subst this
    rw [World.cell?, Array.getElem?_eq_none (by simp [Addr.add])] at hc
    cases hc
  refine ⟨⟨_, by rw [cl1 hs0]; rfl⟩, fz1 hs0 _, ?_⟩
  intro w2 e2
  have m2 : Mod (on w.heap.size) w0 w2 := by subst e2; exact Mod.set1 _ _ _ _
  have hs2 : ∃ n : Int, w2.heap[w.heap.size]? = some (.cells #[.int .u64 n] t (0, 0)) := by subst e2; exact ⟨_, set1 hs0 0 _⟩
  clear e2
  have m02 : Mod no w w2 := m0.new m2 fun k hk => by cases hk; exact Nat.le_refl _
  refine nextPow_ok (b - a) (by omega) (by omega) w2 _ fun k hk hk0 => ⟨_, rfl, by decide, ?_⟩
  refine ⟨fun x w' => ∃ (i : Nat) (n : Int) (ys : List Int), x = i ∧ mid - 1 ≤ i ∧ i ≤ mid + 2 ∧ w'.heap[w.heap.size]? = some (.cells #[.int .u64 n] t (0, 0)) ∧ Els (Value.int .i64) e w' d l c ys ∧ Seg a b xs ys ∧ Mod (fun k => rowB d k ∨ k = w.heap.size) w w', fun x _ => ((mid : Int) + 2 - x).toNat, ?_, ?_⟩
  · obtain ⟨n, hs2⟩ := hs2
    exact ⟨mid - 1, n, xs, rfl, Nat.le_refl _, by omega, hs2, hd.no m02, Seg.refl _ _ _, m02.of_no⟩
  rintro _ _ w3 ⟨i, n, ys, rfl, hi1, hi2, hs3, h3, s3, m3⟩
  have m3' : Mod (rowB d) w w3 := m3.mono fun k hk h => by
    rcases h with h | h
    · exact h
    · omega
  refine ⟨by decide, ifK_dec (fun hle => ?_) (fun hgt => h w3 ys h3 s3 m3')⟩
  refine xorNext_ok _ t n w3 hs3 _ fun w4 n4 hs4 m4 => ⟨_, rfl, ?_⟩
  have h4 : Els (Value.int .i64) e w4 d l c ys := h3.mod m4 fun k hk he => hne (by cases he; exact hk)
  have hand : IntKind.wrap .u64 ((k : Int) - 1) = ((k - 1 : Nat) : Int) := by rw [wrapU]; omega
  rw [hand]
  have hale := and_le n4 ((k - 1 : Nat) : Int) (k - 1) rfl (by omega)
  generalize ((BitVec.ofInt 64 n4 &&& BitVec.ofInt 64 ((k - 1 : Nat) : Int)).toNat) = o at hale
  have e5 : IntKind.wrap .i64 (IntKind.wrap .u64 (o : Int)) = o := by rw [wrapU, IntKind.wrap_i64]; omega
  rw [e5]
  clear e5
  refine ⟨fun x w' => ∃ q : Nat, x = q ∧ q < b - a ∧ w' = w4, ifK_dec (fun hge => ⟨o - (b - a), (by first | (simp only [IntKind.wrap_i64]; omega) | omega), by omega, rfl⟩) (fun hlt => ⟨o, rfl, by omega, rfl⟩), ?_⟩
  rintro _ _ _ ⟨q, rfl, hq1, rfl⟩ w5 e5
  rename_i w4
  have m5 : Mod no w4 w5 := by subst e5; exact Mod.drew _
  clear e5
  refine (h4.no m5).swp i (a + q) rfl (by first | (simp only [IntKind.wrap_i64]; omega) | omega) (by omega) (by omega) fun w6 h6 m6 => ?_
  have hs6 : w6.heap[w.heap.size]? = some (.cells #[.int .u64 n4] t (0, 0)) := m6.at (m5.at' hs4) hne
  clear hale hk hk0 hand
  have e8 : IntKind.i64.wrap ((i : Int) + 1) = ((i + 1 : Nat) : Int) := (by first | (simp only [IntKind.wrap_i64]; omega) | omega)
  rw [e8]
  clear e8
  exact ⟨⟨i + 1, n4, _, rfl, by omega, by omega, hs6, h6, s3.trans (h4.seg (by omega) (by omega) (by omega) (by omega) (by omega) (by omega)),
    ((m3.trans (m4.mono fun k _ h => .inr h)).trans_no m5).trans (m6.mono fun k _ h => .inl h)⟩, by simp only; omega⟩
end Go.Proofs.Ytmnbnjkbbhjocaa.Sortint

/- The formulas of functions, printed by a program of mine (gen.py) out of the translation. -/
namespace Go.Proofs.Ytmnbnjkbbhjocaa
open Go Go.Proofs.Ytmnbnjkbbhjocaa.St
set_option maxRecDepth 100000

/-- slices.pdqsortOrdered[int] -/
noncomputable def C47 : Code := (Try.f47.body).getD .skip
def pl47 : Nat → Plan
  | 17 => (.quiet 0 (.quiet 1 (.quiet 2 (.quiet 3 (.quiet 4 (.quiet 5 (.quiet 6 (.quiet 7 (.quiet 8 (.quiet 9 (.quiet 10 (.quiet 11 (.eff 12 [] (.quiet 13 (.quiet 14 .done)))))))))))))))
  | _ => .done
def ls47 : Nat → List (Nat × LT)
  | 2 => [(1, (.one (.int .i64))), (2, (.one (.int .i64))), (3, (.one (.int .i64))), (8, (.one .bool)), (9, (.one .bool))]
  | 10 => [(0, .agg []), (3, (.one (.int .i64)))]
  | 14 => [(0, .agg []), (11, (.one (.int .i64))), (12, (.one (.int .i64)))]
  | 18 => [(0, .agg [])]
  | 21 => [(0, .agg []), (1, (.one (.int .i64)))]
  | _ => []
def W47 (dataa : Option Addr) (datal : Nat) (datac : Nat) (a_ : Int) (b : Int) (limit : Int) (w : World) (R : Value → World → Prop) : Prop :=
  (∃ z0 : Int → Int → Int → Bool → Bool → World → Prop, (∃ z1 : Int → Int → Int → Bool → Bool → World → Nat, ((z0 (a_) (b) (limit) (true) (true) (w)) ∧ (∀ (_ : Nat → Value), (∀ (x3 : Int), (∀ (x4 : Int), (∀ (x5 : Int), (∀ (b6 : Bool), (∀ (b7 : Bool), (∀ (w8 : World), ((z0 (x3) (x4) (x5) (b6) (b7) (w8)) → (ifK (decide (IntKind.wrap IntKind.i64 (x4 - x3) ≤ 12))
    (Ca Try.prog (54) (Array.mk [Value.slice dataa datal datac, Value.int IntKind.i64 x3, Value.int IntKind.i64 x4]) (w8) (fun v9 => (fun w10 =>
      ((v9 = Value.tuple (Array.mk (List.reverse []))) ∧ (R (Value.tuple (Array.mk (List.reverse []))) (w10))))))
    (ifK (x5 == 0)
      (Ca Try.prog (55) (Array.mk [Value.slice dataa datal datac, Value.int IntKind.i64 x3, Value.int IntKind.i64 x4]) (w8) (fun v11 => (fun w12 =>
        ((v11 = Value.tuple (Array.mk (List.reverse []))) ∧ (R (Value.tuple (Array.mk (List.reverse []))) (w12))))))
      (∃ z13 : Int → World → Prop, ((ifK (!b6)
        (Ca Try.prog (56) (Array.mk [Value.slice dataa datal datac, Value.int IntKind.i64 x3, Value.int IntKind.i64 x4]) (w8) (fun v14 => (fun w15 =>
          ((v14 = Value.tuple (Array.mk (List.reverse []))) ∧ (z13 (IntKind.wrap IntKind.i64 (x5 - 1)) (w15))))))
        (z13 (x5) (w8))) ∧ (∀ (_ : Nat → Value), (∀ (x17 : Int), (∀ (w18 : World), ((z13 (x17) (w18)) → (Ca Try.prog (57) (Array.mk [Value.slice dataa datal datac, Value.int IntKind.i64 x3, Value.int IntKind.i64 x4]) (w18) (fun v19 => (fun w20 =>
        (∃ x21 : Int, (∃ x22 : Int, ((v19 = Value.tuple (Array.mk (List.reverse [Value.int IntKind.i64 x22, Value.int IntKind.i64 x21]))) ∧ (∃ z23 : Int → Int → World → Prop, ((ifK (x22 == 2)
          (Ca Try.prog (58) (Array.mk [Value.slice dataa datal datac, Value.int IntKind.i64 x3, Value.int IntKind.i64 x4]) (w20) (fun v24 => (fun w25 =>
            ((v24 = Value.tuple (Array.mk (List.reverse []))) ∧ (z23 (IntKind.wrap IntKind.i64 (IntKind.wrap IntKind.i64 (x4 - 1) - IntKind.wrap IntKind.i64 (x21 - x3))) (1) (w25))))))
          (z23 (x21) (x22) (w20))) ∧ (∀ (_ : Nat → Value), (∀ (x27 : Int), (∀ (x28 : Int), (∀ (w29 : World), ((z23 (x27) (x28) (w29)) → (∃ z30 : World → Prop, ((ifK (b6)
          (ifK (b7)
            (ifK (x28 == 1)
              (Ca Try.prog (59) (Array.mk [Value.slice dataa datal datac, Value.int IntKind.i64 x3, Value.int IntKind.i64 x4]) (w29) (fun v31 => (fun w32 =>
                (∃ b33 : Bool, ((v31 = Value.bool b33) ∧ (ifK (b33)
                  (R (Value.tuple (Array.mk (List.reverse []))) (w32))
                  (z30 (w32))))))))
              (z30 (w29)))
            (z30 (w29)))
          (z30 (w29))) ∧ (∀ (_ : Nat → Value), (∀ (w35 : World), ((z30 (w35)) → (∃ z36 : Int → World → Prop, ((atW (World.drew w35) (fun w37 =>
          (ifK (decide (x3 > 0))
            (∃ a38 : Addr, ((dataa = some a38) ∧ (((0 : Int) ≤ IntKind.wrap IntKind.i64 (x3 - 1)) ∧ (((IntKind.wrap IntKind.i64 (x3 - 1) : Int) < (↑datal : Int)) ∧ (∃ x39 : Int, ((World.cell? w37 (Addr.add a38 (Int.toNat (IntKind.wrap IntKind.i64 (x3 - 1)) * 1)) = some (Value.int IntKind.i64 x39)) ∧ (∃ a40 : Addr, ((dataa = some a40) ∧ (((0 : Int) ≤ x27) ∧ (((x27 : Int) < (↑datal : Int)) ∧ (∃ x41 : Int, ((World.cell? w37 (Addr.add a40 (Int.toNat x27 * 1)) = some (Value.int IntKind.i64 x41)) ∧ (Ca Try.prog (60) (Array.mk [Value.int IntKind.i64 x39, Value.int IntKind.i64 x41]) (w37) (fun v42 => (fun w43 =>
              (∃ b44 : Bool, ((v42 = Value.bool b44) ∧ (ifK (!b44)
                (Ca Try.prog (61) (Array.mk [Value.slice dataa datal datac, Value.int IntKind.i64 x3, Value.int IntKind.i64 x4, Value.int IntKind.i64 x27]) (w43) (fun v45 => (fun w46 =>
                  (∃ x47 : Int, ((v45 = Value.int IntKind.i64 x47) ∧ ((z0 (x47) (x4) (x17) (b6) (b7) (w46)) ∧ (z1 x47 x4 x17 b6 b7 w46 < z1 x3 x4 x5 b6 b7 w8)))))))
                (z36 (x3) (w43))))))))))))))))))))
            (z36 (x3) (w37))))) ∧ (∀ (_ : Nat → Value), (∀ (x49 : Int), (∀ (w50 : World), ((z36 (x49) (w50)) → (Ca Try.prog (62) (Array.mk [Value.slice dataa datal datac, Value.int IntKind.i64 x49, Value.int IntKind.i64 x4, Value.int IntKind.i64 x27]) (w50) (fun v51 => (fun w52 =>
          (∃ x53 : Int, (∃ b54 : Bool, ((v51 = Value.tuple (Array.mk (List.reverse [Value.bool b54, Value.int IntKind.i64 x53]))) ∧ (((8 : Int) ≠ 0) ∧ (ifK (decide (IntKind.wrap IntKind.i64 (x53 - x49) < IntKind.wrap IntKind.i64 (x4 - x53)))
            (Ca Try.prog (47) (Array.mk [Value.slice dataa datal datac, Value.int IntKind.i64 x49, Value.int IntKind.i64 x53, Value.int IntKind.i64 x17]) (w52) (fun v55 => (fun w56 =>
              ((v55 = Value.tuple (Array.mk (List.reverse []))) ∧ ((z0 (IntKind.wrap IntKind.i64 (x53 + 1)) (x4) (x17) (decide (IntKind.wrap IntKind.i64 (x53 - x49) ≥ IntKind.wrap IntKind.i64 (Int.tdiv (IntKind.wrap IntKind.i64 (x4 - x3)) 8))) (b54) (w56)) ∧ (z1 (IntKind.wrap IntKind.i64 (x53 + 1)) x4 x17 (decide (IntKind.wrap IntKind.i64 (x53 - x49) ≥ IntKind.wrap IntKind.i64 (Int.tdiv (IntKind.wrap IntKind.i64 (x4 - x3)) 8))) b54 w56 < z1 x3 x4 x5 b6 b7 w8))))))
            (Ca Try.prog (47) (Array.mk [Value.slice dataa datal datac, Value.int IntKind.i64 (IntKind.wrap IntKind.i64 (x53 + 1)), Value.int IntKind.i64 x4, Value.int IntKind.i64 x17]) (w52) (fun v57 => (fun w58 =>
              ((v57 = Value.tuple (Array.mk (List.reverse []))) ∧ ((z0 (x49) (x53) (x17) (decide (IntKind.wrap IntKind.i64 (x4 - x53) ≥ IntKind.wrap IntKind.i64 (Int.tdiv (IntKind.wrap IntKind.i64 (x4 - x3)) 8))) (b54) (w58)) ∧ (z1 x49 x53 x17 (decide (IntKind.wrap IntKind.i64 (x4 - x53) ≥ IntKind.wrap IntKind.i64 (Int.tdiv (IntKind.wrap IntKind.i64 (x4 - x3)) 8))) b54 w58 < z1 x3 x4 x5 b6 b7 w8)))))))))))))))))))))))))))))))))))))))))))))))))))))))))
theorem ca47 (dataa : Option Addr) (datal : Nat) (datac : Nat) (a_ : Int) (b : Int) (limit : Int) (w : World) (R : Value → World → Prop) (h : W47 dataa datal datac a_ b limit w R) : Ca Try.prog 47 ⟨[(.slice dataa datal datac), (.int .i64 a_), (.int .i64 b), (.int .i64 limit)]⟩ w R := by
  have h1 : Try.prog.follows .mixedOrders = true := by kernel_rfl
  have h2 : Try.f47.body = some C47 := by kernel_rfl
  have h3 : (Try.f47.name == "runtime.NumGoroutine") = false := by kernel_rfl
  have h6 : Try.f47.results.toList = [] := by kernel_rfl
  have h4 : Nat.ble 4 134 = true := by kernel_rfl
  have h5 : okCode 134 pl47 ls47 C47 0 = true := by kernel_rfl
  have e : W47 dataa datal datac a_ b limit w R = wpC none Try.prog 134 pl47 ls47 C47 0 (endP Try.prog [] R) (fr0 [(.slice dataa datal datac), (.int .i64 a_), (.int .i64 b), (.int .i64 limit)]) [] w := by kernel_rfl
  exact ca_of' (P := Try.prog) (g := 47) (fn := Try.f47) (c := C47) (m := 134) (rs := []) (args := [(.slice dataa datal datac), (.int .i64 a_), (.int .i64 b), (.int .i64 limit)]) (pl := pl47) (ls := ls47) (w := w) (R := R) h1 Try.func47 h2 Try.ntmps47 h6 h3 h4 h5 (Eq.mp e h)

/-- slices.Sort[[]int,int] -/
noncomputable def C34 : Code := (Try.f34.body).getD .skip
def pl34 : Nat → Plan := fun _ => .done
def ls34 : Nat → List (Nat × LT) := fun _ => []
def W34 (xa : Option Addr) (xl : Nat) (xc : Nat) (w : World) (R : Value → World → Prop) : Prop :=
  (Ca Try.prog (48) (Array.mk [Value.int IntKind.u64 (IntKind.wrap IntKind.u64 (↑xl : Int))]) (w) (fun v0 => (fun w1 =>
    (∃ x2 : Int, ((v0 = Value.int IntKind.i64 x2) ∧ (Ca Try.prog (47) (Array.mk [Value.slice xa xl xc, Value.int IntKind.i64 0, Value.int IntKind.i64 (↑xl : Int), Value.int IntKind.i64 x2]) (w1) (fun v3 => (fun w4 =>
      ((v3 = Value.tuple (Array.mk (List.reverse []))) ∧ (R (Value.tuple (Array.mk (List.reverse []))) (w4)))))))))))
theorem ca34 (xa : Option Addr) (xl : Nat) (xc : Nat) (w : World) (R : Value → World → Prop) (h : W34 xa xl xc w R) : Ca Try.prog 34 ⟨[(.slice xa xl xc)]⟩ w R := by
  have h1 : Try.prog.follows .mixedOrders = true := by kernel_rfl
  have h2 : Try.f34.body = some C34 := by kernel_rfl
  have h3 : (Try.f34.name == "runtime.NumGoroutine") = false := by kernel_rfl
  have h6 : Try.f34.results.toList = [] := by kernel_rfl
  have h4 : Nat.ble 1 11 = true := by kernel_rfl
  have h5 : okCode 11 pl34 ls34 C34 0 = true := by kernel_rfl
  have e : W34 xa xl xc w R = wpC none Try.prog 11 pl34 ls34 C34 0 (endP Try.prog [] R) (fr0 [(.slice xa xl xc)]) [] w := by kernel_rfl
  exact ca_of' (P := Try.prog) (g := 34) (fn := Try.f34) (c := C34) (m := 11) (rs := []) (args := [(.slice xa xl xc)]) (pl := pl34) (ls := ls34) (w := w) (R := R) h1 Try.func34 h2 Try.ntmps34 h6 h3 h4 h5 (Eq.mp e h)
end Go.Proofs.Ytmnbnjkbbhjocaa

/- The library's general sort, at one type: sorting what is nearly sorted; the sort itself. -/
namespace Go.Proofs.Ytmnbnjkbbhjocaa.Sortint
open Go Go.Proofs.Ytmnbnjkbbhjocaa Go.Proofs.Ytmnbnjkbbhjocaa.St

theorem wS {i : Nat} (h : i < 4611686018427387904) : IntKind.i64.wrap ((i : Int) + 1) = ((i + 1 : Nat) : Int) := by rw [wrap64 (by omega) (by omega)]; rfl
theorem wP {i : Nat} (h : i < 4611686018427387904) (h0 : 0 < i) : IntKind.i64.wrap ((i : Int) - 1) = ((i - 1 : Nat) : Int) := by rw [wrap64 (by omega) (by omega)]; omega
theorem wD {i j : Nat} (h : i < 4611686018427387904) (h0 : j ≤ i) : IntKind.i64.wrap ((i : Int) - (j : Int)) = ((i - j : Nat) : Int) := by rw [wrap64 (by omega) (by omega)]; omega

section
variable (e : TypeId) (d : Option Addr) (l c : Nat) (xs : List Int) (w : World) (hd : Els (Value.int .i64) e w d l c xs) (hl : l < 4611686018427387904)
include hd hl

theorem partial_ok (a b : Nat) (hab : a < b) (hb : b ≤ l) (hbel : Bel xs a b) (R : Value → World → Prop)
    (h : ∀ w' ys (q : Bool), Els (Value.int .i64) e w' d l c ys → Seg a b xs ys → (q = true → Srt ys a b) → Mod (rowB d) w w' → R (.bool q) w') :
    Ca Try.prog 59 #[.slice d l c, .int .i64 a, .int .i64 b] w R := by
  refine ca59 d l c a b w R ?_
  rw [W59, wS (by omega)]
  refine ⟨fun x y w' => ∃ (i j : Nat) (ys : List Int), x = i ∧ y = j ∧ a < i ∧ i ≤ b ∧ j ≤ 5 ∧ Els (Value.int .i64) e w' d l c ys ∧ Seg a b xs ys ∧ Srt ys a i ∧ Mod (rowB d) w w', fun _ y _ => (5 - y).toNat,
    ⟨a + 1, 0, xs, rfl, rfl, by omega, by omega, by omega, hd, Seg.refl _ _ _, Srt.nil _ _ _ (Nat.le_refl _), Mod.refl _ _⟩, ?_⟩
  rintro _ _ _ w1 ⟨i0, j0, ys, rfl, rfl, hi1, hi2, hj5, h1, s1, srt1, m1⟩
  refine ifK_dec (fun hlt => ?_) (fun _ => h w1 ys false h1 s1 (fun h => by cases h) m1)
  have hj : (j0 : Int) < 5 := hlt
  clear hlt
  -- as long as it rises
  refine ⟨fun x w' => ∃ i : Nat, x = i ∧ a < i ∧ i ≤ b ∧ Els (Value.int .i64) e w' d l c ys ∧ Srt ys a i ∧ (i < b → at0 ys i < at0 ys (i - 1)) ∧ Mod (rowB d) w w', ⟨fun x w' => ∃ i : Nat, x = i ∧ a < i ∧ i ≤ b ∧ Els (Value.int .i64) e w' d l c ys ∧ Srt ys a i ∧ Mod (rowB d) w w',
    fun x _ => ((b : Int) - x).toNat, ⟨i0, rfl, hi1, hi2, h1, srt1, m1⟩, ?_⟩, ?_⟩
  · rintro _ _ w2 ⟨i, rfl, h3, h4, h2, srt2, m2⟩ w3 e3
    have m3 : Mod no w2 w3 := by subst e3; exact Mod.drew _
    clear e3
    refine ifK_dec (fun hib => ?_) (fun hib => ⟨i, rfl, h3, h4, h2.no m3, srt2, fun h => by omega, m2.trans_no m3⟩)
    have hib : i < b := by omega
    rw [wS (i := i) (by omega), wP (i := i) (by omega) (by omega)]
    refine nls (h2.no m3) i (i - 1) rfl rfl (by omega) (by omega) (fun hge => ⟨⟨i + 1, rfl, by omega, by omega, h2.no m3, (Ins.start srt2).done (.inr (Lin.nlt hge)), m2.trans_no m3⟩, by simp only; omega⟩)
      (fun hls => ⟨i, rfl, h3, h4, h2.no m3, srt2, fun _ => hls, m2.trans_no m3⟩)
  rintro _ _ w4 ⟨i, rfl, h3, h4, h2, srt2, hls, m2⟩
  refine ifK_eq (fun hib => ?_) (fun hib => ?_)
  · have hib : i = b := by omega
    subst hib
    exact h w4 ys true h2 s1 (fun _ => srt2) m2
  have hib : i < b := by omega
  have hls := hls hib
  rw [wD (i := b) (j := a) (by omega) (by omega), wD (i := i) (j := a) (by omega) (by omega), wD (i := b) (j := i) (by omega) (by omega), wS (i := i) (by omega), wS (i := j0) (by omega), wP (i := i) (by omega) (by omega)]
  refine ifK_of (fun _ => h w4 ys false h2 s1 (fun h => by cases h) m2) (fun _ => ?_)
  intro w5 e5
  have m5 : Mod no w4 w5 := by subst e5; exact Mod.drew _
  clear e5
  refine (h2.no m5).swp i (i - 1) rfl rfl (by omega) (by omega) fun w6 h6 m6 => ?_
  have s6 : Seg a b xs (swapL ys i (i - 1)) := s1.trans (h2.seg (by omega) (by omega) (by omega) (by omega) (by omega) (by omega))
  have m6 := (m2.trans_no m5).trans m6
  have srt6 : Srt (swapL ys i (i - 1)) a (i - 1) := by
    intro p q h7 h8 h9
    rw [at0_swapL (h2.lt (by omega)) (h2.lt (by omega)), at0_swapL (h2.lt (by omega)) (h2.lt (by omega)), if_neg (by omega), if_neg (by omega), if_neg (by omega), if_neg (by omega)]
    exact srt2 p q h7 h8 (by omega)
  -- the smaller one to the left
  refine ⟨fun w' => ∃ zs, Els (Value.int .i64) e w' d l c zs ∧ Seg a b xs zs ∧ Srt zs a i ∧ Mod (rowB d) w w', ?_, ?_⟩
  · refine ifK_dec (fun hge => ?_) (fun hlt => ⟨_, h6, s6, Srt.nil _ _ _ (by omega), m6⟩)
    refine ⟨fun x w' => ∃ (j : Nat) (zs : List Int), x = j ∧ a ≤ j ∧ j + 1 ≤ i ∧ Els (Value.int .i64) e w' d l c zs ∧ Seg a b xs zs ∧ Ins zs a (i - 1) j ∧ Mod (rowB d) w w', fun x _ => x.toNat,
      ⟨i - 1, _, rfl, by omega, by omega, h6, s6, Ins.start srt6, m6⟩, ?_⟩
    rintro _ _ w7 ⟨j, zs, rfl, hj1, hj2, h7, s7, ins7, m7⟩
    have fin : (j ≤ a ∨ at0 zs (j - 1) ≤ at0 zs j) → Srt zs a i := fun hh => by
      have := ins7.done hh
      rwa [Nat.sub_add_cancel (by omega)] at this
    refine ifK_dec (fun hj0 => ?_) (fun hj0 => ⟨zs, h7, s7, fin (.inl (by omega)), m7⟩)
    have hj0 : 0 < j := by omega
    intro w8 e8
    have m8 : Mod no w7 w8 := by subst e8; exact Mod.drew _
    clear e8
    rw [wP (i := j) (by omega) hj0]
    refine nls (h7.no m8) j (j - 1) rfl rfl (by omega) (by omega) (fun hge => ⟨zs, h7.no m8, s7, fin (.inr (Lin.nlt hge)), m7.trans_no m8⟩) (fun hlt => ?_)
    have haj : a < j := by
      refine Nat.lt_of_le_of_ne hj1 fun e => ?_
      subst e
      exact absurd hlt (by simpa using (hbel.seg s7 (hd.le hb)) hj0 a (Nat.le_refl _) hab)
    intro w9 e9
    have m9 : Mod no w8 w9 := by subst e9; exact Mod.drew _
    clear e9
    refine ((h7.no m8).no m9).swp j (j - 1) rfl rfl (by omega) (by omega) fun w10 h10 m10 => ?_
    exact ⟨⟨j - 1, _, rfl, by omega, by omega, h10, s7.trans (h7.seg (by omega) (by omega) (by omega) (by omega) (by omega) (by omega)), ins7.step (h7.lt (by omega)) haj (by omega) hlt, ((m7.trans_no m8).trans_no m9).trans m10⟩, by simp only; omega⟩
  -- the greater one to the right
  rintro _ w11 ⟨zs, h11, s11, srt11, m11⟩
  have next : ∀ (w' : World) (us : List Int), Els (Value.int .i64) e w' d l c us → Seg a b xs us → Srt us a i → Mod (rowB d) w w' →
      (∃ (i' j' : Nat) (ys : List Int), (i : Int) = i' ∧ ((j0 + 1 : Nat) : Int) = j' ∧ a < i' ∧ i' ≤ b ∧ j' ≤ 5 ∧ Els (Value.int .i64) e w' d l c ys ∧ Seg a b xs ys ∧ Srt ys a i' ∧ Mod (rowB d) w w') ∧ (5 - ((j0 + 1 : Nat) : Int)).toNat < (5 - (j0 : Int)).toNat := by
    intro w' us hu su srtu mu
    exact ⟨⟨i, j0 + 1, us, rfl, rfl, h3, h4, by omega, hu, su, srtu, mu⟩, by omega⟩
  refine ifK_of (fun hge => ?_) (fun _ => next w11 zs h11 s11 srt11 m11)
  refine ⟨fun x w' => ∃ (j : Nat) (us : List Int), x = j ∧ i < j ∧ j ≤ b ∧ Els (Value.int .i64) e w' d l c us ∧ Seg a b xs us ∧ Srt us a i ∧ Mod (rowB d) w w', fun x _ => ((b : Int) - x).toNat,
    ⟨i + 1, zs, rfl, by omega, by omega, h11, s11, srt11, m11⟩, ?_⟩
  rintro _ _ w12 ⟨j, us, rfl, hj1, hj2, h12, s12, srt12, m12⟩
  refine ifK_dec (fun hjb => ?_) (fun _ => next w12 us h12 s12 srt12 m12)
  have hjb : j < b := by omega
  intro w13 e13
  have m13 : Mod no w12 w13 := by subst e13; exact Mod.drew _
  clear e13
  rw [wP (i := j) (by omega) (by omega), wS (i := j) (by omega)]
  refine nls (h12.no m13) j (j - 1) rfl rfl (by omega) (by omega) (fun _ => next w13 us (h12.no m13) s12 srt12 (m12.trans_no m13)) (fun hlt => ?_)
  intro w14 e14
  have m14 : Mod no w13 w14 := by subst e14; exact Mod.drew _
  clear e14
  refine ((h12.no m13).no m14).swp j (j - 1) rfl rfl (by omega) (by omega) fun w15 h15 m15 => ?_
  have s15 : Seg i b us (swapL us j (j - 1)) := h12.seg (by omega) (by omega) (by omega) (by omega) (by omega) (by omega)
  exact ⟨⟨j + 1, _, rfl, by omega, by omega, h15, s12.trans (s15.mono (by omega) (Nat.le_refl _)), srt12.of_out s15 (.inl (Nat.le_refl _)), ((m12.trans_no m13).trans_no m14).trans m15⟩, by simp only; omega⟩
end

/-- The general sort. -/
theorem pdq_ok (e : TypeId) (d : Option Addr) (l c : Nat) (hl : l < 4611686018427387904) : ∀ (n a b : Nat) (lim : Int) (xs : List Int) (w : World), b - a ≤ n → Els (Value.int .i64) e w d l c xs → a ≤ b → b ≤ l → Bel xs a b → ∀ R : Value → World → Prop,
    (∀ w' ys, Els (Value.int .i64) e w' d l c ys → Seg a b xs ys → Srt ys a b → Mod (rowB d) w w' → R (.tuple #[]) w') →
    Ca Try.prog 47 #[.slice d l c, .int .i64 a, .int .i64 b, .int .i64 lim] w R := by
  intro n
  induction n using Nat.strongRecOn with
  | _ n ih =>
  intro a b lim xs w hn hd hab hb hbel R h
  refine ca47 d l c a b lim w R ?_
  refine ⟨fun x y _ _ _ w' => ∃ (a' b' : Nat) (ys : List Int), x = a' ∧ y = b' ∧ a ≤ a' ∧ a' ≤ b' ∧ b' ≤ b ∧ Els (Value.int .i64) e w' d l c ys ∧ Seg a b xs ys ∧ Alm ys a b a' b' ∧ Bel ys a' b' ∧ Mod (rowB d) w w', fun x y _ _ _ _ => (y - x).toNat,
    ⟨a, b, xs, rfl, rfl, Nat.le_refl _, hab, Nat.le_refl _, hd, Seg.refl _ _ _, Alm.start _ _ _, hbel, Mod.refl _ _⟩, ?_⟩
  rintro _ _ _ lim' b6 b7 w1 ⟨a', b', ys, rfl, rfl, ha, hab', hb', h1, s1, alm1, bel1, m1⟩
  have sorted : ∀ w' zs, Els (Value.int .i64) e w' d l c zs → Seg a' b' ys zs → Srt zs a' b' → Mod (rowB d) w1 w' → R (.tuple #[]) w' := fun w' zs hz sz srt mz =>
    h w' zs hz (s1.trans (sz.mono ha hb')) ((alm1.seg sz ha hb' (h1.le hb)).full srt) (m1.trans mz)
  rw [wD (i := b') (j := a') (by omega) hab']
  refine ifK_dec (fun _ => ?_) (fun hlen => ?_)
  · exact insertion_ok e d l c a' b' ys w1 h1 hab' (by omega) hl _ fun w2 zs h2 s2 srt2 m2 => ⟨rfl, sorted w2 zs h2 s2 srt2 m2⟩
  have hlen : a' + 12 < b' := by omega
  refine ifK_of (fun _ => ?_) (fun _ => ?_)
  · exact heapSort_ok e d l c ys w1 h1 hl a' b' (by omega) (by omega) _ fun w2 zs h2 s2 srt2 m2 => ⟨rfl, sorted w2 zs h2 s2 srt2 m2⟩
  -- a part of another order is as good
  refine ⟨fun _ w' => ∃ zs, Els (Value.int .i64) e w' d l c zs ∧ Seg a' b' ys zs ∧ Mod (rowB d) w1 w', ?_, ?_⟩
  · refine ifK_of (fun _ => ?_) (fun _ => ⟨ys, h1, Seg.refl _ _ _, Mod.refl _ _⟩)
    exact breakP_ok e d l c ys w1 h1 hl a' b' (by omega) (by omega) _ fun w2 zs h2 s2 m2 => ⟨rfl, zs, h2, s2, m2⟩
  rintro _ lim2 w2 ⟨zs, h2, s2, m2⟩
  refine choosePivot_ok e d l c zs w2 h2 hl a' b' (by omega) (by omega) _ fun w3 p hint hp1 hp2 m3 => ⟨_, _, rfl, ?_⟩
  refine ⟨fun x _ w' => ∃ (p : Nat) (us : List Int), x = p ∧ a' ≤ p ∧ p < b' ∧ Els (Value.int .i64) e w' d l c us ∧ Seg a' b' ys us ∧ Mod (rowB d) w1 w', ?_, ?_⟩
  · refine ifK_of (fun _ => ?_) (fun _ => ⟨p, zs, rfl, hp1, hp2, h2.no m3, s2, m2.trans_no m3⟩)
    refine reverse_ok e d l c zs w3 (h2.no m3) hl a' b' (by omega) (by omega) _ fun w4 us h4 s4 m4 => ⟨rfl, b' - 1 - (p - a'), us, ?_, by omega, by omega, h4, s2.trans s4, (m2.trans_no m3).trans m4⟩
    rw [wP (i := b') (by omega) (by omega), wD (i := p) (j := a') (by omega) hp1, wD (by omega) (by omega)]
  rintro _ _ hint2 w5 ⟨p, us, rfl, hp1, hp2, h5, s5, m5⟩
  refine ⟨fun w' => ∃ vs, Els (Value.int .i64) e w' d l c vs ∧ Seg a' b' ys vs ∧ Mod (rowB d) w1 w', ?_, ?_⟩
  · refine ifK_of (fun _ => ifK_of (fun _ => ifK_of (fun _ => ?_) (fun _ => ⟨us, h5, s5, m5⟩)) (fun _ => ⟨us, h5, s5, m5⟩)) (fun _ => ⟨us, h5, s5, m5⟩)
    refine partial_ok e d l c us w5 h5 hl a' b' (by omega) (by omega) (bel1.seg s5 (h1.le (by omega))) _ fun w6 vs q h6 s6 srt6 m6 => ⟨q, rfl, ?_⟩
    exact ifK_of (fun hq => sorted w6 vs h6 (s5.trans s6) (srt6 hq) (m5.trans m6)) (fun _ => ⟨vs, h6, s5.trans s6, m5.trans m6⟩)
  rintro _ w7 ⟨vs, h7, s7, m7⟩
  have s7' : Seg a b xs vs := s1.trans (s7.mono ha hb')
  have m7' := m1.trans m7
  have alm7 := alm1.seg s7 ha hb' (h1.le hb)
  have bel7 := bel1.seg s7 (h1.le (by omega))
  -- parted into less and more
  refine ⟨fun x w' => x = (a' : Int) ∧ Els (Value.int .i64) e w' d l c vs ∧ Mod (rowB d) w w', ?_, ?_⟩
  · intro w8 e8
    have m8 : Mod no w7 w8 := by subst e8; exact Mod.drew _
    clear e8
    refine ifK_dec (fun ha0 => ?_) (fun _ => ⟨rfl, h7.no m8, m7'.trans_no m8⟩)
    have ha0 : 0 < a' := by omega
    rw [wP (i := a') (by omega) ha0]
    refine nls (h7.no m8) (a' - 1) p rfl rfl (by omega) (by omega) (fun hge => ?_) (fun _ => ⟨rfl, h7.no m8, m7'.trans_no m8⟩)
    have hmin : ∀ k, a' ≤ k → k < b' → at0 vs p ≤ at0 vs k := fun k h8 h9 => Lin.tr (Lin.nlt hge) (bel7 ha0 k h8 h9)
    refine partEq_ok e d l c vs w8 (h7.no m8) hl a' b' p hp1 hp2 (by omega) hmin _ fun w9 ts m h9 s9 eq9 m9 => ⟨_, rfl, ?_⟩
    have hm1 := eq9.am
    have hm2 := eq9.mb
    exact ⟨⟨m, b', ts, rfl, rfl, by omega, hm2, hb', h9, s7'.trans (s9.mono ha hb'), (alm7.seg s9 ha hb' (h7.le hb)).eqd eq9, eq9.bel, (m7'.trans_no m8).trans m9⟩, by simp only; omega⟩
  rintro _ _ w10 ⟨rfl, h10, m10⟩
  refine partition_ok e d l c vs w10 h10 hl a' b' p hp1 hp2 (by omega) _ fun w11 ts m q h11 s11 pt11 m11 => ⟨_, _, rfl, by decide, ?_⟩
  have hm1 := pt11.am
  have hm2 := pt11.mb
  have s11' : Seg a b xs ts := s7'.trans (s11.mono ha hb')
  have alm11 := alm7.seg s11 ha hb' (h7.le hb)
  have bel11 := bel7.seg s11 (h7.le (by omega))
  have m11' := m10.trans m11
  rw [wS (i := m) (by omega)]
  refine ifK_of (fun _ => ?_) (fun _ => ?_)
  · refine ih (m - a') (by omega) a' m lim2 ts w11 (Nat.le_refl _) h11 hm1 (by omega) (bel11.mono (by omega)) _ fun w12 rs h12 s12 srt12 m12 => ⟨rfl, ?_⟩
    have pt12 := pt11.left (h11.le (by omega)) s12
    exact ⟨⟨m + 1, b', rs, rfl, rfl, by omega, by omega, hb', h12, s11'.trans (s12.mono (by omega) (by omega)), (alm11.seg (s12.mono (Nat.le_refl _) (by omega)) ha hb' (h11.le hb)).left pt12 srt12, pt12.bel, m11'.trans m12⟩, by simp only; omega⟩
  · refine ih (b' - (m + 1)) (by omega) (m + 1) b' lim2 ts w11 (Nat.le_refl _) h11 (by omega) (by omega) pt11.bel _ fun w12 rs h12 s12 srt12 m12 => ⟨rfl, ?_⟩
    have pt12 := pt11.right (h11.le (by omega)) s12
    exact ⟨⟨a', m, rs, rfl, rfl, ha, hm1, by omega, h12, s11'.trans (s12.mono (by omega) (by omega)), (alm11.seg (s12.mono (by omega) (Nat.le_refl _)) ha hb' (h11.le hb)).right pt12 srt12,
      (bel11.seg (s12.mono (by omega) (Nat.le_refl _)) (h11.le (by omega))).mono (by omega), m11'.trans m12⟩, by simp only; omega⟩

theorem sort_ok (e : TypeId) (d : Option Addr) (l c : Nat) (xs : List Int) (w : World) (hd : Els (Value.int .i64) e w d l c xs) (hl : l < 4611686018427387904) (R : Value → World → Prop)
    (h : ∀ w' ys, Els (Value.int .i64) e w' d l c ys → ys.Perm xs → Srt ys 0 l → Mod (rowB d) w w' → R (.tuple #[]) w') :
    Ca Try.prog 34 #[.slice d l c] w R := by
  refine ca34 d l c w R ?_
  refine bitsLen_ok _ w _ fun n _ => ⟨n, rfl, ?_⟩
  exact pdq_ok e d l c hl l 0 l n xs w (Nat.le_refl _) hd (Nat.zero_le _) (Nat.le_refl _) (fun h => absurd h (by omega)) _ fun w' ys h1 h2 h3 h4 => ⟨rfl, h w' ys h1 h2.perm h3 h4⟩
end Go.Proofs.Ytmnbnjkbbhjocaa.Sortint

/- Contracts of the program's consumer functions: Clients. -/
namespace Go.Proofs.Ytmnbnjkbbhjocaa
open Go Go.Proofs.Ytmnbnjkbbhjocaa.St

theorem row36 : rowOk Try.prog 36 3 = true := by kernel_rfl

theorem clients_ok (d : Nat) (F : Nat → Prop) (l : List One) (w : World) (hd : Dk w d F l) (hs : l.length < 1099511627776) (R : Value → World → Prop)
    (h : ∀ w' a n c ys, Ints .i64 3 w' a n c ys → ys.Perm (l.map (·.client)) → Srt ys 0 n → Mod no w w' → (∀ k, rowB a k → w.heap.size ≤ k) → R (.slice a n c) w') :
    Ca Try.prog 13 #[.pointer (some ⟨d, 0, none⟩)] w R := by
  obtain ⟨row, ws, hda, hl, hF⟩ := hd
  obtain ⟨sl, sc, hc, hr⟩ := hda.cell
  obtain ⟨hsl, _, hlc, hcm⟩ := row_len hr
  have hlen : ws.length = l.length := by rw [← hl, List.length_map]
  refine ca13 _ w R ?_
  refine made_of d w _ hc rfl ⟨true, rfl, ?_⟩
  refine ifK_of (fun hb => by cases hb) (fun _ => ?_)
  refine ⟨row, sl, sc, by rw [cl1 hc]; rfl, ?_⟩
  refine ⟨fun a n c x w' => ∃ k : Nat, x = k ∧ k ≤ ws.length ∧ n = k ∧ Ints .i64 3 w' a k c ((ws.take k).map (·.client)) ∧ Mod no w w' ∧ ∀ k, rowB a k → w.heap.size ≤ k, fun _ _ _ x _ => ((sl : Int) - x).toNat,
    ⟨0, rfl, Nat.zero_le _, rfl, World.ownsRow_nil _ _ _ _, Mod.refl _ _, fun k hk => by simp [rowB] at hk⟩, ?_⟩
  rintro _ a n c x w14 ⟨k, rfl, hk, rfl, hi, hm, hnew⟩
  refine ifK_of (fun hlt => ?_) (fun hge => ?_)
  · have hlt : n < ws.length := by have := of_decide_eq_true hlt; omega
    obtain ⟨g, rfl, hcell⟩ := row_at (row_mod hr hm fun _ _ => id) (i := n) (v := ws[n].ptr) (by simp [hlt])
    have hx := (hda.wish _ (List.getElem_mem hlt)).mod hm id id
    refine ⟨_, rfl, by omega, by omega, some ⟨ws[n].p, 0, none⟩, by simpa [Wish.ptr] using hcell, ?_⟩
    refine ⟨ws[n].client, by rw [cl1 hx.cell]; rfl, ?_⟩
    intro w19 e19
    have m19 : Mod no w14 w19 := by subst e19; exact Mod.alloc _ _
    have b19 : w19.heap[w14.heap.size]? = some (.cells #[.int .i64 ws[n].client] 3 (0, 0)) := by subst e19; exact new_at _ _
    have s19 : w19.heap.size = w14.heap.size + 1 := by subst e19; simp
    clear e19
    obtain ⟨a', c', w21, hrun, o21, m21, hn21⟩ := row_push (ty := 36) row36 (row_mod hi m19 fun _ _ => id) (b := ⟨w14.heap.size, 0, none⟩) (m := 1) (cc := 1) (news := [.int .i64 ws[n].client]) rfl (by decide)
      (by intro j v hj; cases j with
          | zero => simp at hj; subst hj; rw [cl1 b19]; rfl
          | succ j => simp at hj) (by simp [Value.oneCell']) (by omega)
    refine ⟨_, w21, hrun, _, _, _, rfl, ?_⟩
    have e2 : IntKind.i64.wrap ((n : Int) + 1) = ((n + 1 : Nat) : Int) := by rw [wrap64 (by omega) (by omega)]; omega
    rw [e2]
    have hsz := hm.size
    refine ⟨⟨n + 1, rfl, hlt, rfl, ?_, (hm.trans m19).new m21 hnew, fun k hk => ?_⟩, by simp only; omega⟩
    · rw [Ints, Els, List.take_succ_eq_append_getElem hlt, List.map_append, List.map_append]
      exact o21
    · rcases hn21 k hk with h | h
      · exact hnew k h
      · omega
  · have hge : n = ws.length := by have := of_decide_eq_false hge; omega
    subst hge
    rw [List.take_length] at hi
    have hcl : ws.map (·.client) = l.map (·.client) := by rw [← hl, List.map_map]; rfl
    refine Sortint.sort_ok 3 a ws.length c _ w14 hi (by omega) _ fun w26 ys hi' hp hsrt m26 => ⟨rfl, ?_⟩
    exact h w26 a ws.length c ys hi' (by rw [← hcl]; exact hp) hsrt (hm.new m26 hnew) hnew
end Go.Proofs.Ytmnbnjkbbhjocaa

/- Plain laws on lines: forgetting a queue, client by client. It names no program's function. -/
namespace Go.Proofs.Ytmnbnjkbbhjocaa
open Go Go.Proofs.Ytmnbnjkbbhjocaa.St

def qIs (q : ByteArray) (x : One) : Bool := x.queue.toList == q.toList
def fgt (l : List One) (q : ByteArray) (s : List Int) : List One := l.filter fun x => !(s.contains x.client && qIs q x)
def fout (l : List One) (q : ByteArray) (s : List Int) : List Int := s.filter fun n => l.any fun x => x.client == n && qIs q x

theorem fgt_nil (l : List One) (q : ByteArray) : fgt l q [] = l := by
  rw [fgt]
  exact List.filter_eq_self.2 fun x _ => rfl
theorem fgt_all (l : List One) (q : ByteArray) (s : List Int) (h : ∀ x ∈ l, x.client ∈ s) : fgt l q s = l.filter fun x => !(qIs q x) := by
  rw [fgt]
  apply List.filter_congr
  intro x hx
  have : s.contains x.client = true := List.contains_iff_mem.2 (h x hx)
  rw [this, Bool.true_and]
theorem fgt_more (l : List One) (q : ByteArray) (s : List Int) (n : Int) : fgt l q (s ++ [n]) = (fgt l q s).filter fun x => !(x.client == n && qIs q x) := by
  rw [fgt, fgt, List.filter_filter]
  apply List.filter_congr
  intro x _
  have : (s ++ [n]).contains x.client = (s.contains x.client || x.client == n) := by
    rw [Bool.eq_iff_iff]
    simp
  rw [this]
  cases s.contains x.client <;> cases x.client == n <;> cases qIs q x <;> rfl
theorem uniq {l : List One} (hU : (l.map (·.client)).Nodup) {x y : One} (hx : x ∈ l) (hy : y ∈ l) (h : x.client = y.client) : x = y := by
  induction l with
  | nil => simp at hx
  | cons z r ih =>
    rw [List.map_cons, List.nodup_cons] at hU
    rcases List.mem_cons.1 hx with rfl | hx'
    · rcases List.mem_cons.1 hy with rfl | hy'
      · rfl
      · exact absurd (List.mem_map.2 ⟨y, hy', h.symm⟩) hU.1
    · rcases List.mem_cons.1 hy with rfl | hy'
      · exact absurd (List.mem_map.2 ⟨x, hx', h⟩) hU.1
      · exact ih hU.2 hx' hy'
theorem filter_one {m : List One} (hU : (m.map (·.client)).Nodup) {i : Nat} (hi : i < m.length) (p : One → Bool) (h1 : p m[i] = false) (h2 : ∀ x ∈ m, x.client ≠ m[i].client → p x = true) : m.filter p = m.take i ++ m.drop (i + 1) := by
  have e : m = m.take i ++ (m[i] :: m.drop (i + 1)) := by rw [List.getElem_cons_drop, List.take_append_drop]
  have hk : ∀ x, x ∈ m.take i ∨ x ∈ m.drop (i + 1) → x ∈ m ∧ x.client ≠ m[i].client := by
    intro x hx
    refine ⟨by rcases hx with hx | hx; exact List.mem_of_mem_take hx; exact List.mem_of_mem_drop hx, fun hc => ?_⟩
    have hnd := hU
    rw [e, List.map_append, List.map_cons] at hnd
    rw [List.nodup_append] at hnd
    obtain ⟨_, hnd2, hnd3⟩ := hnd
    rcases hx with hx | hx
    · exact hnd3 x.client (List.mem_map.2 ⟨x, hx, rfl⟩) m[i].client (List.mem_cons_self ..) hc
    · exact (List.nodup_cons.1 hnd2).1 (List.mem_map.2 ⟨x, hx, hc⟩)
  conv => lhs; rw [e]
  rw [List.filter_append, List.filter_cons, if_neg (by rw [h1]; decide)]
  rw [List.filter_eq_self.2 fun x hx => h2 x (hk x (.inl hx)).1 (hk x (.inl hx)).2, List.filter_eq_self.2 fun x hx => h2 x (hk x (.inr hx)).1 (hk x (.inr hx)).2]

/-- One client more. -/
theorem fgt_step {l : List One} (hU : (l.map (·.client)).Nodup) (q : ByteArray) {s : List Int} {n : Int} (hn : n ∈ l.map (·.client)) (hs : n ∉ s) :
    ∃ i, ∃ hi : i < (fgt l q s).length, (fgt l q s).findIdx? (·.client == n) = some i ∧ (fgt l q s)[i] ∈ l ∧ (fgt l q s)[i].client = n ∧
      (qIs q (fgt l q s)[i] = true → fgt l q (s ++ [n]) = (fgt l q s).take i ++ (fgt l q s).drop (i + 1) ∧ fout l q (s ++ [n]) = fout l q s ++ [n]) ∧
      (qIs q (fgt l q s)[i] = false → fgt l q (s ++ [n]) = fgt l q s ∧ fout l q (s ++ [n]) = fout l q s) := by
  obtain ⟨x, hx, hxn⟩ := List.mem_map.1 hn
  have hxm : x ∈ fgt l q s := by
    rw [fgt, List.mem_filter]
    refine ⟨hx, ?_⟩
    have : s.contains x.client = false := by
      rw [hxn]
      cases hc : s.contains n with
      | false => rfl
      | true => exact absurd (List.contains_iff_mem.1 hc) hs
    rw [this]; rfl
  have hsub : ∀ y ∈ fgt l q s, y ∈ l := fun y hy => (List.mem_filter.1 hy).1
  have hUm : ((fgt l q s).map (·.client)).Nodup := (List.Sublist.map _ (List.filter_sublist)).nodup hU
  cases hf : (fgt l q s).findIdx? (·.client == n) with
  | none =>
    have := List.findIdx?_eq_none_iff.1 hf x hxm
    simp [hxn] at this
  | some i =>
    obtain ⟨hi, h1, _⟩ := List.findIdx?_eq_some_iff_getElem.1 hf
    have hc : (fgt l q s)[i].client = n := by simpa using h1
    have hmem := List.getElem_mem hi
    have hfo : fout l q (s ++ [n]) = fout l q s ++ (if qIs q (fgt l q s)[i] = true then [n] else []) := by
      rw [fout, fout, List.filter_append]
      congr 1
      have : (l.any fun x => x.client == n && qIs q x) = qIs q (fgt l q s)[i] := by
        rw [Bool.eq_iff_iff, List.any_eq_true]
        constructor
        · rintro ⟨y, hy, hyn⟩
          simp only [Bool.and_eq_true, beq_iff_eq] at hyn
          rw [← uniq hU hy (hsub _ hmem) (by rw [hyn.1, hc])]
          exact hyn.2
        · intro h
          exact ⟨_, hsub _ hmem, by simp [hc, h]⟩
      rw [List.filter_cons, this]
      cases qIs q (fgt l q s)[i] <;> rfl
    refine ⟨i, hi, rfl, hsub _ hmem, hc, fun hq => ⟨?_, by rw [hfo, if_pos hq]⟩, fun hq => ⟨?_, by rw [hfo, if_neg (by rw [hq]; decide), List.append_nil]⟩⟩
    · rw [fgt_more]
      refine filter_one hUm hi _ (by simp [hc, hq]) fun y hy hne => ?_
      have : (y.client == n) = false := by rw [← hc]; simpa using hne
      rw [this]; rfl
    · rw [fgt_more]
      refine List.filter_eq_self.2 fun y hy => ?_
      cases hyn : y.client == n with
      | false => rfl
      | true =>
        have : y = (fgt l q s)[i] := uniq hUm hy hmem (by rw [hc]; simpa using hyn)
        rw [this, hq]; rfl
end Go.Proofs.Ytmnbnjkbbhjocaa

/- Rows of elements of any number of cells. It names no program. -/
namespace Go.Proofs.Ytmnbnjkbbhjocaa.St
open Go

/-- How an element lies: s cells, one word each. -/
structure Lay (α : Type) where
  cs : α → List Value
  s : Nat
  pos : 0 < s
  len : ∀ x, (cs x).length = s
  one : ∀ x, ∀ v ∈ cs x, v.oneCell' = true

section
variable {α : Type} (L : Lay α)
/-- The row a[:l:c] holds these elements. -/
def Row (e : TypeId) (w : World) (a : Option Addr) (l c : Nat) (xs : List α) : Prop := w.ownsRow 0 e L.s (.slice a l c) l (xs.flatMap L.cs)
variable {L : Lay α} {e : TypeId} {w w' : World} {a : Option Addr} {l c : Nat} {xs : List α}

theorem Lay.length (L : Lay α) (xs : List α) : (xs.flatMap L.cs).length = xs.length * L.s := by
  induction xs with
  | nil => simp
  | cons x r ih => rw [List.flatMap_cons, List.length_append, L.len, ih, List.length_cons, Nat.add_mul, Nat.one_mul, Nat.add_comm]
theorem Lay.at (L : Lay α) {xs : List α} {i : Nat} (hi : i < xs.length) {j : Nat} {v : Value} (hj : (L.cs xs[i])[j]? = some v) : (xs.flatMap L.cs)[i * L.s + j]? = some v := by
  induction xs generalizing i with
  | nil => simp at hi
  | cons x r ih =>
    have hjs : j < L.s := by
      obtain ⟨h, _⟩ := List.getElem?_eq_some_iff.1 hj
      rwa [L.len] at h
    rw [List.flatMap_cons]
    cases i with
    | zero =>
      rw [List.getElem?_append_left (by rw [L.len]; omega)]
      simpa using hj
    | succ k =>
      rw [List.getElem?_append_right (by rw [L.len, Nat.add_mul, Nat.one_mul]; omega), L.len]
      have := ih (i := k) (by simpa using hi) (by simpa using hj)
      rwa [show (k + 1) * L.s + j - L.s = k * L.s + j by rw [Nat.add_mul, Nat.one_mul]; omega]
theorem Lay.take (L : Lay α) (xs : List α) (i : Nat) : (xs.take i).flatMap L.cs = (xs.flatMap L.cs).take (i * L.s) := by
  induction xs generalizing i with
  | nil => simp
  | cons x r ih =>
    cases i with
    | zero => simp
    | succ k =>
      rw [List.take_succ_cons, List.flatMap_cons, List.flatMap_cons, ih, List.take_append, L.len, List.take_of_length_le (l := L.cs x) (by rw [L.len, Nat.add_mul, Nat.one_mul]; omega), show (k + 1) * L.s - L.s = k * L.s by rw [Nat.add_mul, Nat.one_mul]; omega]
theorem Lay.drop (L : Lay α) (xs : List α) (i : Nat) : (xs.drop i).flatMap L.cs = (xs.flatMap L.cs).drop (i * L.s) := by
  induction xs generalizing i with
  | nil => simp
  | cons x r ih =>
    cases i with
    | zero => simp
    | succ k =>
      rw [List.drop_succ_cons, List.flatMap_cons, ih, List.drop_append, L.len, List.drop_of_length_le (l := L.cs x) (by rw [L.len, Nat.add_mul, Nat.one_mul]; omega), show (k + 1) * L.s - L.s = k * L.s by rw [Nat.add_mul, Nat.one_mul]; omega, List.nil_append]
theorem Lay.ones (L : Lay α) (xs : List α) : ∀ v ∈ xs.flatMap L.cs, v.oneCell' = true := by
  intro v hv
  obtain ⟨x, _, h⟩ := List.mem_flatMap.1 hv
  exact L.one x v h

theorem Row.len (h : Row L e w a l c xs) : xs.length = l ∧ l ≤ c ∧ c ≤ 9223372036854775807 := by
  have h1 : xs.length = l := by
    have := h.1
    rw [L.length] at this
    exact Nat.eq_of_mul_eq_mul_right L.pos this
  rcases h.2 with ⟨hv, h0⟩ | ⟨g, cap, cur, hv, _, _, hn, hm, _⟩
  · injection hv with _ h2 h3; exact ⟨h1, by omega, by omega⟩
  · injection hv with _ h2 h3; subst h3; exact ⟨h1, hn, by simpa [maxLen] using hm⟩
theorem Row.mod {S : Nat → Prop} (h : Row L e w a l c xs) (hm : Mod S w w') (hs : ∀ k, rowB a k → ¬ S k) : Row L e w' a l c xs := by
  refine ⟨h.1, ?_⟩
  rcases h.2 with hn | ⟨g, cap, cur, hv, hb, hg, rest⟩
  · exact .inl hn
  · injection hv with h1 h2 h3
    subst h1; subst h3
    exact .inr ⟨g, c, cur, rfl, hb, hm.at hg (hs g (by simp [rowB])), rest⟩
theorem Row.no (h : Row L e w a l c xs) (hm : Mod no w w') : Row L e w' a l c xs := h.mod hm fun _ _ => id
theorem Row.block (h : Row L e w a l c xs) : (a = none ∧ l = 0 ∧ c = 0 ∧ xs = []) ∨ ∃ g cur, a = some ⟨g, 0, none⟩ ∧ w.heap[g]? = some (.cells cur e (0, 0)) ∧ l ≤ c ∧ c ≤ maxLen ∧ cur.size = c * L.s ∧ cur.toList.take (l * L.s) = xs.flatMap L.cs := by
  have hl := h.len
  rcases h.2 with ⟨hv, h0⟩ | ⟨g, cap, cur, hv, _, hg, h1, h2, h3, h4⟩
  · injection hv with e1 e2 e3
    exact .inl ⟨e1, e2, e3, List.eq_nil_of_length_eq_zero (by omega)⟩
  · injection hv with e1 e2 e3
    subst e1; subst e3
    exact .inr ⟨g, cur, rfl, hg, h1, h2, h3, h4⟩
/-- A row that is there lies in the heap. -/
theorem Row.lt (h : Row L e w a l c xs) : ∀ k, rowB a k → k < w.heap.size := by
  intro k hk
  rcases h.block with ⟨rfl, _⟩ | ⟨g, cur, rfl, hg, _⟩
  · simp [rowB] at hk
  · simp [rowB] at hk; subst hk; exact lt_of_heap hg
theorem Row.empty (L : Lay α) (e : TypeId) (w : World) : Row L e w none 0 0 [] := ⟨by simp, .inl ⟨rfl, rfl⟩⟩
theorem Row.cellAt {g : Nat} (h : Row L e w (some ⟨g, 0, none⟩) l c xs) {k : Nat} {v : Value} (hk : (xs.flatMap L.cs)[k]? = some v) : w.cell? (Addr.add ⟨g, 0, none⟩ k) = some v := by
  rcases h.block with ⟨h0, _⟩ | ⟨g', cur, hg', hg, _, _, _, h4⟩
  · cases h0
  · injection hg' with hg'; injection hg' with hg'; subst hg'
    rw [cl1 hg]
    rw [← h4, List.getElem?_take] at hk
    split at hk
    · simpa using hk
    · cases hk
/-- An element's cells. -/
theorem Row.get (h : Row L e w a l c xs) {i : Nat} (hi : i < xs.length) : ∃ g, a = some ⟨g, 0, none⟩ ∧ ∀ j v, (L.cs xs[i])[j]? = some v → w.cell? (Addr.add (Addr.add ⟨g, 0, none⟩ (i * L.s)) j) = some v := by
  have hl := h.len
  rcases h.block with ⟨_, h0, _⟩ | ⟨g, cur, rfl, _⟩
  · omega
  · refine ⟨g, rfl, fun j v hj => ?_⟩
    have := h.cellAt (L.at hi hj)
    rw [add_lit] at this
    rw [add_lit, add_lit, Nat.add_assoc]
    exact this
/-- The same of a smaller row's place. -/
theorem Row.getS (h : Row L e w a l c xs) {i : Nat} (hi : i < xs.length) {s : Nat} (hs : L.s = s) : ∃ g, a = some ⟨g, 0, none⟩ ∧ ∀ j v, (L.cs xs[i])[j]? = some v → w.cell? (Addr.add (Addr.add ⟨g, 0, none⟩ (i * s)) j) = some v := by
  subst hs; exact h.get hi

/-- t is a slice of e; an e has s cells, and b bytes. -/
def laidOk (P : Program) (t e : TypeId) (s : Nat) : Bool :=
  (match P.underlying t with | some (.slice e') => Nat.beq e' e | _ => false) &&
  (match P.info? e with
    | some i => Nat.beq i.size s && Nat.ble i.bytes 128 && (match i.zero with | some z => Nat.beq z.cells.size s | none => false)
    | none => false)
theorem laidOk_of {P : Program} {t e : TypeId} {s : Nat} (h : laidOk P t e s = true) :
    P.underlying t = some (.slice e) ∧ ∃ i z, P.info? e = some i ∧ i.zero = some z ∧ i.size = s ∧ i.bytes ≤ 128 ∧ z.cells.size = s := by
  simp only [laidOk, Bool.and_eq_true] at h
  obtain ⟨h1, h2⟩ := h
  constructor
  · split at h1
    · rename_i e' hu; rw [hu, Nat.eq_of_beq_eq_true h1]
    · cases h1
  · split at h2
    · rename_i i hi
      simp only [Bool.and_eq_true] at h2
      obtain ⟨⟨h2, h3⟩, h4⟩ := h2
      split at h4
      · rename_i z hz
        exact ⟨i, z, hi, hz, Nat.eq_of_beq_eq_true h2, Nat.le_of_ble_eq_true h3, Nat.eq_of_beq_eq_true h4⟩
      · cases h4
    · cases h2

/-- append(row, others..): behind it the row of both; only the row's own block changed, or a new one was made. The others lie where b begins, or there are none. -/
theorem Row.push {P : Program} {t ty : TypeId} (ho : laidOk P t e L.s = true) (h : Row L e w a l c xs) {b : Option Addr} {m cc : Nat} {ys : List α} (hm : ys.length = m)
    (hb : ∀ ad, b = some ad → ∀ j v, (ys.flatMap L.cs)[j]? = some v → w.cell? (ad.add j) = some v) (hb0 : b = none → m = 0 ∧ cc = 0) (hn : l + m ≤ 1099511627776) :
    ∃ a' c' w', (Builtin.append_ #[t, t] ty #[.slice a l c, .slice b m cc]).run P w = .ok (.slice a' (l + m) c') w' ∧ Row L e w' a' (l + m) c' (xs ++ ys) ∧
      Mod (rowB a) w w' ∧ (∀ k, rowB a' k → rowB a k ∨ w.heap.size ≤ k) := by
  obtain ⟨ht, i, z, hi, hz, hsize, hby, hzs⟩ := laidOk_of ho
  have hxl : xs.length = l := h.len.1
  have hlx : (xs.flatMap L.cs).length = l * i.size := by rw [L.length, hxl, hsize]
  have hnl : (ys.flatMap L.cs).length = m * i.size := by rw [L.length, hm, hsize]
  have same : a = a → ∀ k, rowB a k → rowB a k ∨ w.heap.size ≤ k := fun _ k hk => .inl hk
  rcases hbb : b with _ | ad
  · obtain ⟨rfl, rfl⟩ := hb0 hbb
    have : ys = [] := List.eq_nil_of_length_eq_zero hm
    subst this
    have hr := run_append_owned_none (P := P) w 0 t ty e i L.s ht hi (.slice a l c) l (xs.flatMap L.cs) h
    exact ⟨a, c, w, hr, by simpa using h, Mod.refl _ _, fun k hk => .inl hk⟩
  have hb := hb ad hbb
  have hbytes : (l + m) * i.bytes ≤ 140737488355328 := Nat.le_trans (Nat.mul_le_mul hn hby) (by decide)
  have hmx : l + m ≤ maxLen := Nat.le_trans hn (by decide)
  have grown : ∀ (old : Nat), old < l + m →
      Row L e (w.drew.alloc (.cells ((xs.flatMap L.cs).toArray ++ (ys.flatMap L.cs).toArray ++ Builtin.zeroCells z.cells (grownCap w (l + m) old e - (l + m))) e)) (some ⟨w.heap.size, 0, none⟩) (l + m) (grownCap w (l + m) old e) (xs ++ ys) ∧
      Mod (rowB a) w (w.drew.alloc (.cells ((xs.flatMap L.cs).toArray ++ (ys.flatMap L.cs).toArray ++ Builtin.zeroCells z.cells (grownCap w (l + m) old e - (l + m))) e)) := by
    intro old ho
    have hge := grownCap_ge w (l + m) old e
    have hcm : grownCap w (l + m) old e ≤ maxLen := grownCap_le_maxLen w (l + m) old e hmx
    refine ⟨⟨by rw [L.length]; simp [hxl, hm], .inr ⟨w.heap.size, _, _, rfl, Nat.zero_le _, heap_alloc_new w.drew _, hge, hcm, ?_, ?_⟩⟩, ⟨rfl, rfl, rfl, by simp, fun k hk _ => heap_alloc_old w.drew _ hk⟩⟩
    · simp only [Array.size_append, List.size_toArray, size_zeroCells, hzs, hlx, hnl, hsize]
      rw [← Nat.add_mul, ← Nat.add_mul]
      congr 1
      omega
    · simp only [Array.toList_append, List.flatMap_append]
      exact List.take_left' (by simp [hlx, hnl, hsize, Nat.add_mul])
  have hnew : ∀ k, rowB (some (⟨w.heap.size, 0, none⟩ : Addr)) k → rowB a k ∨ w.heap.size ≤ k := by
    intro k hk
    simp [rowB] at hk
    exact .inr (by omega)
  rcases h.block with ⟨rfl, rfl, rfl, rfl⟩ | ⟨g, cur, rfl, hg, hnc, hcm, hcs, htake⟩
  · by_cases hm0 : m = 0
    · subst hm0
      have : ys = [] := List.eq_nil_of_length_eq_zero hm
      subst this
      have hr := run_append_own (P := P) w 0 t ty e i z L.s i.bytes ht hi hz hsize rfl hzs L.pos (.slice none 0 0) 0 [] ⟨by simp, .inl ⟨rfl, rfl⟩⟩ ad 0 cc [] (by simp) (by simp) (by simp) (by simp [maxLen]) (by simp) (Nat.zero_le _)
      obtain ⟨v', w', hr, ho', hg', hv'⟩ := hr
      have hv : v' = .slice none 0 0 := hv'.2 ⟨rfl, rfl⟩
      subst hv
      refine ⟨none, 0, w', hr, Row.empty _ _ _, (Mod.grown hg').mono fun k _ hk => ?_, fun k hk => by simp [rowB] at hk⟩
      simp [Value.ownBlock] at hk
    · have e63 : (m : Int) ≤ 9223372036854775807 := by simp only [maxLen] at hmx; omega
      have e48 : m * i.bytes ≤ 281474976710656 := by rw [Nat.zero_add] at hbytes; omega
      have hr := run_append_nil (P := P) w t ty e i z ht hi hz ad m cc _ hnl hb (by omega) e63 e48
      have hgr := grown 0 (by omega)
      simp only [Nat.zero_add, List.nil_append, Array.empty_append, List.flatMap_nil] at hgr hr ⊢
      exact ⟨_, _, _, hr, hgr.1, hgr.2, hnew⟩
  · by_cases hroom : l + m ≤ c
    · have hown : w.ownsRow 0 e i.size (.slice (some ⟨g, 0, none⟩) l c) l (xs.flatMap L.cs) := by rw [hsize]; exact h
      obtain ⟨w', hr, ho', hgr⟩ := run_append_fits (P := P) (ty := ty) w 0 t e i i.size ht hi rfl g l c _ hown ad m cc _ hnl hb (L.ones ys) hroom
      rw [hsize, ← List.flatMap_append] at ho'
      refine ⟨_, _, _, hr, ho', (Mod.grown hgr).mono fun k _ hk => ?_, fun k hk => .inl hk⟩
      simp [rowB]
      injection hk with hk
      exact hk.symm
    · have holds : ∀ j u, (xs.flatMap L.cs)[j]? = some u → w.cell? ((⟨g, 0, none⟩ : Addr).add j) = some u := fun j u hj => h.cellAt hj
      have hr := run_append_grow (P := P) w t ty e i z ht hi hz ⟨g, 0, none⟩ l c _ hlx holds ad m cc _ hnl hb (by omega) (by simp only [maxLen] at hmx; omega) (growslice_fits (by omega) hbytes)
      have hgr := grown c (by omega)
      exact ⟨_, _, _, hr, hgr.1, hgr.2, hnew⟩

/-- The cells of row[k:]. -/
theorem Row.tail (h : Row L e w a l c xs) {k : Nat} (hk : k ≤ l) {s : Nat} (hs : L.s = s) :
    (∀ ad, (if c = k then a else a.map fun x => Addr.add x (k * s)) = some ad → ∀ j v, ((xs.drop k).flatMap L.cs)[j]? = some v → w.cell? (ad.add j) = some v) ∧
    ((if c = k then a else a.map fun x => Addr.add x (k * s)) = none → l - k = 0 ∧ c - k = 0) ∧ (xs.drop k).length = l - k := by
  subst hs
  have hl := h.len
  refine ⟨fun ad had j v hj => ?_, fun hn => ?_, by rw [List.length_drop]; omega⟩
  · split at had
    · rw [List.drop_eq_nil_of_le (by omega)] at hj
      simp at hj
    · rcases h.block with ⟨rfl, _⟩ | ⟨g, cur, rfl, _⟩
      · cases had
      · simp only [Option.map_some, Option.some.injEq] at had
        subst had
        rw [L.drop, List.getElem?_drop] at hj
        have := h.cellAt hj
        rw [add_lit] at this
        rw [add_lit, add_lit, Nat.add_assoc]
        exact this
  · rcases h.block with ⟨rfl, h1, h2, _⟩ | ⟨g, cur, rfl, _⟩
    · omega
    · split at hn <;> cases hn
/-- The cells of row[:k]. -/
theorem Row.head (h : Row L e w a l c xs) {k : Nat} (hk : k ≤ l) :
    (∀ ad, (if c = 0 then a else a.map fun x => Addr.add x 0) = some ad → ∀ j v, ((xs.take k).flatMap L.cs)[j]? = some v → w.cell? (ad.add j) = some v) ∧
    ((if c = 0 then a else a.map fun x => Addr.add x 0) = none → k - 0 = 0 ∧ c - 0 = 0) ∧ (xs.take k).length = k - 0 := by
  have hl := h.len
  refine ⟨fun ad had j v hj => ?_, fun hn => ?_, by rw [List.length_take]; omega⟩
  · rw [L.take, List.getElem?_take] at hj
    split at hj
    · rcases h.block with ⟨rfl, h1, h2, h3⟩ | ⟨g, cur, rfl, _⟩
      · subst h3; simp at hj
      · have := h.cellAt hj
        split at had
        · cases had; exact this
        · simp only [Option.map_some, Option.some.injEq] at had
          subst had
          rw [add_lit] at this
          rw [add_lit, add_lit, Nat.add_assoc]
          simpa using this
    · cases hj
  · rcases h.block with ⟨rfl, h1, h2, _⟩ | ⟨g, cur, rfl, _⟩
    · omega
    · split at hn <;> cases hn
/-- The cells of the whole row. -/
theorem Row.all (h : Row L e w a l c xs) : (∀ ad, a = some ad → ∀ j v, (xs.flatMap L.cs)[j]? = some v → w.cell? (ad.add j) = some v) ∧ (a = none → l = 0 ∧ c = 0) := by
  refine ⟨fun ad had j v hj => ?_, fun hn => ?_⟩
  · rcases h.block with ⟨rfl, _⟩ | ⟨g, cur, rfl, _⟩
    · cases had
    · cases had; exact h.cellAt hj
  · rcases h.block with ⟨_, h1, h2, _⟩ | ⟨g, cur, rfl, _⟩
    · exact ⟨h1, h2⟩
    · cases hn
/-- A row of what a literal made. -/
theorem Row.lit (L : Lay α) {e : TypeId} {w : World} {k : Nat} {cur : Array Value} (hg : w.heap[k]? = some (.cells cur e (0, 0))) (xs : List α) (h : cur.toList = xs.flatMap L.cs) (hn : xs.length ≤ maxLen) :
    Row L e w (some ⟨k, 0, none⟩) xs.length xs.length xs := by
  have hl : cur.size = xs.length * L.s := by rw [← L.length, ← h, Array.length_toList]
  exact ⟨L.length xs, .inr ⟨k, xs.length, cur, rfl, Nat.zero_le _, hg, Nat.le_refl _, hn, hl, by rw [← h, List.take_of_length_le (by rw [Array.length_toList, hl]; exact Nat.le_refl _)]⟩⟩
theorem Lay.set (L : Lay α) (xs : List α) {i : Nat} (hi : i < xs.length) (y : α) {j : Nat} {v : Value} (hj : j < L.s) (hy : L.cs y = (L.cs xs[i]).set j v) : (xs.set i y).flatMap L.cs = (xs.flatMap L.cs).set (i * L.s + j) v := by
  induction xs generalizing i with
  | nil => simp at hi
  | cons x r ih =>
    cases i with
    | zero =>
      rw [List.set_cons_zero, List.flatMap_cons, List.flatMap_cons, hy, Nat.zero_mul, Nat.zero_add, List.set_append, if_pos (by rw [L.len]; exact hj)]
      rfl
    | succ k =>
      rw [List.set_cons_succ, List.flatMap_cons, List.flatMap_cons, ih (by simpa using hi) (by simpa using hy), List.set_append, if_neg (by rw [L.len, Nat.add_mul, Nat.one_mul]; omega), L.len,
        show (k + 1) * L.s + j - L.s = k * L.s + j by rw [Nat.add_mul, Nat.one_mul]; omega]
/-- A cell of an element is written. -/
theorem Row.put (h : Row L e w a l c xs) {i : Nat} (hi : i < xs.length) {j s : Nat} (hs : L.s = s) (hj : j < L.s) (v : Value) (y : α) (hy : L.cs y = (L.cs xs[i]).set j v) :
    ∃ g, a = some ⟨g, 0, none⟩ ∧ (∃ u, w.cell? (Addr.add (Addr.add (Addr.add ⟨g, 0, none⟩ (i * s)) j) 0) = some u) ∧ w.frozen? (Addr.add (Addr.add (Addr.add ⟨g, 0, none⟩ (i * s)) j) 0) = false ∧
      Mod (on g) w (w.setCell (Addr.add (Addr.add (Addr.add ⟨g, 0, none⟩ (i * s)) j) 0) v) ∧ Row L e (w.setCell (Addr.add (Addr.add (Addr.add ⟨g, 0, none⟩ (i * s)) j) 0) v) a l c (xs.set i y) := by
  subst hs
  have hl := h.len
  rcases h.block with ⟨_, h0, _⟩ | ⟨g, cur, rfl, hg, hnc, hcm, hcs, htake⟩
  · omega
  have hlt : i * L.s + j < l * L.s := by
    have : (i + 1) * L.s ≤ l * L.s := Nat.mul_le_mul_right _ (by omega)
    rw [Nat.add_mul, Nat.one_mul] at this
    omega
  have hlc : l * L.s ≤ c * L.s := Nat.mul_le_mul_right _ hnc
  refine ⟨g, rfl, ⟨_, by rw [add_lit, add_lit, add_lit, cl hg]; exact Array.getElem?_eq_getElem (by omega)⟩, by rw [add_lit, add_lit, add_lit]; exact fz0 hg _, by rw [add_lit, add_lit, add_lit]; exact Mod.setCell w ⟨g, _, none⟩ v, ?_⟩
  refine ⟨by rw [L.length, List.length_set, hl.1], .inr ⟨g, c, _, rfl, Nat.zero_le _, by rw [add_lit, add_lit, add_lit]; exact set0 hg _ v, hnc, hcm, by simpa using hcs, ?_⟩⟩
  rw [L.set xs hi y hj hy, ← htake, Array.toList_setIfInBounds, Nat.zero_add, Nat.add_zero, List.take_set]
end

/-! ### Two lists, held against each other -/
structure AllAt {α β : Type} (P : α → β → Prop) (xs : List α) (ys : List β) : Prop where
  len : xs.length = ys.length
  get : ∀ (i : Nat) (h : i < xs.length) (h' : i < ys.length), P xs[i] ys[i]
section
variable {α β : Type} {P Q : α → β → Prop} {xs xs' : List α} {ys ys' : List β}
theorem AllAt.imp (h : AllAt P xs ys) (hq : ∀ x y, P x y → Q x y) : AllAt Q xs ys := ⟨h.len, fun i h1 h2 => hq _ _ (h.get i h1 h2)⟩
theorem AllAt.nil : AllAt P [] [] := ⟨rfl, fun i h => by simp at h⟩
theorem AllAt.append (h : AllAt P xs ys) (h' : AllAt P xs' ys') : AllAt P (xs ++ xs') (ys ++ ys') := by
  refine ⟨by simp [h.len, h'.len], fun i h1 h2 => ?_⟩
  have hl := h.len
  by_cases hi : i < xs.length
  · rw [List.getElem_append_left hi, List.getElem_append_left (by omega)]; exact h.get i _ _
  · rw [List.getElem_append_right (by omega), List.getElem_append_right (by omega)]
    have := h'.get (i - xs.length) (by simp at h1; omega) (by simp at h2; omega)
    simpa only [hl] using this
theorem AllAt.one {x : α} {y : β} (h : P x y) : AllAt P [x] [y] := ⟨rfl, fun i h1 h2 => by
  have : i = 0 := by simpa using h1
  subst this; exact h⟩
theorem AllAt.take (h : AllAt P xs ys) (k : Nat) : AllAt P (xs.take k) (ys.take k) :=
  ⟨by simp [h.len], fun i h1 h2 => by rw [List.getElem_take, List.getElem_take]; exact h.get i _ _⟩
theorem AllAt.drop (h : AllAt P xs ys) (k : Nat) : AllAt P (xs.drop k) (ys.drop k) :=
  ⟨by simp [h.len], fun i h1 h2 => by rw [List.getElem_drop, List.getElem_drop]; exact h.get (k + i) _ _⟩
theorem AllAt.set (h : AllAt P xs ys) (k : Nat) {x : α} {y : β} (hp : P x y) : AllAt P (xs.set k x) (ys.set k y) := by
  refine ⟨by simp [h.len], fun i h1 h2 => ?_⟩
  rw [List.getElem_set, List.getElem_set]
  split
  · exact hp
  · exact h.get i _ _
end

/-! ### A struct of its own, filled cell by cell -/
def fillC (b : Nat) : List Value → Nat → World → (World → Prop) → Prop
  | [], _, w, K => K w
  | v :: r, i, w, K => (∃ u : Value, w.cell? (Addr.add ⟨b, 0, none⟩ i) = some u) ∧ w.frozen? (Addr.add ⟨b, 0, none⟩ i) = false ∧ atW (w.setCell (Addr.add ⟨b, 0, none⟩ i) v) fun w' => fillC b r (i + 1) w' K
theorem fillC_at {b : Nat} {t : TypeId} {K : World → Prop} : ∀ (vs : List Value) (done old : List Value) (w : World), old.length = vs.length → w.heap[b]? = some (.cells (done ++ old).toArray t (0, 0)) →
    (∀ w', w'.heap[b]? = some (.cells (done ++ vs).toArray t (0, 0)) → Mod (on b) w w' → w'.heap.size = w.heap.size → K w') → fillC b vs done.length w K
  | [], done, old, w, hl, h, hk => by
    have : old = [] := List.eq_nil_of_length_eq_zero hl
    subst this
    exact hk w h (Mod.refl _ _) rfl
  | v :: r, done, [], w, hl, h, hk => by simp at hl
  | v :: r, done, o :: old, w, hl, h, hk => by
    refine ⟨⟨o, by rw [cl1 h]; simp⟩, fz1 h _, fun w' e => ?_⟩
    subst e
    have h1 : (w.setCell (Addr.add ⟨b, 0, none⟩ done.length) v).heap[b]? = some (.cells ((done ++ [v]) ++ old).toArray t (0, 0)) := by
      rw [set1 h]
      simp
    have := fillC_at (K := K) r (done ++ [v]) old _ (by simpa using hl) h1 (fun w' h' m' s' => hk w' (by simpa using h') ((Mod.set1 _ _ _ _).trans m') (by rw [s']; simp))
    simpa using this
theorem fillC_ok {b : Nat} {t : TypeId} {K : World → Prop} {vs : List Value} {w : World} {old : Array Value} (h : w.heap[b]? = some (.cells old t (0, 0))) (hl : old.size = vs.length)
    (hk : ∀ w', w'.heap[b]? = some (.cells vs.toArray t (0, 0)) → Mod (on b) w w' → w'.heap.size = w.heap.size → K w') : fillC b vs 0 w K :=
  fillC_at vs [] old.toList w (by simpa using hl) (by simpa using h) (by simpa using hk)
end Go.Proofs.Ytmnbnjkbbhjocaa.St
