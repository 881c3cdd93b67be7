/- Parts of the proof of ConsumerHoldsSaid. -/
import Derived.Test.YtmnbnjkbbhjocaaCore9
import Derived.Test.YtmnbnjkbbhjocaaProg
import Derived.Test.YtmnbnjkbbhjocaaLib
import Derived.Test.YtmnbnjkbbhjocaaX1
/- The formulas of functions, printed by a program of mine (gen.py) out of the translation. -/
namespace Go.Proofs.Ytmnbnjkbbhjocaa
open Go Go.Proofs.Ytmnbnjkbbhjocaa.St
set_option maxRecDepth 100000

/-- slices.nextPowerOfTwo -/
noncomputable def C69 : Code := (Try.f69.body).getD .skip
def pl69 : Nat → Plan := fun _ => .done
def ls69 : Nat → List (Nat × LT) := fun _ => []
def W69 (length : Int) (w : World) (R : Value → World → Prop) : Prop :=
  (Ca Try.prog (48) (Array.mk [Value.int IntKind.u64 (IntKind.wrap IntKind.u64 length)]) (w) (fun v0 => (fun w1 =>
    (∃ x2 : Int, ((v0 = Value.int IntKind.i64 x2) ∧ (((0 : Int) ≤ x2) ∧ (R (Value.int IntKind.u64 (IntKind.wrap IntKind.u64 (1 * 2 ^ min (Int.toNat x2) 64))) (w1))))))))
theorem ca69 (length : Int) (w : World) (R : Value → World → Prop) (h : W69 length w R) : Ca Try.prog 69 ⟨[(.int .i64 length)]⟩ w R := by
  have h1 : Try.prog.follows .mixedOrders = true := by kernel_rfl
  have h2 : Try.f69.body = some C69 := by kernel_rfl
  have h3 : (Try.f69.name == "runtime.NumGoroutine") = false := by kernel_rfl
  have h6 : Try.f69.results.toList = [.tmp 2] := by kernel_rfl
  have h4 : Nat.ble 1 7 = true := by kernel_rfl
  have h5 : okCode 7 pl69 ls69 C69 0 = true := by kernel_rfl
  have e : W69 length w R = wpC none Try.prog 7 pl69 ls69 C69 0 (endP Try.prog [.tmp 2] R) (fr0 [(.int .i64 length)]) [] w := by kernel_rfl
  exact ca_of' (P := Try.prog) (g := 69) (fn := Try.f69) (c := C69) (m := 7) (rs := [.tmp 2]) (args := [(.int .i64 length)]) (pl := pl69) (ls := ls69) (w := w) (R := R) h1 Try.func69 h2 Try.ntmps69 h6 h3 h4 h5 (Eq.mp e h)

/-- (*slices.xorshift).Next -/
noncomputable def C70 : Code := (Try.f70.body).getD .skip
def pl70 : Nat → Plan
  | 1 => (.quiet 0 (.quiet 1 (.quiet 2 (.quiet 3 (.quiet 4 (.quiet 5 (.quiet 6 (.quiet 7 (.quiet 8 (.eff 9 [] .done))))))))))
  | 2 => (.quiet 0 (.quiet 1 (.quiet 2 (.quiet 3 (.quiet 4 (.quiet 5 (.quiet 6 (.quiet 7 (.quiet 8 (.eff 9 [] .done))))))))))
  | 3 => (.quiet 0 (.quiet 1 (.quiet 2 (.quiet 3 (.quiet 4 (.quiet 5 (.quiet 6 (.quiet 7 (.quiet 8 (.eff 9 [] .done))))))))))
  | _ => .done
def ls70 : Nat → List (Nat × LT) := fun _ => []
def W70 (r : Option Addr) (w : World) (R : Value → World → Prop) : Prop :=
  (atW (World.drew w) (fun w0 =>
    (onP (r) (fun a1 =>
      (∃ x2 : Int, ((World.cell? w0 a1 = some (Value.int IntKind.u64 x2)) ∧ (onP (r) (fun a3 =>
        (∃ x4 : Int, ((World.cell? w0 a3 = some (Value.int IntKind.u64 x4)) ∧ (((0 : Int) ≤ 13) ∧ (onP (r) (fun a5 =>
          ((∃ v6 : Value, (World.cell? w0 (Addr.add a5 0) = some v6)) ∧ ((World.frozen? w0 (Addr.add a5 0) = false) ∧ (atW (World.setCell w0 (Addr.add a5 0) (Value.int IntKind.u64 (IntKind.wrap IntKind.u64 (↑(BitVec.toNat (BitVec.ofInt 64 x2 ^^^ BitVec.ofInt 64 (IntKind.wrap IntKind.u64 (x4 * 2 ^ 13)))) : Int)))) (fun w7 =>
            (atW (World.drew w7) (fun w8 =>
              (onP (r) (fun a9 =>
                (∃ x10 : Int, ((World.cell? w8 a9 = some (Value.int IntKind.u64 x10)) ∧ (onP (r) (fun a11 =>
                  (∃ x12 : Int, ((World.cell? w8 a11 = some (Value.int IntKind.u64 x12)) ∧ (((0 : Int) ≤ 7) ∧ (onP (r) (fun a13 =>
                    ((∃ v14 : Value, (World.cell? w8 (Addr.add a13 0) = some v14)) ∧ ((World.frozen? w8 (Addr.add a13 0) = false) ∧ (atW (World.setCell w8 (Addr.add a13 0) (Value.int IntKind.u64 (IntKind.wrap IntKind.u64 (↑(BitVec.toNat (BitVec.ofInt 64 x10 ^^^ BitVec.ofInt 64 (Int.fdiv x12 (2 ^ 7)))) : Int)))) (fun w15 =>
                      (atW (World.drew w15) (fun w16 =>
                        (onP (r) (fun a17 =>
                          (∃ x18 : Int, ((World.cell? w16 a17 = some (Value.int IntKind.u64 x18)) ∧ (onP (r) (fun a19 =>
                            (∃ x20 : Int, ((World.cell? w16 a19 = some (Value.int IntKind.u64 x20)) ∧ (((0 : Int) ≤ 17) ∧ (onP (r) (fun a21 =>
                              ((∃ v22 : Value, (World.cell? w16 (Addr.add a21 0) = some v22)) ∧ ((World.frozen? w16 (Addr.add a21 0) = false) ∧ (atW (World.setCell w16 (Addr.add a21 0) (Value.int IntKind.u64 (IntKind.wrap IntKind.u64 (↑(BitVec.toNat (BitVec.ofInt 64 x18 ^^^ BitVec.ofInt 64 (IntKind.wrap IntKind.u64 (x20 * 2 ^ 17)))) : Int)))) (fun w23 =>
                                (onP (r) (fun a24 =>
                                  (∃ x25 : Int, ((World.cell? w23 a24 = some (Value.int IntKind.u64 x25)) ∧ (R (Value.int IntKind.u64 x25) (w23)))))))))))))))))))))))))))))))))))))))))))))))))))))))))
theorem ca70 (r : Option Addr) (w : World) (R : Value → World → Prop) (h : W70 r w R) : Ca Try.prog 70 ⟨[(.pointer r)]⟩ w R := by
  have h1 : Try.prog.follows .mixedOrders = true := by kernel_rfl
  have h2 : Try.f70.body = some C70 := by kernel_rfl
  have h3 : (Try.f70.name == "runtime.NumGoroutine") = false := by kernel_rfl
  have h6 : Try.f70.results.toList = [.tmp 2] := by kernel_rfl
  have h4 : Nat.ble 1 33 = true := by kernel_rfl
  have h5 : okCode 33 pl70 ls70 C70 0 = true := by kernel_rfl
  have e : W70 r w R = wpC none Try.prog 33 pl70 ls70 C70 0 (endP Try.prog [.tmp 2] R) (fr0 [(.pointer r)]) [] w := by kernel_rfl
  exact ca_of' (P := Try.prog) (g := 70) (fn := Try.f70) (c := C70) (m := 33) (rs := [.tmp 2]) (args := [(.pointer r)]) (pl := pl70) (ls := ls70) (w := w) (R := R) h1 Try.func70 h2 Try.ntmps70 h6 h3 h4 h5 (Eq.mp e h)
end Go.Proofs.Ytmnbnjkbbhjocaa

/- The formulas of functions, printed by a program of mine (gen.py) out of the translation. -/
namespace Go.Proofs.Ytmnbnjkbbhjocaa
open Go Go.Proofs.Ytmnbnjkbbhjocaa.St
set_option maxRecDepth 100000

/-- slices.order2Ordered[uint64] -/
noncomputable def C88 : Code := (Try.f88.body).getD .skip
def pl88 : Nat → Plan
  | 1 => (.quiet 0 (.quiet 1 (.quiet 2 (.quiet 3 (.quiet 4 (.quiet 5 (.quiet 6 (.quiet 7 (.eff 8 [] .done)))))))))
  | _ => .done
def ls88 : Nat → List (Nat × LT) := fun _ => []
def W88 (dataa : Option Addr) (datal : Nat) (_datac : Nat) (a_ : Int) (b : Int) (swaps : Option Addr) (w : World) (R : Value → World → Prop) : Prop :=
  (atW (World.drew w) (fun w0 =>
    (∃ a1 : Addr, ((dataa = some a1) ∧ (((0 : Int) ≤ b) ∧ (((b : Int) < (↑datal : Int)) ∧ (∃ x2 : Int, ((World.cell? w0 (Addr.add a1 (Int.toNat b * 1)) = some (Value.int IntKind.u64 x2)) ∧ (∃ a3 : Addr, ((dataa = some a3) ∧ (((0 : Int) ≤ a_) ∧ (((a_ : Int) < (↑datal : Int)) ∧ (∃ x4 : Int, ((World.cell? w0 (Addr.add a3 (Int.toNat a_ * 1)) = some (Value.int IntKind.u64 x4)) ∧ (Ca Try.prog (80) (Array.mk [Value.int IntKind.u64 x2, Value.int IntKind.u64 x4]) (w0) (fun v5 => (fun w6 =>
      (∃ b7 : Bool, ((v5 = Value.bool b7) ∧ (ifK (b7)
        (onP (swaps) (fun a8 =>
          (∃ x9 : Int, ((World.cell? w6 a8 = some (Value.int IntKind.i64 x9)) ∧ (onP (swaps) (fun a10 =>
            ((∃ v11 : Value, (World.cell? w6 (Addr.add a10 0) = some v11)) ∧ ((World.frozen? w6 (Addr.add a10 0) = false) ∧ (atW (World.setCell w6 (Addr.add a10 0) (Value.int IntKind.i64 (IntKind.wrap IntKind.i64 (x9 + 1)))) (fun w12 =>
              (R (Value.tuple (Array.mk [Value.int IntKind.i64 b, Value.int IntKind.i64 a_])) (w12))))))))))))
        (R (Value.tuple (Array.mk [Value.int IntKind.i64 a_, Value.int IntKind.i64 b])) (w6))))))))))))))))))))))
theorem ca88 (dataa : Option Addr) (datal : Nat) (datac : Nat) (a_ : Int) (b : Int) (swaps : Option Addr) (w : World) (R : Value → World → Prop) (h : W88 dataa datal datac a_ b swaps w R) : Ca Try.prog 88 ⟨[(.slice dataa datal datac), (.int .i64 a_), (.int .i64 b), (.pointer swaps)]⟩ w R := by
  have h1 : Try.prog.follows .mixedOrders = true := by kernel_rfl
  have h2 : Try.f88.body = some C88 := by kernel_rfl
  have h3 : (Try.f88.name == "runtime.NumGoroutine") = false := by kernel_rfl
  have h6 : Try.f88.results.toList = [.tmp 8, .tmp 9] := by kernel_rfl
  have h4 : Nat.ble 4 28 = true := by kernel_rfl
  have h5 : okCode 28 pl88 ls88 C88 0 = true := by kernel_rfl
  have e : W88 dataa datal datac a_ b swaps w R = wpC none Try.prog 28 pl88 ls88 C88 0 (endP Try.prog [.tmp 8, .tmp 9] R) (fr0 [(.slice dataa datal datac), (.int .i64 a_), (.int .i64 b), (.pointer swaps)]) [] w := by kernel_rfl
  exact ca_of' (P := Try.prog) (g := 88) (fn := Try.f88) (c := C88) (m := 28) (rs := [.tmp 8, .tmp 9]) (args := [(.slice dataa datal datac), (.int .i64 a_), (.int .i64 b), (.pointer swaps)]) (pl := pl88) (ls := ls88) (w := w) (R := R) h1 Try.func88 h2 Try.ntmps88 h6 h3 h4 h5 (Eq.mp e h)

/-- slices.medianOrdered[uint64] -/
noncomputable def C86 : Code := (Try.f86.body).getD .skip
def pl86 : Nat → Plan := fun _ => .done
def ls86 : Nat → List (Nat × LT) := fun _ => []
def W86 (dataa : Option Addr) (datal : Nat) (datac : Nat) (a_ : Int) (b : Int) (c : Int) (swaps : Option Addr) (w : World) (R : Value → World → Prop) : Prop :=
  (Ca Try.prog (88) (Array.mk [Value.slice dataa datal datac, Value.int IntKind.i64 a_, Value.int IntKind.i64 b, Value.pointer swaps]) (w) (fun v0 => (fun w1 =>
    (∃ x2 : Int, (∃ x3 : Int, ((v0 = Value.tuple (Array.mk (List.reverse [Value.int IntKind.i64 x3, Value.int IntKind.i64 x2]))) ∧ (Ca Try.prog (88) (Array.mk [Value.slice dataa datal datac, Value.int IntKind.i64 x3, Value.int IntKind.i64 c, Value.pointer swaps]) (w1) (fun v4 => (fun w5 =>
      (∃ x6 : Int, (∃ x7 : Int, ((v4 = Value.tuple (Array.mk (List.reverse [Value.int IntKind.i64 x7, Value.int IntKind.i64 x6]))) ∧ (Ca Try.prog (88) (Array.mk [Value.slice dataa datal datac, Value.int IntKind.i64 x2, Value.int IntKind.i64 x6, Value.pointer swaps]) (w5) (fun v8 => (fun w9 =>
        (∃ x10 : Int, (∃ x11 : Int, ((v8 = Value.tuple (Array.mk (List.reverse [Value.int IntKind.i64 x11, Value.int IntKind.i64 x10]))) ∧ (R (Value.int IntKind.i64 x11) (w9))))))))))))))))))))
theorem ca86 (dataa : Option Addr) (datal : Nat) (datac : Nat) (a_ : Int) (b : Int) (c : Int) (swaps : Option Addr) (w : World) (R : Value → World → Prop) (h : W86 dataa datal datac a_ b c swaps w R) : Ca Try.prog 86 ⟨[(.slice dataa datal datac), (.int .i64 a_), (.int .i64 b), (.int .i64 c), (.pointer swaps)]⟩ w R := by
  have h1 : Try.prog.follows .mixedOrders = true := by kernel_rfl
  have h2 : Try.f86.body = some C86 := by kernel_rfl
  have h3 : (Try.f86.name == "runtime.NumGoroutine") = false := by kernel_rfl
  have h6 : Try.f86.results.toList = [.tmp 10] := by kernel_rfl
  have h4 : Nat.ble 5 36 = true := by kernel_rfl
  have h5 : okCode 36 pl86 ls86 C86 0 = true := by kernel_rfl
  have e : W86 dataa datal datac a_ b c swaps w R = wpC none Try.prog 36 pl86 ls86 C86 0 (endP Try.prog [.tmp 10] R) (fr0 [(.slice dataa datal datac), (.int .i64 a_), (.int .i64 b), (.int .i64 c), (.pointer swaps)]) [] w := by kernel_rfl
  exact ca_of' (P := Try.prog) (g := 86) (fn := Try.f86) (c := C86) (m := 36) (rs := [.tmp 10]) (args := [(.slice dataa datal datac), (.int .i64 a_), (.int .i64 b), (.int .i64 c), (.pointer swaps)]) (pl := pl86) (ls := ls86) (w := w) (R := R) h1 Try.func86 h2 Try.ntmps86 h6 h3 h4 h5 (Eq.mp e h)

/-- slices.medianAdjacentOrdered[uint64] -/
noncomputable def C85 : Code := (Try.f85.body).getD .skip
def pl85 : Nat → Plan := fun _ => .done
def ls85 : Nat → List (Nat × LT) := fun _ => []
def W85 (dataa : Option Addr) (datal : Nat) (datac : Nat) (a_ : Int) (swaps : Option Addr) (w : World) (R : Value → World → Prop) : Prop :=
  (Ca Try.prog (86) (Array.mk [Value.slice dataa datal datac, Value.int IntKind.i64 (IntKind.wrap IntKind.i64 (a_ - 1)), Value.int IntKind.i64 a_, Value.int IntKind.i64 (IntKind.wrap IntKind.i64 (a_ + 1)), Value.pointer swaps]) (w) (fun v0 => (fun w1 =>
    (∃ x2 : Int, ((v0 = Value.int IntKind.i64 x2) ∧ (R (Value.int IntKind.i64 x2) (w1)))))))
theorem ca85 (dataa : Option Addr) (datal : Nat) (datac : Nat) (a_ : Int) (swaps : Option Addr) (w : World) (R : Value → World → Prop) (h : W85 dataa datal datac a_ swaps w R) : Ca Try.prog 85 ⟨[(.slice dataa datal datac), (.int .i64 a_), (.pointer swaps)]⟩ w R := by
  have h1 : Try.prog.follows .mixedOrders = true := by kernel_rfl
  have h2 : Try.f85.body = some C85 := by kernel_rfl
  have h3 : (Try.f85.name == "runtime.NumGoroutine") = false := by kernel_rfl
  have h6 : Try.f85.results.toList = [.tmp 6] := by kernel_rfl
  have h4 : Nat.ble 3 15 = true := by kernel_rfl
  have h5 : okCode 15 pl85 ls85 C85 0 = true := by kernel_rfl
  have e : W85 dataa datal datac a_ swaps w R = wpC none Try.prog 15 pl85 ls85 C85 0 (endP Try.prog [.tmp 6] R) (fr0 [(.slice dataa datal datac), (.int .i64 a_), (.pointer swaps)]) [] w := by kernel_rfl
  exact ca_of' (P := Try.prog) (g := 85) (fn := Try.f85) (c := C85) (m := 15) (rs := [.tmp 6]) (args := [(.slice dataa datal datac), (.int .i64 a_), (.pointer swaps)]) (pl := pl85) (ls := ls85) (w := w) (R := R) h1 Try.func85 h2 Try.ntmps85 h6 h3 h4 h5 (Eq.mp e h)

/-- slices.choosePivotOrdered[uint64] -/
noncomputable def C77 : Code := (Try.f77.body).getD .skip
def pl77 : Nat → Plan := fun _ => .done
def ls77 : Nat → List (Nat × LT)
  | 6 => [(0, .agg []), (11, (.one (.int .i64)))]
  | _ => []
def W77 (dataa : Option Addr) (datal : Nat) (datac : Nat) (a_ : Int) (b : Int) (w : World) (R : Value → World → Prop) : Prop :=
  (atW (World.alloc w (Obj.cells (Array.mk [Value.int IntKind.i64 0]) 3 (0, 0))) (fun w0 =>
    (((4 : Int) ≠ 0) ∧ (((4 : Int) ≠ 0) ∧ (((4 : Int) ≠ 0) ∧ (∃ z1 : Int → World → Prop, ((ifK (decide (IntKind.wrap IntKind.i64 (b - a_) ≥ 8))
      (ifK (decide (IntKind.wrap IntKind.i64 (b - a_) ≥ 50))
        (Ca Try.prog (85) (Array.mk [Value.slice dataa datal datac, Value.int IntKind.i64 (IntKind.wrap IntKind.i64 (a_ + IntKind.wrap IntKind.i64 (IntKind.wrap IntKind.i64 (Int.tdiv (IntKind.wrap IntKind.i64 (b - a_)) 4) * 1))), Value.pointer (some (Addr.mk (Array.size (World.heap w)) 0 none))]) (w0) (fun v2 => (fun w3 =>
          (∃ x4 : Int, ((v2 = Value.int IntKind.i64 x4) ∧ (Ca Try.prog (85) (Array.mk [Value.slice dataa datal datac, Value.int IntKind.i64 (IntKind.wrap IntKind.i64 (a_ + IntKind.wrap IntKind.i64 (IntKind.wrap IntKind.i64 (Int.tdiv (IntKind.wrap IntKind.i64 (b - a_)) 4) * 2))), Value.pointer (some (Addr.mk (Array.size (World.heap w)) 0 none))]) (w3) (fun v5 => (fun w6 =>
            (∃ x7 : Int, ((v5 = Value.int IntKind.i64 x7) ∧ (Ca Try.prog (85) (Array.mk [Value.slice dataa datal datac, Value.int IntKind.i64 (IntKind.wrap IntKind.i64 (a_ + IntKind.wrap IntKind.i64 (IntKind.wrap IntKind.i64 (Int.tdiv (IntKind.wrap IntKind.i64 (b - a_)) 4) * 3))), Value.pointer (some (Addr.mk (Array.size (World.heap w)) 0 none))]) (w6) (fun v8 => (fun w9 =>
              (∃ x10 : Int, ((v8 = Value.int IntKind.i64 x10) ∧ (Ca Try.prog (86) (Array.mk [Value.slice dataa datal datac, Value.int IntKind.i64 x4, Value.int IntKind.i64 x7, Value.int IntKind.i64 x10, Value.pointer (some (Addr.mk (Array.size (World.heap w)) 0 none))]) (w9) (fun v11 => (fun w12 =>
                (∃ x13 : Int, ((v11 = Value.int IntKind.i64 x13) ∧ (z1 (x13) (w12))))))))))))))))))))))
        (Ca Try.prog (86) (Array.mk [Value.slice dataa datal datac, Value.int IntKind.i64 (IntKind.wrap IntKind.i64 (a_ + IntKind.wrap IntKind.i64 (IntKind.wrap IntKind.i64 (Int.tdiv (IntKind.wrap IntKind.i64 (b - a_)) 4) * 1))), Value.int IntKind.i64 (IntKind.wrap IntKind.i64 (a_ + IntKind.wrap IntKind.i64 (IntKind.wrap IntKind.i64 (Int.tdiv (IntKind.wrap IntKind.i64 (b - a_)) 4) * 2))), Value.int IntKind.i64 (IntKind.wrap IntKind.i64 (a_ + IntKind.wrap IntKind.i64 (IntKind.wrap IntKind.i64 (Int.tdiv (IntKind.wrap IntKind.i64 (b - a_)) 4) * 3))), Value.pointer (some (Addr.mk (Array.size (World.heap w)) 0 none))]) (w0) (fun v14 => (fun w15 =>
          (∃ x16 : Int, ((v14 = Value.int IntKind.i64 x16) ∧ (z1 (x16) (w15))))))))
      (z1 (IntKind.wrap IntKind.i64 (a_ + IntKind.wrap IntKind.i64 (IntKind.wrap IntKind.i64 (Int.tdiv (IntKind.wrap IntKind.i64 (b - a_)) 4) * 2))) (w0))) ∧ (∀ (_ : Nat → Value), (∀ (x18 : Int), (∀ (w19 : World), ((z1 (x18) (w19)) → (∃ x20 : Int, ((World.cell? w19 (Addr.mk (Array.size (World.heap w)) 0 none) = some (Value.int IntKind.i64 x20)) ∧ (ifK (x20 == 0)
      (R (Value.tuple (Array.mk [Value.int IntKind.i64 x18, Value.int IntKind.i64 1])) (w19))
      (ifK (x20 == 12)
        (R (Value.tuple (Array.mk [Value.int IntKind.i64 x18, Value.int IntKind.i64 2])) (w19))
        (R (Value.tuple (Array.mk [Value.int IntKind.i64 x18, Value.int IntKind.i64 0])) (w19)))))))))))))))))
theorem ca77 (dataa : Option Addr) (datal : Nat) (datac : Nat) (a_ : Int) (b : Int) (w : World) (R : Value → World → Prop) (h : W77 dataa datal datac a_ b w R) : Ca Try.prog 77 ⟨[(.slice dataa datal datac), (.int .i64 a_), (.int .i64 b)]⟩ w R := by
  have h1 : Try.prog.follows .mixedOrders = true := by kernel_rfl
  have h2 : Try.f77.body = some C77 := by kernel_rfl
  have h3 : (Try.f77.name == "runtime.NumGoroutine") = false := by kernel_rfl
  have h6 : Try.f77.results.toList = [.tmp 6, .tmp 7] := by kernel_rfl
  have h4 : Nat.ble 3 57 = true := by kernel_rfl
  have h5 : okCode 57 pl77 ls77 C77 0 = true := by kernel_rfl
  have e : W77 dataa datal datac a_ b w R = wpC none Try.prog 57 pl77 ls77 C77 0 (endP Try.prog [.tmp 6, .tmp 7] R) (fr0 [(.slice dataa datal datac), (.int .i64 a_), (.int .i64 b)]) [] w := by kernel_rfl
  exact ca_of' (P := Try.prog) (g := 77) (fn := Try.f77) (c := C77) (m := 57) (rs := [.tmp 6, .tmp 7]) (args := [(.slice dataa datal datac), (.int .i64 a_), (.int .i64 b)]) (pl := pl77) (ls := ls77) (w := w) (R := R) h1 Try.func77 h2 Try.ntmps77 h6 h3 h4 h5 (Eq.mp e h)

/-- slices.reverseRangeOrdered[uint64] -/
noncomputable def C78 : Code := (Try.f78.body).getD .skip
def pl78 : Nat → Plan
  | 3 => (.quiet 0 (.quiet 1 (.quiet 2 (.quiet 3 (.quiet 4 (.quiet 5 (.quiet 6 (.quiet 7 (.quiet 8 (.quiet 9 (.quiet 10 (.quiet 11 (.quiet 12 (.eff 13 [] (.quiet 14 (.eff 15 [] .done))))))))))))))))
  | _ => .done
def ls78 : Nat → List (Nat × LT)
  | 2 => [(6, (.one (.int .i64))), (7, (.one (.int .i64)))]
  | _ => []
def W78 (dataa : Option Addr) (datal : Nat) (_datac : Nat) (a_ : Int) (b : Int) (w : World) (R : Value → World → Prop) : Prop :=
  (∃ z0 : Int → Int → World → Prop, (∃ z1 : Int → Int → World → Nat, ((z0 (a_) (IntKind.wrap IntKind.i64 (b - 1)) (w)) ∧ (∀ (_ : Nat → Value), (∀ (x3 : Int), (∀ (x4 : Int), (∀ (w5 : World), ((z0 (x3) (x4) (w5)) → (ifK (decide (x3 < x4))
    (atW (World.drew w5) (fun w6 =>
      (∃ a7 : Addr, ((dataa = some a7) ∧ (((0 : Int) ≤ x4) ∧ (((x4 : Int) < (↑datal : Int)) ∧ (∃ x8 : Int, ((World.cell? w6 (Addr.add a7 (Int.toNat x4 * 1)) = some (Value.int IntKind.u64 x8)) ∧ (∃ a9 : Addr, ((dataa = some a9) ∧ (((0 : Int) ≤ x3) ∧ (((x3 : Int) < (↑datal : Int)) ∧ (∃ x10 : Int, ((World.cell? w6 (Addr.add a9 (Int.toNat x3 * 1)) = some (Value.int IntKind.u64 x10)) ∧ (∃ a11 : Addr, ((dataa = some a11) ∧ (((0 : Int) ≤ x3) ∧ (((x3 : Int) < (↑datal : Int)) ∧ ((∃ v12 : Value, (World.cell? w6 (Addr.add (Addr.add a11 (Int.toNat x3 * 1)) 0) = some v12)) ∧ ((World.frozen? w6 (Addr.add (Addr.add a11 (Int.toNat x3 * 1)) 0) = false) ∧ (atW (World.setCell w6 (Addr.add (Addr.add a11 (Int.toNat x3 * 1)) 0) (Value.int IntKind.u64 x8)) (fun w13 =>
        (∃ a14 : Addr, ((dataa = some a14) ∧ (((0 : Int) ≤ x4) ∧ (((x4 : Int) < (↑datal : Int)) ∧ ((∃ v15 : Value, (World.cell? w13 (Addr.add (Addr.add a14 (Int.toNat x4 * 1)) 0) = some v15)) ∧ ((World.frozen? w13 (Addr.add (Addr.add a14 (Int.toNat x4 * 1)) 0) = false) ∧ (atW (World.setCell w13 (Addr.add (Addr.add a14 (Int.toNat x4 * 1)) 0) (Value.int IntKind.u64 x10)) (fun w16 =>
          ((z0 (IntKind.wrap IntKind.i64 (x3 + 1)) (IntKind.wrap IntKind.i64 (x4 - 1)) (w16)) ∧ (z1 (IntKind.wrap IntKind.i64 (x3 + 1)) (IntKind.wrap IntKind.i64 (x4 - 1)) w16 < z1 x3 x4 w5))))))))))))))))))))))))))))))))
    (R (Value.tuple (Array.mk (List.reverse []))) (w5)))))))))))
theorem ca78 (dataa : Option Addr) (datal : Nat) (datac : Nat) (a_ : Int) (b : Int) (w : World) (R : Value → World → Prop) (h : W78 dataa datal datac a_ b w R) : Ca Try.prog 78 ⟨[(.slice dataa datal datac), (.int .i64 a_), (.int .i64 b)]⟩ w R := by
  have h1 : Try.prog.follows .mixedOrders = true := by kernel_rfl
  have h2 : Try.f78.body = some C78 := by kernel_rfl
  have h3 : (Try.f78.name == "runtime.NumGoroutine") = false := by kernel_rfl
  have h6 : Try.f78.results.toList = [] := by kernel_rfl
  have h4 : Nat.ble 3 32 = true := by kernel_rfl
  have h5 : okCode 32 pl78 ls78 C78 0 = true := by kernel_rfl
  have e : W78 dataa datal datac a_ b w R = wpC none Try.prog 32 pl78 ls78 C78 0 (endP Try.prog [] R) (fr0 [(.slice dataa datal datac), (.int .i64 a_), (.int .i64 b)]) [] w := by kernel_rfl
  exact ca_of' (P := Try.prog) (g := 78) (fn := Try.f78) (c := C78) (m := 32) (rs := []) (args := [(.slice dataa datal datac), (.int .i64 a_), (.int .i64 b)]) (pl := pl78) (ls := ls78) (w := w) (R := R) h1 Try.func78 h2 Try.ntmps78 h6 h3 h4 h5 (Eq.mp e h)

/-- slices.partitionOrdered[uint64] -/
noncomputable def C82 : Code := (Try.f82.body).getD .skip
def pl82 : Nat → Plan
  | 1 => (.quiet 0 (.quiet 1 (.quiet 2 (.quiet 3 (.quiet 4 (.quiet 5 (.quiet 6 (.quiet 7 (.quiet 8 (.quiet 9 (.quiet 10 (.quiet 11 (.quiet 12 (.eff 13 [] (.quiet 14 (.eff 15 [] .done))))))))))))))))
  | 3 => (.quiet 0 (.quiet 1 (.quiet 2 (.quiet 3 (.quiet 4 (.quiet 5 (.quiet 6 (.quiet 7 (.quiet 8 (.quiet 9 (.quiet 10 (.quiet 11 (.eff 12 [] (.quiet 13 .done))))))))))))))
  | 5 => (.quiet 0 (.quiet 1 (.quiet 2 (.quiet 3 (.quiet 4 (.quiet 5 (.quiet 6 (.quiet 7 (.quiet 8 (.quiet 9 (.quiet 10 (.quiet 11 (.eff 12 [] (.quiet 13 (.quiet 14 .done)))))))))))))))
  | 8 => (.quiet 0 (.quiet 1 (.quiet 2 (.quiet 3 (.quiet 4 (.quiet 5 (.quiet 6 (.quiet 7 (.quiet 8 (.quiet 9 (.quiet 10 (.quiet 11 (.quiet 12 (.eff 13 [] (.quiet 14 (.eff 15 [] .done))))))))))))))))
  | 10 => (.quiet 0 (.quiet 1 (.quiet 2 (.quiet 3 (.quiet 4 (.quiet 5 (.quiet 6 (.quiet 7 (.quiet 8 (.quiet 9 (.quiet 10 (.quiet 11 (.quiet 12 (.eff 13 [] (.quiet 14 (.eff 15 [] .done))))))))))))))))
  | 13 => (.quiet 0 (.quiet 1 (.quiet 2 (.quiet 3 (.quiet 4 (.quiet 5 (.quiet 6 (.quiet 7 (.quiet 8 (.quiet 9 (.quiet 10 (.quiet 11 (.eff 12 [] (.quiet 13 .done))))))))))))))
  | 15 => (.quiet 0 (.quiet 1 (.quiet 2 (.quiet 3 (.quiet 4 (.quiet 5 (.quiet 6 (.quiet 7 (.quiet 8 (.quiet 9 (.quiet 10 (.quiet 11 (.eff 12 [] (.quiet 13 (.quiet 14 .done)))))))))))))))
  | 18 => (.quiet 0 (.quiet 1 (.quiet 2 (.quiet 3 (.quiet 4 (.quiet 5 (.quiet 6 (.quiet 7 (.quiet 8 (.quiet 9 (.quiet 10 (.quiet 11 (.quiet 12 (.eff 13 [] (.quiet 14 (.eff 15 [] .done))))))))))))))))
  | 21 => (.quiet 0 (.quiet 1 (.quiet 2 (.quiet 3 (.quiet 4 (.quiet 5 (.quiet 6 (.quiet 7 (.quiet 8 (.quiet 9 (.quiet 10 (.quiet 11 (.quiet 12 (.eff 13 [] (.quiet 14 (.eff 15 [] .done))))))))))))))))
  | _ => .done
def ls82 : Nat → List (Nat × LT)
  | 3 => [(0, .agg []), (10, (.one (.int .i64)))]
  | 4 => [(10, (.one (.int .i64)))]
  | 7 => [(0, .agg []), (11, (.one (.int .i64)))]
  | 8 => [(11, (.one (.int .i64)))]
  | 19 => [(10, (.one (.int .i64))), (11, (.one (.int .i64)))]
  | 20 => [(0, .agg []), (10, (.one (.int .i64)))]
  | 21 => [(10, (.one (.int .i64)))]
  | 24 => [(0, .agg []), (11, (.one (.int .i64)))]
  | 25 => [(11, (.one (.int .i64)))]
  | _ => []
def W82 (dataa : Option Addr) (datal : Nat) (_datac : Nat) (a_ : Int) (b : Int) (pivot : Int) (w : World) (R : Value → World → Prop) : Prop :=
  (atW (World.drew w) (fun w0 =>
    (∃ a1 : Addr, ((dataa = some a1) ∧ (((0 : Int) ≤ pivot) ∧ (((pivot : Int) < (↑datal : Int)) ∧ (∃ x2 : Int, ((World.cell? w0 (Addr.add a1 (Int.toNat pivot * 1)) = some (Value.int IntKind.u64 x2)) ∧ (∃ a3 : Addr, ((dataa = some a3) ∧ (((0 : Int) ≤ a_) ∧ (((a_ : Int) < (↑datal : Int)) ∧ (∃ x4 : Int, ((World.cell? w0 (Addr.add a3 (Int.toNat a_ * 1)) = some (Value.int IntKind.u64 x4)) ∧ (∃ a5 : Addr, ((dataa = some a5) ∧ (((0 : Int) ≤ a_) ∧ (((a_ : Int) < (↑datal : Int)) ∧ ((∃ v6 : Value, (World.cell? w0 (Addr.add (Addr.add a5 (Int.toNat a_ * 1)) 0) = some v6)) ∧ ((World.frozen? w0 (Addr.add (Addr.add a5 (Int.toNat a_ * 1)) 0) = false) ∧ (atW (World.setCell w0 (Addr.add (Addr.add a5 (Int.toNat a_ * 1)) 0) (Value.int IntKind.u64 x2)) (fun w7 =>
      (∃ a8 : Addr, ((dataa = some a8) ∧ (((0 : Int) ≤ pivot) ∧ (((pivot : Int) < (↑datal : Int)) ∧ ((∃ v9 : Value, (World.cell? w7 (Addr.add (Addr.add a8 (Int.toNat pivot * 1)) 0) = some v9)) ∧ ((World.frozen? w7 (Addr.add (Addr.add a8 (Int.toNat pivot * 1)) 0) = false) ∧ (atW (World.setCell w7 (Addr.add (Addr.add a8 (Int.toNat pivot * 1)) 0) (Value.int IntKind.u64 x4)) (fun w10 =>
        (∃ z11 : Int → World → Prop, ((∃ z12 : Int → World → Prop, (∃ z13 : Int → World → Nat, ((z12 (IntKind.wrap IntKind.i64 (a_ + 1)) (w10)) ∧ (∀ (_ : Nat → Value), (∀ (x15 : Int), (∀ (w16 : World), ((z12 (x15) (w16)) → (atW (World.drew w16) (fun w17 =>
          (ifK (decide (x15 ≤ IntKind.wrap IntKind.i64 (b - 1)))
            (∃ a18 : Addr, ((dataa = some a18) ∧ (((0 : Int) ≤ x15) ∧ (((x15 : Int) < (↑datal : Int)) ∧ (∃ x19 : Int, ((World.cell? w17 (Addr.add a18 (Int.toNat x15 * 1)) = some (Value.int IntKind.u64 x19)) ∧ (∃ a20 : Addr, ((dataa = some a20) ∧ (((0 : Int) ≤ a_) ∧ (((a_ : Int) < (↑datal : Int)) ∧ (∃ x21 : Int, ((World.cell? w17 (Addr.add a20 (Int.toNat a_ * 1)) = some (Value.int IntKind.u64 x21)) ∧ (Ca Try.prog (80) (Array.mk [Value.int IntKind.u64 x19, Value.int IntKind.u64 x21]) (w17) (fun v22 => (fun w23 =>
              (∃ b24 : Bool, ((v22 = Value.bool b24) ∧ (ifK (b24)
                ((z12 (IntKind.wrap IntKind.i64 (x15 + 1)) (w23)) ∧ (z13 (IntKind.wrap IntKind.i64 (x15 + 1)) w23 < z13 x15 w16))
                (z11 (x15) (w23))))))))))))))))))))
            (z11 (x15) (w17)))))))))))) ∧ (∀ (_ : Nat → Value), (∀ (x26 : Int), (∀ (w27 : World), ((z11 (x26) (w27)) → (∃ z28 : Int → World → Prop, ((∃ z29 : Int → World → Prop, (∃ z30 : Int → World → Nat, ((z29 (IntKind.wrap IntKind.i64 (b - 1)) (w27)) ∧ (∀ (_ : Nat → Value), (∀ (x32 : Int), (∀ (w33 : World), ((z29 (x32) (w33)) → (atW (World.drew w33) (fun w34 =>
          (ifK (decide (x26 ≤ x32))
            (∃ a35 : Addr, ((dataa = some a35) ∧ (((0 : Int) ≤ x32) ∧ (((x32 : Int) < (↑datal : Int)) ∧ (∃ x36 : Int, ((World.cell? w34 (Addr.add a35 (Int.toNat x32 * 1)) = some (Value.int IntKind.u64 x36)) ∧ (∃ a37 : Addr, ((dataa = some a37) ∧ (((0 : Int) ≤ a_) ∧ (((a_ : Int) < (↑datal : Int)) ∧ (∃ x38 : Int, ((World.cell? w34 (Addr.add a37 (Int.toNat a_ * 1)) = some (Value.int IntKind.u64 x38)) ∧ (Ca Try.prog (80) (Array.mk [Value.int IntKind.u64 x36, Value.int IntKind.u64 x38]) (w34) (fun v39 => (fun w40 =>
              (∃ b41 : Bool, ((v39 = Value.bool b41) ∧ (ifK (!b41)
                ((z29 (IntKind.wrap IntKind.i64 (x32 - 1)) (w40)) ∧ (z30 (IntKind.wrap IntKind.i64 (x32 - 1)) w40 < z30 x32 w33))
                (z28 (x32) (w40))))))))))))))))))))
            (z28 (x32) (w34)))))))))))) ∧ (∀ (_ : Nat → Value), (∀ (x43 : Int), (∀ (w44 : World), ((z28 (x43) (w44)) → (ifK (decide (x26 > x43))
          (atW (World.drew w44) (fun w45 =>
            (∃ a46 : Addr, ((dataa = some a46) ∧ (((0 : Int) ≤ a_) ∧ (((a_ : Int) < (↑datal : Int)) ∧ (∃ x47 : Int, ((World.cell? w45 (Addr.add a46 (Int.toNat a_ * 1)) = some (Value.int IntKind.u64 x47)) ∧ (∃ a48 : Addr, ((dataa = some a48) ∧ (((0 : Int) ≤ x43) ∧ (((x43 : Int) < (↑datal : Int)) ∧ (∃ x49 : Int, ((World.cell? w45 (Addr.add a48 (Int.toNat x43 * 1)) = some (Value.int IntKind.u64 x49)) ∧ (∃ a50 : Addr, ((dataa = some a50) ∧ (((0 : Int) ≤ x43) ∧ (((x43 : Int) < (↑datal : Int)) ∧ ((∃ v51 : Value, (World.cell? w45 (Addr.add (Addr.add a50 (Int.toNat x43 * 1)) 0) = some v51)) ∧ ((World.frozen? w45 (Addr.add (Addr.add a50 (Int.toNat x43 * 1)) 0) = false) ∧ (atW (World.setCell w45 (Addr.add (Addr.add a50 (Int.toNat x43 * 1)) 0) (Value.int IntKind.u64 x47)) (fun w52 =>
              (∃ a53 : Addr, ((dataa = some a53) ∧ (((0 : Int) ≤ a_) ∧ (((a_ : Int) < (↑datal : Int)) ∧ ((∃ v54 : Value, (World.cell? w52 (Addr.add (Addr.add a53 (Int.toNat a_ * 1)) 0) = some v54)) ∧ ((World.frozen? w52 (Addr.add (Addr.add a53 (Int.toNat a_ * 1)) 0) = false) ∧ (atW (World.setCell w52 (Addr.add (Addr.add a53 (Int.toNat a_ * 1)) 0) (Value.int IntKind.u64 x49)) (fun w55 =>
                (R (Value.tuple (Array.mk [Value.int IntKind.i64 x43, Value.bool true])) (w55))))))))))))))))))))))))))))))))
          (atW (World.drew w44) (fun w56 =>
            (∃ a57 : Addr, ((dataa = some a57) ∧ (((0 : Int) ≤ x43) ∧ (((x43 : Int) < (↑datal : Int)) ∧ (∃ x58 : Int, ((World.cell? w56 (Addr.add a57 (Int.toNat x43 * 1)) = some (Value.int IntKind.u64 x58)) ∧ (∃ a59 : Addr, ((dataa = some a59) ∧ (((0 : Int) ≤ x26) ∧ (((x26 : Int) < (↑datal : Int)) ∧ (∃ x60 : Int, ((World.cell? w56 (Addr.add a59 (Int.toNat x26 * 1)) = some (Value.int IntKind.u64 x60)) ∧ (∃ a61 : Addr, ((dataa = some a61) ∧ (((0 : Int) ≤ x26) ∧ (((x26 : Int) < (↑datal : Int)) ∧ ((∃ v62 : Value, (World.cell? w56 (Addr.add (Addr.add a61 (Int.toNat x26 * 1)) 0) = some v62)) ∧ ((World.frozen? w56 (Addr.add (Addr.add a61 (Int.toNat x26 * 1)) 0) = false) ∧ (atW (World.setCell w56 (Addr.add (Addr.add a61 (Int.toNat x26 * 1)) 0) (Value.int IntKind.u64 x58)) (fun w63 =>
              (∃ a64 : Addr, ((dataa = some a64) ∧ (((0 : Int) ≤ x43) ∧ (((x43 : Int) < (↑datal : Int)) ∧ ((∃ v65 : Value, (World.cell? w63 (Addr.add (Addr.add a64 (Int.toNat x43 * 1)) 0) = some v65)) ∧ ((World.frozen? w63 (Addr.add (Addr.add a64 (Int.toNat x43 * 1)) 0) = false) ∧ (atW (World.setCell w63 (Addr.add (Addr.add a64 (Int.toNat x43 * 1)) 0) (Value.int IntKind.u64 x60)) (fun w66 =>
                (∃ z67 : Int → Int → World → Prop, (∃ z68 : Int → Int → World → Nat, ((z67 (IntKind.wrap IntKind.i64 (x26 + 1)) (IntKind.wrap IntKind.i64 (x43 - 1)) (w66)) ∧ (∀ (_ : Nat → Value), (∀ (x70 : Int), (∀ (x71 : Int), (∀ (w72 : World), ((z67 (x70) (x71) (w72)) → (∃ z73 : Int → World → Prop, ((∃ z74 : Int → World → Prop, (∃ z75 : Int → World → Nat, ((z74 (x70) (w72)) ∧ (∀ (_ : Nat → Value), (∀ (x77 : Int), (∀ (w78 : World), ((z74 (x77) (w78)) → (atW (World.drew w78) (fun w79 =>
                  (ifK (decide (x77 ≤ x71))
                    (∃ a80 : Addr, ((dataa = some a80) ∧ (((0 : Int) ≤ x77) ∧ (((x77 : Int) < (↑datal : Int)) ∧ (∃ x81 : Int, ((World.cell? w79 (Addr.add a80 (Int.toNat x77 * 1)) = some (Value.int IntKind.u64 x81)) ∧ (∃ a82 : Addr, ((dataa = some a82) ∧ (((0 : Int) ≤ a_) ∧ (((a_ : Int) < (↑datal : Int)) ∧ (∃ x83 : Int, ((World.cell? w79 (Addr.add a82 (Int.toNat a_ * 1)) = some (Value.int IntKind.u64 x83)) ∧ (Ca Try.prog (80) (Array.mk [Value.int IntKind.u64 x81, Value.int IntKind.u64 x83]) (w79) (fun v84 => (fun w85 =>
                      (∃ b86 : Bool, ((v84 = Value.bool b86) ∧ (ifK (b86)
                        ((z74 (IntKind.wrap IntKind.i64 (x77 + 1)) (w85)) ∧ (z75 (IntKind.wrap IntKind.i64 (x77 + 1)) w85 < z75 x77 w78))
                        (z73 (x77) (w85))))))))))))))))))))
                    (z73 (x77) (w79)))))))))))) ∧ (∀ (_ : Nat → Value), (∀ (x88 : Int), (∀ (w89 : World), ((z73 (x88) (w89)) → (∃ z90 : Int → World → Prop, ((∃ z91 : Int → World → Prop, (∃ z92 : Int → World → Nat, ((z91 (x71) (w89)) ∧ (∀ (_ : Nat → Value), (∀ (x94 : Int), (∀ (w95 : World), ((z91 (x94) (w95)) → (atW (World.drew w95) (fun w96 =>
                  (ifK (decide (x88 ≤ x94))
                    (∃ a97 : Addr, ((dataa = some a97) ∧ (((0 : Int) ≤ x94) ∧ (((x94 : Int) < (↑datal : Int)) ∧ (∃ x98 : Int, ((World.cell? w96 (Addr.add a97 (Int.toNat x94 * 1)) = some (Value.int IntKind.u64 x98)) ∧ (∃ a99 : Addr, ((dataa = some a99) ∧ (((0 : Int) ≤ a_) ∧ (((a_ : Int) < (↑datal : Int)) ∧ (∃ x100 : Int, ((World.cell? w96 (Addr.add a99 (Int.toNat a_ * 1)) = some (Value.int IntKind.u64 x100)) ∧ (Ca Try.prog (80) (Array.mk [Value.int IntKind.u64 x98, Value.int IntKind.u64 x100]) (w96) (fun v101 => (fun w102 =>
                      (∃ b103 : Bool, ((v101 = Value.bool b103) ∧ (ifK (!b103)
                        ((z91 (IntKind.wrap IntKind.i64 (x94 - 1)) (w102)) ∧ (z92 (IntKind.wrap IntKind.i64 (x94 - 1)) w102 < z92 x94 w95))
                        (z90 (x94) (w102))))))))))))))))))))
                    (z90 (x94) (w96)))))))))))) ∧ (∀ (_ : Nat → Value), (∀ (x105 : Int), (∀ (w106 : World), ((z90 (x105) (w106)) → (ifK (decide (x88 > x105))
                  (atW (World.drew w106) (fun w107 =>
                    (∃ a108 : Addr, ((dataa = some a108) ∧ (((0 : Int) ≤ a_) ∧ (((a_ : Int) < (↑datal : Int)) ∧ (∃ x109 : Int, ((World.cell? w107 (Addr.add a108 (Int.toNat a_ * 1)) = some (Value.int IntKind.u64 x109)) ∧ (∃ a110 : Addr, ((dataa = some a110) ∧ (((0 : Int) ≤ x105) ∧ (((x105 : Int) < (↑datal : Int)) ∧ (∃ x111 : Int, ((World.cell? w107 (Addr.add a110 (Int.toNat x105 * 1)) = some (Value.int IntKind.u64 x111)) ∧ (∃ a112 : Addr, ((dataa = some a112) ∧ (((0 : Int) ≤ x105) ∧ (((x105 : Int) < (↑datal : Int)) ∧ ((∃ v113 : Value, (World.cell? w107 (Addr.add (Addr.add a112 (Int.toNat x105 * 1)) 0) = some v113)) ∧ ((World.frozen? w107 (Addr.add (Addr.add a112 (Int.toNat x105 * 1)) 0) = false) ∧ (atW (World.setCell w107 (Addr.add (Addr.add a112 (Int.toNat x105 * 1)) 0) (Value.int IntKind.u64 x109)) (fun w114 =>
                      (∃ a115 : Addr, ((dataa = some a115) ∧ (((0 : Int) ≤ a_) ∧ (((a_ : Int) < (↑datal : Int)) ∧ ((∃ v116 : Value, (World.cell? w114 (Addr.add (Addr.add a115 (Int.toNat a_ * 1)) 0) = some v116)) ∧ ((World.frozen? w114 (Addr.add (Addr.add a115 (Int.toNat a_ * 1)) 0) = false) ∧ (atW (World.setCell w114 (Addr.add (Addr.add a115 (Int.toNat a_ * 1)) 0) (Value.int IntKind.u64 x111)) (fun w117 =>
                        (R (Value.tuple (Array.mk [Value.int IntKind.i64 x105, Value.bool false])) (w117))))))))))))))))))))))))))))))))
                  (atW (World.drew w106) (fun w118 =>
                    (∃ a119 : Addr, ((dataa = some a119) ∧ (((0 : Int) ≤ x105) ∧ (((x105 : Int) < (↑datal : Int)) ∧ (∃ x120 : Int, ((World.cell? w118 (Addr.add a119 (Int.toNat x105 * 1)) = some (Value.int IntKind.u64 x120)) ∧ (∃ a121 : Addr, ((dataa = some a121) ∧ (((0 : Int) ≤ x88) ∧ (((x88 : Int) < (↑datal : Int)) ∧ (∃ x122 : Int, ((World.cell? w118 (Addr.add a121 (Int.toNat x88 * 1)) = some (Value.int IntKind.u64 x122)) ∧ (∃ a123 : Addr, ((dataa = some a123) ∧ (((0 : Int) ≤ x88) ∧ (((x88 : Int) < (↑datal : Int)) ∧ ((∃ v124 : Value, (World.cell? w118 (Addr.add (Addr.add a123 (Int.toNat x88 * 1)) 0) = some v124)) ∧ ((World.frozen? w118 (Addr.add (Addr.add a123 (Int.toNat x88 * 1)) 0) = false) ∧ (atW (World.setCell w118 (Addr.add (Addr.add a123 (Int.toNat x88 * 1)) 0) (Value.int IntKind.u64 x120)) (fun w125 =>
                      (∃ a126 : Addr, ((dataa = some a126) ∧ (((0 : Int) ≤ x105) ∧ (((x105 : Int) < (↑datal : Int)) ∧ ((∃ v127 : Value, (World.cell? w125 (Addr.add (Addr.add a126 (Int.toNat x105 * 1)) 0) = some v127)) ∧ ((World.frozen? w125 (Addr.add (Addr.add a126 (Int.toNat x105 * 1)) 0) = false) ∧ (atW (World.setCell w125 (Addr.add (Addr.add a126 (Int.toNat x105 * 1)) 0) (Value.int IntKind.u64 x122)) (fun w128 =>
                        ((z67 (IntKind.wrap IntKind.i64 (x88 + 1)) (IntKind.wrap IntKind.i64 (x105 - 1)) (w128)) ∧ (z68 (IntKind.wrap IntKind.i64 (x88 + 1)) (IntKind.wrap IntKind.i64 (x105 - 1)) w128 < z68 x70 x71 w72))))))))))))))))))))))))))))))))))))))))))))))))))))))))))))))))))))))))))))))))))))))))))))))))))))))))))))))))))))))))))))))
theorem ca82 (dataa : Option Addr) (datal : Nat) (datac : Nat) (a_ : Int) (b : Int) (pivot : Int) (w : World) (R : Value → World → Prop) (h : W82 dataa datal datac a_ b pivot w R) : Ca Try.prog 82 ⟨[(.slice dataa datal datac), (.int .i64 a_), (.int .i64 b), (.int .i64 pivot)]⟩ w R := by
  have h1 : Try.prog.follows .mixedOrders = true := by kernel_rfl
  have h2 : Try.f82.body = some C82 := by kernel_rfl
  have h3 : (Try.f82.name == "runtime.NumGoroutine") = false := by kernel_rfl
  have h6 : Try.f82.results.toList = [.tmp 8, .tmp 9] := by kernel_rfl
  have h4 : Nat.ble 4 168 = true := by kernel_rfl
  have h5 : okCode 168 pl82 ls82 C82 0 = true := by kernel_rfl
  have e : W82 dataa datal datac a_ b pivot w R = wpC none Try.prog 168 pl82 ls82 C82 0 (endP Try.prog [.tmp 8, .tmp 9] R) (fr0 [(.slice dataa datal datac), (.int .i64 a_), (.int .i64 b), (.int .i64 pivot)]) [] w := by kernel_rfl
  exact ca_of' (P := Try.prog) (g := 82) (fn := Try.f82) (c := C82) (m := 168) (rs := [.tmp 8, .tmp 9]) (args := [(.slice dataa datal datac), (.int .i64 a_), (.int .i64 b), (.int .i64 pivot)]) (pl := pl82) (ls := ls82) (w := w) (R := R) h1 Try.func82 h2 Try.ntmps82 h6 h3 h4 h5 (Eq.mp e h)

/-- slices.partitionEqualOrdered[uint64] -/
noncomputable def C81 : Code := (Try.f81.body).getD .skip
def pl81 : Nat → Plan
  | 1 => (.quiet 0 (.quiet 1 (.quiet 2 (.quiet 3 (.quiet 4 (.quiet 5 (.quiet 6 (.quiet 7 (.quiet 8 (.quiet 9 (.quiet 10 (.quiet 11 (.quiet 12 (.eff 13 [] (.quiet 14 (.eff 15 [] .done))))))))))))))))
  | 3 => (.quiet 0 (.quiet 1 (.quiet 2 (.quiet 3 (.quiet 4 (.quiet 5 (.quiet 6 (.quiet 7 (.quiet 8 (.quiet 9 (.quiet 10 (.quiet 11 (.eff 12 [] (.quiet 13 (.quiet 14 .done)))))))))))))))
  | 5 => (.quiet 0 (.quiet 1 (.quiet 2 (.quiet 3 (.quiet 4 (.quiet 5 (.quiet 6 (.quiet 7 (.quiet 8 (.quiet 9 (.quiet 10 (.quiet 11 (.eff 12 [] (.quiet 13 .done))))))))))))))
  | 8 => (.quiet 0 (.quiet 1 (.quiet 2 (.quiet 3 (.quiet 4 (.quiet 5 (.quiet 6 (.quiet 7 (.quiet 8 (.quiet 9 (.quiet 10 (.quiet 11 (.quiet 12 (.eff 13 [] (.quiet 14 (.eff 15 [] .done))))))))))))))))
  | _ => .done
def ls81 : Nat → List (Nat × LT)
  | 4 => [(9, (.one (.int .i64))), (10, (.one (.int .i64)))]
  | 5 => [(0, .agg []), (9, (.one (.int .i64)))]
  | 6 => [(9, (.one (.int .i64)))]
  | 9 => [(0, .agg []), (10, (.one (.int .i64)))]
  | 10 => [(10, (.one (.int .i64)))]
  | _ => []
def W81 (dataa : Option Addr) (datal : Nat) (_datac : Nat) (a_ : Int) (b : Int) (pivot : Int) (w : World) (R : Value → World → Prop) : Prop :=
  (atW (World.drew w) (fun w0 =>
    (∃ a1 : Addr, ((dataa = some a1) ∧ (((0 : Int) ≤ pivot) ∧ (((pivot : Int) < (↑datal : Int)) ∧ (∃ x2 : Int, ((World.cell? w0 (Addr.add a1 (Int.toNat pivot * 1)) = some (Value.int IntKind.u64 x2)) ∧ (∃ a3 : Addr, ((dataa = some a3) ∧ (((0 : Int) ≤ a_) ∧ (((a_ : Int) < (↑datal : Int)) ∧ (∃ x4 : Int, ((World.cell? w0 (Addr.add a3 (Int.toNat a_ * 1)) = some (Value.int IntKind.u64 x4)) ∧ (∃ a5 : Addr, ((dataa = some a5) ∧ (((0 : Int) ≤ a_) ∧ (((a_ : Int) < (↑datal : Int)) ∧ ((∃ v6 : Value, (World.cell? w0 (Addr.add (Addr.add a5 (Int.toNat a_ * 1)) 0) = some v6)) ∧ ((World.frozen? w0 (Addr.add (Addr.add a5 (Int.toNat a_ * 1)) 0) = false) ∧ (atW (World.setCell w0 (Addr.add (Addr.add a5 (Int.toNat a_ * 1)) 0) (Value.int IntKind.u64 x2)) (fun w7 =>
      (∃ a8 : Addr, ((dataa = some a8) ∧ (((0 : Int) ≤ pivot) ∧ (((pivot : Int) < (↑datal : Int)) ∧ ((∃ v9 : Value, (World.cell? w7 (Addr.add (Addr.add a8 (Int.toNat pivot * 1)) 0) = some v9)) ∧ ((World.frozen? w7 (Addr.add (Addr.add a8 (Int.toNat pivot * 1)) 0) = false) ∧ (atW (World.setCell w7 (Addr.add (Addr.add a8 (Int.toNat pivot * 1)) 0) (Value.int IntKind.u64 x4)) (fun w10 =>
        (∃ z11 : Int → Int → World → Prop, (∃ z12 : Int → Int → World → Nat, ((z11 (IntKind.wrap IntKind.i64 (a_ + 1)) (IntKind.wrap IntKind.i64 (b - 1)) (w10)) ∧ (∀ (_ : Nat → Value), (∀ (x14 : Int), (∀ (x15 : Int), (∀ (w16 : World), ((z11 (x14) (x15) (w16)) → (∃ z17 : Int → World → Prop, ((∃ z18 : Int → World → Prop, (∃ z19 : Int → World → Nat, ((z18 (x14) (w16)) ∧ (∀ (_ : Nat → Value), (∀ (x21 : Int), (∀ (w22 : World), ((z18 (x21) (w22)) → (atW (World.drew w22) (fun w23 =>
          (ifK (decide (x21 ≤ x15))
            (∃ a24 : Addr, ((dataa = some a24) ∧ (((0 : Int) ≤ a_) ∧ (((a_ : Int) < (↑datal : Int)) ∧ (∃ x25 : Int, ((World.cell? w23 (Addr.add a24 (Int.toNat a_ * 1)) = some (Value.int IntKind.u64 x25)) ∧ (∃ a26 : Addr, ((dataa = some a26) ∧ (((0 : Int) ≤ x21) ∧ (((x21 : Int) < (↑datal : Int)) ∧ (∃ x27 : Int, ((World.cell? w23 (Addr.add a26 (Int.toNat x21 * 1)) = some (Value.int IntKind.u64 x27)) ∧ (Ca Try.prog (80) (Array.mk [Value.int IntKind.u64 x25, Value.int IntKind.u64 x27]) (w23) (fun v28 => (fun w29 =>
              (∃ b30 : Bool, ((v28 = Value.bool b30) ∧ (ifK (!b30)
                ((z18 (IntKind.wrap IntKind.i64 (x21 + 1)) (w29)) ∧ (z19 (IntKind.wrap IntKind.i64 (x21 + 1)) w29 < z19 x21 w22))
                (z17 (x21) (w29))))))))))))))))))))
            (z17 (x21) (w23)))))))))))) ∧ (∀ (_ : Nat → Value), (∀ (x32 : Int), (∀ (w33 : World), ((z17 (x32) (w33)) → (∃ z34 : Int → World → Prop, ((∃ z35 : Int → World → Prop, (∃ z36 : Int → World → Nat, ((z35 (x15) (w33)) ∧ (∀ (_ : Nat → Value), (∀ (x38 : Int), (∀ (w39 : World), ((z35 (x38) (w39)) → (atW (World.drew w39) (fun w40 =>
          (ifK (decide (x32 ≤ x38))
            (∃ a41 : Addr, ((dataa = some a41) ∧ (((0 : Int) ≤ a_) ∧ (((a_ : Int) < (↑datal : Int)) ∧ (∃ x42 : Int, ((World.cell? w40 (Addr.add a41 (Int.toNat a_ * 1)) = some (Value.int IntKind.u64 x42)) ∧ (∃ a43 : Addr, ((dataa = some a43) ∧ (((0 : Int) ≤ x38) ∧ (((x38 : Int) < (↑datal : Int)) ∧ (∃ x44 : Int, ((World.cell? w40 (Addr.add a43 (Int.toNat x38 * 1)) = some (Value.int IntKind.u64 x44)) ∧ (Ca Try.prog (80) (Array.mk [Value.int IntKind.u64 x42, Value.int IntKind.u64 x44]) (w40) (fun v45 => (fun w46 =>
              (∃ b47 : Bool, ((v45 = Value.bool b47) ∧ (ifK (b47)
                ((z35 (IntKind.wrap IntKind.i64 (x38 - 1)) (w46)) ∧ (z36 (IntKind.wrap IntKind.i64 (x38 - 1)) w46 < z36 x38 w39))
                (z34 (x38) (w46))))))))))))))))))))
            (z34 (x38) (w40)))))))))))) ∧ (∀ (_ : Nat → Value), (∀ (x49 : Int), (∀ (w50 : World), ((z34 (x49) (w50)) → (ifK (decide (x32 > x49))
          (R (Value.int IntKind.i64 x32) (w50))
          (atW (World.drew w50) (fun w51 =>
            (∃ a52 : Addr, ((dataa = some a52) ∧ (((0 : Int) ≤ x49) ∧ (((x49 : Int) < (↑datal : Int)) ∧ (∃ x53 : Int, ((World.cell? w51 (Addr.add a52 (Int.toNat x49 * 1)) = some (Value.int IntKind.u64 x53)) ∧ (∃ a54 : Addr, ((dataa = some a54) ∧ (((0 : Int) ≤ x32) ∧ (((x32 : Int) < (↑datal : Int)) ∧ (∃ x55 : Int, ((World.cell? w51 (Addr.add a54 (Int.toNat x32 * 1)) = some (Value.int IntKind.u64 x55)) ∧ (∃ a56 : Addr, ((dataa = some a56) ∧ (((0 : Int) ≤ x32) ∧ (((x32 : Int) < (↑datal : Int)) ∧ ((∃ v57 : Value, (World.cell? w51 (Addr.add (Addr.add a56 (Int.toNat x32 * 1)) 0) = some v57)) ∧ ((World.frozen? w51 (Addr.add (Addr.add a56 (Int.toNat x32 * 1)) 0) = false) ∧ (atW (World.setCell w51 (Addr.add (Addr.add a56 (Int.toNat x32 * 1)) 0) (Value.int IntKind.u64 x53)) (fun w58 =>
              (∃ a59 : Addr, ((dataa = some a59) ∧ (((0 : Int) ≤ x49) ∧ (((x49 : Int) < (↑datal : Int)) ∧ ((∃ v60 : Value, (World.cell? w58 (Addr.add (Addr.add a59 (Int.toNat x49 * 1)) 0) = some v60)) ∧ ((World.frozen? w58 (Addr.add (Addr.add a59 (Int.toNat x49 * 1)) 0) = false) ∧ (atW (World.setCell w58 (Addr.add (Addr.add a59 (Int.toNat x49 * 1)) 0) (Value.int IntKind.u64 x55)) (fun w61 =>
                ((z11 (IntKind.wrap IntKind.i64 (x32 + 1)) (IntKind.wrap IntKind.i64 (x49 - 1)) (w61)) ∧ (z12 (IntKind.wrap IntKind.i64 (x32 + 1)) (IntKind.wrap IntKind.i64 (x49 - 1)) w61 < z12 x14 x15 w16)))))))))))))))))))))))))))))))))))))))))))))))))))))))))))))))))))))))))))))))))))
theorem ca81 (dataa : Option Addr) (datal : Nat) (datac : Nat) (a_ : Int) (b : Int) (pivot : Int) (w : World) (R : Value → World → Prop) (h : W81 dataa datal datac a_ b pivot w R) : Ca Try.prog 81 ⟨[(.slice dataa datal datac), (.int .i64 a_), (.int .i64 b), (.int .i64 pivot)]⟩ w R := by
  have h1 : Try.prog.follows .mixedOrders = true := by kernel_rfl
  have h2 : Try.f81.body = some C81 := by kernel_rfl
  have h3 : (Try.f81.name == "runtime.NumGoroutine") = false := by kernel_rfl
  have h6 : Try.f81.results.toList = [.tmp 8] := by kernel_rfl
  have h4 : Nat.ble 4 84 = true := by kernel_rfl
  have h5 : okCode 84 pl81 ls81 C81 0 = true := by kernel_rfl
  have e : W81 dataa datal datac a_ b pivot w R = wpC none Try.prog 84 pl81 ls81 C81 0 (endP Try.prog [.tmp 8] R) (fr0 [(.slice dataa datal datac), (.int .i64 a_), (.int .i64 b), (.int .i64 pivot)]) [] w := by kernel_rfl
  exact ca_of' (P := Try.prog) (g := 81) (fn := Try.f81) (c := C81) (m := 84) (rs := [.tmp 8]) (args := [(.slice dataa datal datac), (.int .i64 a_), (.int .i64 b), (.int .i64 pivot)]) (pl := pl81) (ls := ls81) (w := w) (R := R) h1 Try.func81 h2 Try.ntmps81 h6 h3 h4 h5 (Eq.mp e h)

/-- slices.siftDownOrdered[uint64] -/
noncomputable def C84 : Code := (Try.f84.body).getD .skip
def pl84 : Nat → Plan
  | 3 => (.quiet 0 (.quiet 1 (.quiet 2 (.quiet 3 (.quiet 4 (.quiet 5 (.quiet 6 (.quiet 7 (.quiet 8 (.quiet 9 (.quiet 10 (.quiet 11 (.quiet 12 (.quiet 13 (.quiet 14 (.quiet 15 (.quiet 16 (.quiet 17 (.eff 18 [] (.quiet 19 .done))))))))))))))))))))
  | 5 => (.quiet 0 (.quiet 1 (.quiet 2 (.quiet 3 (.quiet 4 (.quiet 5 (.quiet 6 (.quiet 7 (.quiet 8 (.quiet 9 (.quiet 10 (.quiet 11 (.eff 12 [] (.quiet 13 .done))))))))))))))
  | 6 => (.quiet 0 (.quiet 1 (.quiet 2 (.quiet 3 (.quiet 4 (.quiet 5 (.quiet 6 (.quiet 7 (.quiet 8 (.quiet 9 (.quiet 10 (.quiet 11 (.quiet 12 (.quiet 13 (.quiet 14 (.quiet 15 (.quiet 16 (.quiet 17 (.quiet 18 (.quiet 19 (.quiet 20 (.eff 21 [] (.quiet 22 (.eff 23 [] .done))))))))))))))))))))))))
  | _ => .done
def ls84 : Nat → List (Nat × LT)
  | 1 => [(8, (.one (.int .i64)))]
  | 5 => [(0, .agg []), (9, (.one (.int .i64)))]
  | _ => []
def W84 (dataa : Option Addr) (datal : Nat) (_datac : Nat) (lo : Int) (hi : Int) (first : Int) (w : World) (R : Value → World → Prop) : Prop :=
  (∃ z0 : Int → World → Prop, (∃ z1 : Int → World → Nat, ((z0 (lo) (w)) ∧ (∀ (_ : Nat → Value), (∀ (x3 : Int), (∀ (w4 : World), ((z0 (x3) (w4)) → (ifK (decide (IntKind.wrap IntKind.i64 (IntKind.wrap IntKind.i64 (2 * x3) + 1) ≥ hi))
    (R (Value.tuple (Array.mk (List.reverse []))) (w4))
    (∃ z5 : Int → World → Prop, ((atW (World.drew w4) (fun w6 =>
      (ifK (decide (IntKind.wrap IntKind.i64 (IntKind.wrap IntKind.i64 (IntKind.wrap IntKind.i64 (2 * x3) + 1) + 1) < hi))
        (∃ a7 : Addr, ((dataa = some a7) ∧ (((0 : Int) ≤ IntKind.wrap IntKind.i64 (first + IntKind.wrap IntKind.i64 (IntKind.wrap IntKind.i64 (2 * x3) + 1))) ∧ (((IntKind.wrap IntKind.i64 (first + IntKind.wrap IntKind.i64 (IntKind.wrap IntKind.i64 (2 * x3) + 1)) : Int) < (↑datal : Int)) ∧ (∃ x8 : Int, ((World.cell? w6 (Addr.add a7 (Int.toNat (IntKind.wrap IntKind.i64 (first + IntKind.wrap IntKind.i64 (IntKind.wrap IntKind.i64 (2 * x3) + 1))) * 1)) = some (Value.int IntKind.u64 x8)) ∧ (∃ a9 : Addr, ((dataa = some a9) ∧ (((0 : Int) ≤ IntKind.wrap IntKind.i64 (IntKind.wrap IntKind.i64 (first + IntKind.wrap IntKind.i64 (IntKind.wrap IntKind.i64 (2 * x3) + 1)) + 1)) ∧ (((IntKind.wrap IntKind.i64 (IntKind.wrap IntKind.i64 (first + IntKind.wrap IntKind.i64 (IntKind.wrap IntKind.i64 (2 * x3) + 1)) + 1) : Int) < (↑datal : Int)) ∧ (∃ x10 : Int, ((World.cell? w6 (Addr.add a9 (Int.toNat (IntKind.wrap IntKind.i64 (IntKind.wrap IntKind.i64 (first + IntKind.wrap IntKind.i64 (IntKind.wrap IntKind.i64 (2 * x3) + 1)) + 1)) * 1)) = some (Value.int IntKind.u64 x10)) ∧ (Ca Try.prog (80) (Array.mk [Value.int IntKind.u64 x8, Value.int IntKind.u64 x10]) (w6) (fun v11 => (fun w12 =>
          (∃ b13 : Bool, ((v11 = Value.bool b13) ∧ (ifK (b13)
            (z5 (IntKind.wrap IntKind.i64 (IntKind.wrap IntKind.i64 (IntKind.wrap IntKind.i64 (2 * x3) + 1) + 1)) (w12))
            (z5 (IntKind.wrap IntKind.i64 (IntKind.wrap IntKind.i64 (2 * x3) + 1)) (w12))))))))))))))))))))
        (z5 (IntKind.wrap IntKind.i64 (IntKind.wrap IntKind.i64 (2 * x3) + 1)) (w6))))) ∧ (∀ (_ : Nat → Value), (∀ (x15 : Int), (∀ (w16 : World), ((z5 (x15) (w16)) → (atW (World.drew w16) (fun w17 =>
      (∃ a18 : Addr, ((dataa = some a18) ∧ (((0 : Int) ≤ IntKind.wrap IntKind.i64 (first + x3)) ∧ (((IntKind.wrap IntKind.i64 (first + x3) : Int) < (↑datal : Int)) ∧ (∃ x19 : Int, ((World.cell? w17 (Addr.add a18 (Int.toNat (IntKind.wrap IntKind.i64 (first + x3)) * 1)) = some (Value.int IntKind.u64 x19)) ∧ (∃ a20 : Addr, ((dataa = some a20) ∧ (((0 : Int) ≤ IntKind.wrap IntKind.i64 (first + x15)) ∧ (((IntKind.wrap IntKind.i64 (first + x15) : Int) < (↑datal : Int)) ∧ (∃ x21 : Int, ((World.cell? w17 (Addr.add a20 (Int.toNat (IntKind.wrap IntKind.i64 (first + x15)) * 1)) = some (Value.int IntKind.u64 x21)) ∧ (Ca Try.prog (80) (Array.mk [Value.int IntKind.u64 x19, Value.int IntKind.u64 x21]) (w17) (fun v22 => (fun w23 =>
        (∃ b24 : Bool, ((v22 = Value.bool b24) ∧ (ifK (!b24)
          (R (Value.tuple (Array.mk (List.reverse []))) (w23))
          (atW (World.drew w23) (fun w25 =>
            (∃ a26 : Addr, ((dataa = some a26) ∧ (((0 : Int) ≤ IntKind.wrap IntKind.i64 (first + x15)) ∧ (((IntKind.wrap IntKind.i64 (first + x15) : Int) < (↑datal : Int)) ∧ (∃ x27 : Int, ((World.cell? w25 (Addr.add a26 (Int.toNat (IntKind.wrap IntKind.i64 (first + x15)) * 1)) = some (Value.int IntKind.u64 x27)) ∧ (∃ a28 : Addr, ((dataa = some a28) ∧ (((0 : Int) ≤ IntKind.wrap IntKind.i64 (first + x3)) ∧ (((IntKind.wrap IntKind.i64 (first + x3) : Int) < (↑datal : Int)) ∧ (∃ x29 : Int, ((World.cell? w25 (Addr.add a28 (Int.toNat (IntKind.wrap IntKind.i64 (first + x3)) * 1)) = some (Value.int IntKind.u64 x29)) ∧ (∃ a30 : Addr, ((dataa = some a30) ∧ (((0 : Int) ≤ IntKind.wrap IntKind.i64 (first + x3)) ∧ (((IntKind.wrap IntKind.i64 (first + x3) : Int) < (↑datal : Int)) ∧ ((∃ v31 : Value, (World.cell? w25 (Addr.add (Addr.add a30 (Int.toNat (IntKind.wrap IntKind.i64 (first + x3)) * 1)) 0) = some v31)) ∧ ((World.frozen? w25 (Addr.add (Addr.add a30 (Int.toNat (IntKind.wrap IntKind.i64 (first + x3)) * 1)) 0) = false) ∧ (atW (World.setCell w25 (Addr.add (Addr.add a30 (Int.toNat (IntKind.wrap IntKind.i64 (first + x3)) * 1)) 0) (Value.int IntKind.u64 x27)) (fun w32 =>
              (∃ a33 : Addr, ((dataa = some a33) ∧ (((0 : Int) ≤ IntKind.wrap IntKind.i64 (first + x15)) ∧ (((IntKind.wrap IntKind.i64 (first + x15) : Int) < (↑datal : Int)) ∧ ((∃ v34 : Value, (World.cell? w32 (Addr.add (Addr.add a33 (Int.toNat (IntKind.wrap IntKind.i64 (first + x15)) * 1)) 0) = some v34)) ∧ ((World.frozen? w32 (Addr.add (Addr.add a33 (Int.toNat (IntKind.wrap IntKind.i64 (first + x15)) * 1)) 0) = false) ∧ (atW (World.setCell w32 (Addr.add (Addr.add a33 (Int.toNat (IntKind.wrap IntKind.i64 (first + x15)) * 1)) 0) (Value.int IntKind.u64 x29)) (fun w35 =>
                ((z0 (x15) (w35)) ∧ (z1 x15 w35 < z1 x3 w4))))))))))))))))))))))))))))))))))))))))))))))))))))))))))))))))))
theorem ca84 (dataa : Option Addr) (datal : Nat) (datac : Nat) (lo : Int) (hi : Int) (first : Int) (w : World) (R : Value → World → Prop) (h : W84 dataa datal datac lo hi first w R) : Ca Try.prog 84 ⟨[(.slice dataa datal datac), (.int .i64 lo), (.int .i64 hi), (.int .i64 first)]⟩ w R := by
  have h1 : Try.prog.follows .mixedOrders = true := by kernel_rfl
  have h2 : Try.f84.body = some C84 := by kernel_rfl
  have h3 : (Try.f84.name == "runtime.NumGoroutine") = false := by kernel_rfl
  have h6 : Try.f84.results.toList = [] := by kernel_rfl
  have h4 : Nat.ble 4 76 = true := by kernel_rfl
  have h5 : okCode 76 pl84 ls84 C84 0 = true := by kernel_rfl
  have e : W84 dataa datal datac lo hi first w R = wpC none Try.prog 76 pl84 ls84 C84 0 (endP Try.prog [] R) (fr0 [(.slice dataa datal datac), (.int .i64 lo), (.int .i64 hi), (.int .i64 first)]) [] w := by kernel_rfl
  exact ca_of' (P := Try.prog) (g := 84) (fn := Try.f84) (c := C84) (m := 76) (rs := []) (args := [(.slice dataa datal datac), (.int .i64 lo), (.int .i64 hi), (.int .i64 first)]) (pl := pl84) (ls := ls84) (w := w) (R := R) h1 Try.func84 h2 Try.ntmps84 h6 h3 h4 h5 (Eq.mp e h)

/-- slices.heapSortOrdered[uint64] -/
noncomputable def C75 : Code := (Try.f75.body).getD .skip
def pl75 : Nat → Plan
  | 10 => (.quiet 0 (.quiet 1 (.quiet 2 (.quiet 3 (.quiet 4 (.quiet 5 (.quiet 6 (.quiet 7 (.quiet 8 (.quiet 9 (.quiet 10 (.quiet 11 (.quiet 12 (.quiet 13 (.quiet 14 (.quiet 15 (.quiet 16 (.eff 17 [] (.quiet 18 (.eff 19 [] .done))))))))))))))))))))
  | _ => .done
def ls75 : Nat → List (Nat × LT)
  | 5 => [(9, (.one (.int .i64)))]
  | 10 => [(10, (.one (.int .i64)))]
  | _ => []
def W75 (dataa : Option Addr) (datal : Nat) (datac : Nat) (a_ : Int) (b : Int) (w : World) (R : Value → World → Prop) : Prop :=
  (((2 : Int) ≠ 0) ∧ (∃ z0 : Int → World → Prop, (∃ z1 : Int → World → Nat, ((z0 (IntKind.wrap IntKind.i64 (Int.tdiv (IntKind.wrap IntKind.i64 (IntKind.wrap IntKind.i64 (b - a_) - 1)) 2)) (w)) ∧ (∀ (_ : Nat → Value), (∀ (x3 : Int), (∀ (w4 : World), ((z0 (x3) (w4)) → (ifK (decide (x3 ≥ 0))
    (Ca Try.prog (84) (Array.mk [Value.slice dataa datal datac, Value.int IntKind.i64 x3, Value.int IntKind.i64 (IntKind.wrap IntKind.i64 (b - a_)), Value.int IntKind.i64 a_]) (w4) (fun v5 => (fun w6 =>
      ((v5 = Value.tuple (Array.mk (List.reverse []))) ∧ ((z0 (IntKind.wrap IntKind.i64 (x3 - 1)) (w6)) ∧ (z1 (IntKind.wrap IntKind.i64 (x3 - 1)) w6 < z1 x3 w4))))))
    (∃ z7 : Int → World → Prop, (∃ z8 : Int → World → Nat, ((z7 (IntKind.wrap IntKind.i64 (IntKind.wrap IntKind.i64 (b - a_) - 1)) (w4)) ∧ (∀ (_ : Nat → Value), (∀ (x10 : Int), (∀ (w11 : World), ((z7 (x10) (w11)) → (ifK (decide (x10 ≥ 0))
      (atW (World.drew w11) (fun w12 =>
        (∃ a13 : Addr, ((dataa = some a13) ∧ (((0 : Int) ≤ IntKind.wrap IntKind.i64 (a_ + x10)) ∧ (((IntKind.wrap IntKind.i64 (a_ + x10) : Int) < (↑datal : Int)) ∧ (∃ x14 : Int, ((World.cell? w12 (Addr.add a13 (Int.toNat (IntKind.wrap IntKind.i64 (a_ + x10)) * 1)) = some (Value.int IntKind.u64 x14)) ∧ (∃ a15 : Addr, ((dataa = some a15) ∧ (((0 : Int) ≤ a_) ∧ (((a_ : Int) < (↑datal : Int)) ∧ (∃ x16 : Int, ((World.cell? w12 (Addr.add a15 (Int.toNat a_ * 1)) = some (Value.int IntKind.u64 x16)) ∧ (∃ a17 : Addr, ((dataa = some a17) ∧ (((0 : Int) ≤ a_) ∧ (((a_ : Int) < (↑datal : Int)) ∧ ((∃ v18 : Value, (World.cell? w12 (Addr.add (Addr.add a17 (Int.toNat a_ * 1)) 0) = some v18)) ∧ ((World.frozen? w12 (Addr.add (Addr.add a17 (Int.toNat a_ * 1)) 0) = false) ∧ (atW (World.setCell w12 (Addr.add (Addr.add a17 (Int.toNat a_ * 1)) 0) (Value.int IntKind.u64 x14)) (fun w19 =>
          (∃ a20 : Addr, ((dataa = some a20) ∧ (((0 : Int) ≤ IntKind.wrap IntKind.i64 (a_ + x10)) ∧ (((IntKind.wrap IntKind.i64 (a_ + x10) : Int) < (↑datal : Int)) ∧ ((∃ v21 : Value, (World.cell? w19 (Addr.add (Addr.add a20 (Int.toNat (IntKind.wrap IntKind.i64 (a_ + x10)) * 1)) 0) = some v21)) ∧ ((World.frozen? w19 (Addr.add (Addr.add a20 (Int.toNat (IntKind.wrap IntKind.i64 (a_ + x10)) * 1)) 0) = false) ∧ (atW (World.setCell w19 (Addr.add (Addr.add a20 (Int.toNat (IntKind.wrap IntKind.i64 (a_ + x10)) * 1)) 0) (Value.int IntKind.u64 x16)) (fun w22 =>
            (Ca Try.prog (84) (Array.mk [Value.slice dataa datal datac, Value.int IntKind.i64 0, Value.int IntKind.i64 x10, Value.int IntKind.i64 a_]) (w22) (fun v23 => (fun w24 =>
              ((v23 = Value.tuple (Array.mk (List.reverse []))) ∧ ((z7 (IntKind.wrap IntKind.i64 (x10 - 1)) (w24)) ∧ (z8 (IntKind.wrap IntKind.i64 (x10 - 1)) w24 < z8 x10 w11))))))))))))))))))))))))))))))))))))
      (R (Value.tuple (Array.mk (List.reverse []))) (w11)))))))))))))))))))
theorem ca75 (dataa : Option Addr) (datal : Nat) (datac : Nat) (a_ : Int) (b : Int) (w : World) (R : Value → World → Prop) (h : W75 dataa datal datac a_ b w R) : Ca Try.prog 75 ⟨[(.slice dataa datal datac), (.int .i64 a_), (.int .i64 b)]⟩ w R := by
  have h1 : Try.prog.follows .mixedOrders = true := by kernel_rfl
  have h2 : Try.f75.body = some C75 := by kernel_rfl
  have h3 : (Try.f75.name == "runtime.NumGoroutine") = false := by kernel_rfl
  have h6 : Try.f75.results.toList = [] := by kernel_rfl
  have h4 : Nat.ble 3 56 = true := by kernel_rfl
  have h5 : okCode 56 pl75 ls75 C75 0 = true := by kernel_rfl
  have e : W75 dataa datal datac a_ b w R = wpC none Try.prog 56 pl75 ls75 C75 0 (endP Try.prog [] R) (fr0 [(.slice dataa datal datac), (.int .i64 a_), (.int .i64 b)]) [] w := by kernel_rfl
  exact ca_of' (P := Try.prog) (g := 75) (fn := Try.f75) (c := C75) (m := 56) (rs := []) (args := [(.slice dataa datal datac), (.int .i64 a_), (.int .i64 b)]) (pl := pl75) (ls := ls75) (w := w) (R := R) h1 Try.func75 h2 Try.ntmps75 h6 h3 h4 h5 (Eq.mp e h)

/-- slices.breakPatternsOrdered[uint64] -/
noncomputable def C76 : Code := (Try.f76.body).getD .skip
def pl76 : Nat → Plan
  | 10 => (.quiet 0 (.quiet 1 (.quiet 2 (.quiet 3 (.quiet 4 (.quiet 5 (.quiet 6 (.quiet 7 (.quiet 8 (.quiet 9 (.quiet 10 (.quiet 11 (.quiet 12 (.quiet 13 (.quiet 14 (.quiet 15 (.quiet 16 (.eff 17 [] (.quiet 18 (.eff 19 [] .done))))))))))))))))))))
  | _ => .done
def ls76 : Nat → List (Nat × LT)
  | 5 => [(9, (.one (.int .i64)))]
  | 10 => [(0, .agg []), (10, (.one (.int .i64)))]
  | _ => []
def W76 (dataa : Option Addr) (datal : Nat) (_datac : Nat) (a_ : Int) (b : Int) (w : World) (R : Value → World → Prop) : Prop :=
  (ifK (decide (IntKind.wrap IntKind.i64 (b - a_) ≥ 8))
    (atW (World.alloc w (Obj.cells (Array.mk [Value.int IntKind.u64 0]) 109 (0, 0))) (fun w0 =>
      ((∃ v1 : Value, (World.cell? w0 (Addr.add (Addr.mk (Array.size (World.heap w)) 0 none) 0) = some v1)) ∧ ((World.frozen? w0 (Addr.add (Addr.mk (Array.size (World.heap w)) 0 none) 0) = false) ∧ (atW (World.setCell w0 (Addr.add (Addr.mk (Array.size (World.heap w)) 0 none) 0) (Value.int IntKind.u64 (IntKind.wrap IntKind.u64 (IntKind.wrap IntKind.i64 (b - a_))))) (fun w2 =>
        (Ca Try.prog (69) (Array.mk [Value.int IntKind.i64 (IntKind.wrap IntKind.i64 (b - a_))]) (w2) (fun v3 => (fun w4 =>
          (∃ x5 : Int, ((v3 = Value.int IntKind.u64 x5) ∧ (((4 : Int) ≠ 0) ∧ (∃ z6 : Int → World → Prop, (∃ z7 : Int → World → Nat, ((z6 (IntKind.wrap IntKind.i64 (IntKind.wrap IntKind.i64 (a_ + IntKind.wrap IntKind.i64 (IntKind.wrap IntKind.i64 (Int.tdiv (IntKind.wrap IntKind.i64 (b - a_)) 4) * 2)) - 1)) (w4)) ∧ (∀ (_ : Nat → Value), (∀ (x9 : Int), (∀ (w10 : World), ((z6 (x9) (w10)) → (((4 : Int) ≠ 0) ∧ (ifK (decide (x9 ≤ IntKind.wrap IntKind.i64 (IntKind.wrap IntKind.i64 (a_ + IntKind.wrap IntKind.i64 (IntKind.wrap IntKind.i64 (Int.tdiv (IntKind.wrap IntKind.i64 (b - a_)) 4) * 2)) + 1)))
            (Ca Try.prog (70) (Array.mk [Value.pointer (some (Addr.mk (Array.size (World.heap w)) 0 none))]) (w10) (fun v11 => (fun w12 =>
              (∃ x13 : Int, ((v11 = Value.int IntKind.u64 x13) ∧ (∃ z14 : Int → World → Prop, ((ifK (decide (IntKind.wrap IntKind.i64 (IntKind.wrap IntKind.u64 (↑(BitVec.toNat (BitVec.ofInt 64 x13 &&& BitVec.ofInt 64 (IntKind.wrap IntKind.u64 (x5 - 1)))) : Int)) ≥ IntKind.wrap IntKind.i64 (b - a_)))
                (z14 (IntKind.wrap IntKind.i64 (IntKind.wrap IntKind.i64 (IntKind.wrap IntKind.u64 (↑(BitVec.toNat (BitVec.ofInt 64 x13 &&& BitVec.ofInt 64 (IntKind.wrap IntKind.u64 (x5 - 1)))) : Int)) - IntKind.wrap IntKind.i64 (b - a_))) (w12))
                (z14 (IntKind.wrap IntKind.i64 (IntKind.wrap IntKind.u64 (↑(BitVec.toNat (BitVec.ofInt 64 x13 &&& BitVec.ofInt 64 (IntKind.wrap IntKind.u64 (x5 - 1)))) : Int))) (w12))) ∧ (∀ (_ : Nat → Value), (∀ (x16 : Int), (∀ (w17 : World), ((z14 (x16) (w17)) → (atW (World.drew w17) (fun w18 =>
                (∃ a19 : Addr, ((dataa = some a19) ∧ (((0 : Int) ≤ IntKind.wrap IntKind.i64 (a_ + x16)) ∧ (((IntKind.wrap IntKind.i64 (a_ + x16) : Int) < (↑datal : Int)) ∧ (∃ x20 : Int, ((World.cell? w18 (Addr.add a19 (Int.toNat (IntKind.wrap IntKind.i64 (a_ + x16)) * 1)) = some (Value.int IntKind.u64 x20)) ∧ (∃ a21 : Addr, ((dataa = some a21) ∧ (((0 : Int) ≤ x9) ∧ (((x9 : Int) < (↑datal : Int)) ∧ (∃ x22 : Int, ((World.cell? w18 (Addr.add a21 (Int.toNat x9 * 1)) = some (Value.int IntKind.u64 x22)) ∧ (∃ a23 : Addr, ((dataa = some a23) ∧ (((0 : Int) ≤ x9) ∧ (((x9 : Int) < (↑datal : Int)) ∧ ((∃ v24 : Value, (World.cell? w18 (Addr.add (Addr.add a23 (Int.toNat x9 * 1)) 0) = some v24)) ∧ ((World.frozen? w18 (Addr.add (Addr.add a23 (Int.toNat x9 * 1)) 0) = false) ∧ (atW (World.setCell w18 (Addr.add (Addr.add a23 (Int.toNat x9 * 1)) 0) (Value.int IntKind.u64 x20)) (fun w25 =>
                  (∃ a26 : Addr, ((dataa = some a26) ∧ (((0 : Int) ≤ IntKind.wrap IntKind.i64 (a_ + x16)) ∧ (((IntKind.wrap IntKind.i64 (a_ + x16) : Int) < (↑datal : Int)) ∧ ((∃ v27 : Value, (World.cell? w25 (Addr.add (Addr.add a26 (Int.toNat (IntKind.wrap IntKind.i64 (a_ + x16)) * 1)) 0) = some v27)) ∧ ((World.frozen? w25 (Addr.add (Addr.add a26 (Int.toNat (IntKind.wrap IntKind.i64 (a_ + x16)) * 1)) 0) = false) ∧ (atW (World.setCell w25 (Addr.add (Addr.add a26 (Int.toNat (IntKind.wrap IntKind.i64 (a_ + x16)) * 1)) 0) (Value.int IntKind.u64 x22)) (fun w28 =>
                    ((z6 (IntKind.wrap IntKind.i64 (x9 + 1)) (w28)) ∧ (z7 (IntKind.wrap IntKind.i64 (x9 + 1)) w28 < z7 x9 w10)))))))))))))))))))))))))))))))))))))))))))
            (R (Value.tuple (Array.mk (List.reverse []))) (w10)))))))))))))))))))))))
    (R (Value.tuple (Array.mk (List.reverse []))) (w)))
theorem ca76 (dataa : Option Addr) (datal : Nat) (datac : Nat) (a_ : Int) (b : Int) (w : World) (R : Value → World → Prop) (h : W76 dataa datal datac a_ b w R) : Ca Try.prog 76 ⟨[(.slice dataa datal datac), (.int .i64 a_), (.int .i64 b)]⟩ w R := by
  have h1 : Try.prog.follows .mixedOrders = true := by kernel_rfl
  have h2 : Try.f76.body = some C76 := by kernel_rfl
  have h3 : (Try.f76.name == "runtime.NumGoroutine") = false := by kernel_rfl
  have h6 : Try.f76.results.toList = [] := by kernel_rfl
  have h4 : Nat.ble 3 65 = true := by kernel_rfl
  have h5 : okCode 65 pl76 ls76 C76 0 = true := by kernel_rfl
  have e : W76 dataa datal datac a_ b w R = wpC none Try.prog 65 pl76 ls76 C76 0 (endP Try.prog [] R) (fr0 [(.slice dataa datal datac), (.int .i64 a_), (.int .i64 b)]) [] w := by kernel_rfl
  exact ca_of' (P := Try.prog) (g := 76) (fn := Try.f76) (c := C76) (m := 65) (rs := []) (args := [(.slice dataa datal datac), (.int .i64 a_), (.int .i64 b)]) (pl := pl76) (ls := ls76) (w := w) (R := R) h1 Try.func76 h2 Try.ntmps76 h6 h3 h4 h5 (Eq.mp e h)

/-- slices.partialInsertionSortOrdered[uint64] -/
noncomputable def C79 : Code := (Try.f79.body).getD .skip
def pl79 : Nat → Plan
  | 5 => (.quiet 0 (.quiet 1 (.quiet 2 (.quiet 3 (.quiet 4 (.quiet 5 (.quiet 6 (.quiet 7 (.quiet 8 (.quiet 9 (.quiet 10 (.quiet 11 (.quiet 12 (.eff 13 [] (.quiet 14 (.quiet 15 .done))))))))))))))))
  | 11 => (.quiet 0 (.quiet 1 (.quiet 2 (.quiet 3 (.quiet 4 (.quiet 5 (.quiet 6 (.quiet 7 (.quiet 8 (.quiet 9 (.quiet 10 (.quiet 11 (.quiet 12 (.quiet 13 (.quiet 14 (.eff 15 [] (.quiet 16 (.eff 17 [] .done))))))))))))))))))
  | 16 => (.quiet 0 (.quiet 1 (.quiet 2 (.quiet 3 (.quiet 4 (.quiet 5 (.quiet 6 (.quiet 7 (.quiet 8 (.eff 9 [] (.quiet 10 .done)))))))))))
  | 17 => (.quiet 0 (.quiet 1 (.quiet 2 (.quiet 3 (.quiet 4 (.quiet 5 (.quiet 6 (.quiet 7 (.quiet 8 (.quiet 9 (.quiet 10 (.quiet 11 (.quiet 12 (.quiet 13 (.quiet 14 (.eff 15 [] (.quiet 16 (.eff 17 [] .done))))))))))))))))))
  | 22 => (.quiet 0 (.quiet 1 (.quiet 2 (.quiet 3 (.quiet 4 (.quiet 5 (.quiet 6 (.quiet 7 (.quiet 8 (.eff 9 [] (.quiet 10 .done)))))))))))
  | 23 => (.quiet 0 (.quiet 1 (.quiet 2 (.quiet 3 (.quiet 4 (.quiet 5 (.quiet 6 (.quiet 7 (.quiet 8 (.quiet 9 (.quiet 10 (.quiet 11 (.quiet 12 (.quiet 13 (.quiet 14 (.eff 15 [] (.quiet 16 (.eff 17 [] .done))))))))))))))))))
  | _ => .done
def ls79 : Nat → List (Nat × LT)
  | 4 => [(7, (.one (.int .i64))), (8, (.one (.int .i64)))]
  | 8 => [(0, .agg []), (7, (.one (.int .i64)))]
  | 9 => [(7, (.one (.int .i64)))]
  | 19 => [(0, .agg [])]
  | 22 => [(9, (.one (.int .i64)))]
  | 30 => [(10, (.one (.int .i64)))]
  | _ => []
def W79 (dataa : Option Addr) (datal : Nat) (_datac : Nat) (a_ : Int) (b : Int) (w : World) (R : Value → World → Prop) : Prop :=
  (∃ z0 : Int → Int → World → Prop, (∃ z1 : Int → Int → World → Nat, ((z0 (IntKind.wrap IntKind.i64 (a_ + 1)) (0) (w)) ∧ (∀ (_ : Nat → Value), (∀ (x3 : Int), (∀ (x4 : Int), (∀ (w5 : World), ((z0 (x3) (x4) (w5)) → (ifK (decide (x4 < 5))
    (∃ z6 : Int → World → Prop, ((∃ z7 : Int → World → Prop, (∃ z8 : Int → World → Nat, ((z7 (x3) (w5)) ∧ (∀ (_ : Nat → Value), (∀ (x10 : Int), (∀ (w11 : World), ((z7 (x10) (w11)) → (atW (World.drew w11) (fun w12 =>
      (ifK (decide (x10 < b))
        (∃ a13 : Addr, ((dataa = some a13) ∧ (((0 : Int) ≤ x10) ∧ (((x10 : Int) < (↑datal : Int)) ∧ (∃ x14 : Int, ((World.cell? w12 (Addr.add a13 (Int.toNat x10 * 1)) = some (Value.int IntKind.u64 x14)) ∧ (∃ a15 : Addr, ((dataa = some a15) ∧ (((0 : Int) ≤ IntKind.wrap IntKind.i64 (x10 - 1)) ∧ (((IntKind.wrap IntKind.i64 (x10 - 1) : Int) < (↑datal : Int)) ∧ (∃ x16 : Int, ((World.cell? w12 (Addr.add a15 (Int.toNat (IntKind.wrap IntKind.i64 (x10 - 1)) * 1)) = some (Value.int IntKind.u64 x16)) ∧ (Ca Try.prog (80) (Array.mk [Value.int IntKind.u64 x14, Value.int IntKind.u64 x16]) (w12) (fun v17 => (fun w18 =>
          (∃ b19 : Bool, ((v17 = Value.bool b19) ∧ (ifK (!b19)
            ((z7 (IntKind.wrap IntKind.i64 (x10 + 1)) (w18)) ∧ (z8 (IntKind.wrap IntKind.i64 (x10 + 1)) w18 < z8 x10 w11))
            (z6 (x10) (w18))))))))))))))))))))
        (z6 (x10) (w12)))))))))))) ∧ (∀ (_ : Nat → Value), (∀ (x21 : Int), (∀ (w22 : World), ((z6 (x21) (w22)) → (ifK (x21 == b)
      (R (Value.bool true) (w22))
      (ifK (decide (IntKind.wrap IntKind.i64 (b - a_) < 50))
        (R (Value.bool false) (w22))
        (atW (World.drew w22) (fun w23 =>
          (∃ a24 : Addr, ((dataa = some a24) ∧ (((0 : Int) ≤ IntKind.wrap IntKind.i64 (x21 - 1)) ∧ (((IntKind.wrap IntKind.i64 (x21 - 1) : Int) < (↑datal : Int)) ∧ (∃ x25 : Int, ((World.cell? w23 (Addr.add a24 (Int.toNat (IntKind.wrap IntKind.i64 (x21 - 1)) * 1)) = some (Value.int IntKind.u64 x25)) ∧ (∃ a26 : Addr, ((dataa = some a26) ∧ (((0 : Int) ≤ x21) ∧ (((x21 : Int) < (↑datal : Int)) ∧ (∃ x27 : Int, ((World.cell? w23 (Addr.add a26 (Int.toNat x21 * 1)) = some (Value.int IntKind.u64 x27)) ∧ (∃ a28 : Addr, ((dataa = some a28) ∧ (((0 : Int) ≤ x21) ∧ (((x21 : Int) < (↑datal : Int)) ∧ ((∃ v29 : Value, (World.cell? w23 (Addr.add (Addr.add a28 (Int.toNat x21 * 1)) 0) = some v29)) ∧ ((World.frozen? w23 (Addr.add (Addr.add a28 (Int.toNat x21 * 1)) 0) = false) ∧ (atW (World.setCell w23 (Addr.add (Addr.add a28 (Int.toNat x21 * 1)) 0) (Value.int IntKind.u64 x25)) (fun w30 =>
            (∃ a31 : Addr, ((dataa = some a31) ∧ (((0 : Int) ≤ IntKind.wrap IntKind.i64 (x21 - 1)) ∧ (((IntKind.wrap IntKind.i64 (x21 - 1) : Int) < (↑datal : Int)) ∧ ((∃ v32 : Value, (World.cell? w30 (Addr.add (Addr.add a31 (Int.toNat (IntKind.wrap IntKind.i64 (x21 - 1)) * 1)) 0) = some v32)) ∧ ((World.frozen? w30 (Addr.add (Addr.add a31 (Int.toNat (IntKind.wrap IntKind.i64 (x21 - 1)) * 1)) 0) = false) ∧ (atW (World.setCell w30 (Addr.add (Addr.add a31 (Int.toNat (IntKind.wrap IntKind.i64 (x21 - 1)) * 1)) 0) (Value.int IntKind.u64 x27)) (fun w33 =>
              (∃ z34 : World → Prop, ((ifK (decide (IntKind.wrap IntKind.i64 (x21 - a_) ≥ 2))
                (∃ z35 : Int → World → Prop, (∃ z36 : Int → World → Nat, ((z35 (IntKind.wrap IntKind.i64 (x21 - 1)) (w33)) ∧ (∀ (_ : Nat → Value), (∀ (x38 : Int), (∀ (w39 : World), ((z35 (x38) (w39)) → (ifK (decide (x38 ≥ 1))
                  (atW (World.drew w39) (fun w40 =>
                    (∃ a41 : Addr, ((dataa = some a41) ∧ (((0 : Int) ≤ x38) ∧ (((x38 : Int) < (↑datal : Int)) ∧ (∃ x42 : Int, ((World.cell? w40 (Addr.add a41 (Int.toNat x38 * 1)) = some (Value.int IntKind.u64 x42)) ∧ (∃ a43 : Addr, ((dataa = some a43) ∧ (((0 : Int) ≤ IntKind.wrap IntKind.i64 (x38 - 1)) ∧ (((IntKind.wrap IntKind.i64 (x38 - 1) : Int) < (↑datal : Int)) ∧ (∃ x44 : Int, ((World.cell? w40 (Addr.add a43 (Int.toNat (IntKind.wrap IntKind.i64 (x38 - 1)) * 1)) = some (Value.int IntKind.u64 x44)) ∧ (Ca Try.prog (80) (Array.mk [Value.int IntKind.u64 x42, Value.int IntKind.u64 x44]) (w40) (fun v45 => (fun w46 =>
                      (∃ b47 : Bool, ((v45 = Value.bool b47) ∧ (ifK (!b47)
                        (z34 (w46))
                        (atW (World.drew w46) (fun w48 =>
                          (∃ a49 : Addr, ((dataa = some a49) ∧ (((0 : Int) ≤ IntKind.wrap IntKind.i64 (x38 - 1)) ∧ (((IntKind.wrap IntKind.i64 (x38 - 1) : Int) < (↑datal : Int)) ∧ (∃ x50 : Int, ((World.cell? w48 (Addr.add a49 (Int.toNat (IntKind.wrap IntKind.i64 (x38 - 1)) * 1)) = some (Value.int IntKind.u64 x50)) ∧ (∃ a51 : Addr, ((dataa = some a51) ∧ (((0 : Int) ≤ x38) ∧ (((x38 : Int) < (↑datal : Int)) ∧ (∃ x52 : Int, ((World.cell? w48 (Addr.add a51 (Int.toNat x38 * 1)) = some (Value.int IntKind.u64 x52)) ∧ (∃ a53 : Addr, ((dataa = some a53) ∧ (((0 : Int) ≤ x38) ∧ (((x38 : Int) < (↑datal : Int)) ∧ ((∃ v54 : Value, (World.cell? w48 (Addr.add (Addr.add a53 (Int.toNat x38 * 1)) 0) = some v54)) ∧ ((World.frozen? w48 (Addr.add (Addr.add a53 (Int.toNat x38 * 1)) 0) = false) ∧ (atW (World.setCell w48 (Addr.add (Addr.add a53 (Int.toNat x38 * 1)) 0) (Value.int IntKind.u64 x50)) (fun w55 =>
                            (∃ a56 : Addr, ((dataa = some a56) ∧ (((0 : Int) ≤ IntKind.wrap IntKind.i64 (x38 - 1)) ∧ (((IntKind.wrap IntKind.i64 (x38 - 1) : Int) < (↑datal : Int)) ∧ ((∃ v57 : Value, (World.cell? w55 (Addr.add (Addr.add a56 (Int.toNat (IntKind.wrap IntKind.i64 (x38 - 1)) * 1)) 0) = some v57)) ∧ ((World.frozen? w55 (Addr.add (Addr.add a56 (Int.toNat (IntKind.wrap IntKind.i64 (x38 - 1)) * 1)) 0) = false) ∧ (atW (World.setCell w55 (Addr.add (Addr.add a56 (Int.toNat (IntKind.wrap IntKind.i64 (x38 - 1)) * 1)) 0) (Value.int IntKind.u64 x52)) (fun w58 =>
                              ((z35 (IntKind.wrap IntKind.i64 (x38 - 1)) (w58)) ∧ (z36 (IntKind.wrap IntKind.i64 (x38 - 1)) w58 < z36 x38 w39))))))))))))))))))))))))))))))))))))))))))))))))))))
                  (z34 (w39))))))))))
                (z34 (w33))) ∧ (∀ (_ : Nat → Value), (∀ (w60 : World), ((z34 (w60)) → (ifK (decide (IntKind.wrap IntKind.i64 (b - x21) ≥ 2))
                (∃ z61 : Int → World → Prop, (∃ z62 : Int → World → Nat, ((z61 (IntKind.wrap IntKind.i64 (x21 + 1)) (w60)) ∧ (∀ (_ : Nat → Value), (∀ (x64 : Int), (∀ (w65 : World), ((z61 (x64) (w65)) → (ifK (decide (x64 < b))
                  (atW (World.drew w65) (fun w66 =>
                    (∃ a67 : Addr, ((dataa = some a67) ∧ (((0 : Int) ≤ x64) ∧ (((x64 : Int) < (↑datal : Int)) ∧ (∃ x68 : Int, ((World.cell? w66 (Addr.add a67 (Int.toNat x64 * 1)) = some (Value.int IntKind.u64 x68)) ∧ (∃ a69 : Addr, ((dataa = some a69) ∧ (((0 : Int) ≤ IntKind.wrap IntKind.i64 (x64 - 1)) ∧ (((IntKind.wrap IntKind.i64 (x64 - 1) : Int) < (↑datal : Int)) ∧ (∃ x70 : Int, ((World.cell? w66 (Addr.add a69 (Int.toNat (IntKind.wrap IntKind.i64 (x64 - 1)) * 1)) = some (Value.int IntKind.u64 x70)) ∧ (Ca Try.prog (80) (Array.mk [Value.int IntKind.u64 x68, Value.int IntKind.u64 x70]) (w66) (fun v71 => (fun w72 =>
                      (∃ b73 : Bool, ((v71 = Value.bool b73) ∧ (ifK (!b73)
                        ((z0 (x21) (IntKind.wrap IntKind.i64 (x4 + 1)) (w72)) ∧ (z1 x21 (IntKind.wrap IntKind.i64 (x4 + 1)) w72 < z1 x3 x4 w5))
                        (atW (World.drew w72) (fun w74 =>
                          (∃ a75 : Addr, ((dataa = some a75) ∧ (((0 : Int) ≤ IntKind.wrap IntKind.i64 (x64 - 1)) ∧ (((IntKind.wrap IntKind.i64 (x64 - 1) : Int) < (↑datal : Int)) ∧ (∃ x76 : Int, ((World.cell? w74 (Addr.add a75 (Int.toNat (IntKind.wrap IntKind.i64 (x64 - 1)) * 1)) = some (Value.int IntKind.u64 x76)) ∧ (∃ a77 : Addr, ((dataa = some a77) ∧ (((0 : Int) ≤ x64) ∧ (((x64 : Int) < (↑datal : Int)) ∧ (∃ x78 : Int, ((World.cell? w74 (Addr.add a77 (Int.toNat x64 * 1)) = some (Value.int IntKind.u64 x78)) ∧ (∃ a79 : Addr, ((dataa = some a79) ∧ (((0 : Int) ≤ x64) ∧ (((x64 : Int) < (↑datal : Int)) ∧ ((∃ v80 : Value, (World.cell? w74 (Addr.add (Addr.add a79 (Int.toNat x64 * 1)) 0) = some v80)) ∧ ((World.frozen? w74 (Addr.add (Addr.add a79 (Int.toNat x64 * 1)) 0) = false) ∧ (atW (World.setCell w74 (Addr.add (Addr.add a79 (Int.toNat x64 * 1)) 0) (Value.int IntKind.u64 x76)) (fun w81 =>
                            (∃ a82 : Addr, ((dataa = some a82) ∧ (((0 : Int) ≤ IntKind.wrap IntKind.i64 (x64 - 1)) ∧ (((IntKind.wrap IntKind.i64 (x64 - 1) : Int) < (↑datal : Int)) ∧ ((∃ v83 : Value, (World.cell? w81 (Addr.add (Addr.add a82 (Int.toNat (IntKind.wrap IntKind.i64 (x64 - 1)) * 1)) 0) = some v83)) ∧ ((World.frozen? w81 (Addr.add (Addr.add a82 (Int.toNat (IntKind.wrap IntKind.i64 (x64 - 1)) * 1)) 0) = false) ∧ (atW (World.setCell w81 (Addr.add (Addr.add a82 (Int.toNat (IntKind.wrap IntKind.i64 (x64 - 1)) * 1)) 0) (Value.int IntKind.u64 x78)) (fun w84 =>
                              ((z61 (IntKind.wrap IntKind.i64 (x64 + 1)) (w84)) ∧ (z62 (IntKind.wrap IntKind.i64 (x64 + 1)) w84 < z62 x64 w65))))))))))))))))))))))))))))))))))))))))))))))))))))
                  ((z0 (x21) (IntKind.wrap IntKind.i64 (x4 + 1)) (w65)) ∧ (z1 x21 (IntKind.wrap IntKind.i64 (x4 + 1)) w65 < z1 x3 x4 w5))))))))))
                ((z0 (x21) (IntKind.wrap IntKind.i64 (x4 + 1)) (w60)) ∧ (z1 x21 (IntKind.wrap IntKind.i64 (x4 + 1)) w60 < z1 x3 x4 w5))))))))))))))))))))))))))))))))))))))))))))))
    (R (Value.bool false) (w5)))))))))))
theorem ca79 (dataa : Option Addr) (datal : Nat) (datac : Nat) (a_ : Int) (b : Int) (w : World) (R : Value → World → Prop) (h : W79 dataa datal datac a_ b w R) : Ca Try.prog 79 ⟨[(.slice dataa datal datac), (.int .i64 a_), (.int .i64 b)]⟩ w R := by
  have h1 : Try.prog.follows .mixedOrders = true := by kernel_rfl
  have h2 : Try.f79.body = some C79 := by kernel_rfl
  have h3 : (Try.f79.name == "runtime.NumGoroutine") = false := by kernel_rfl
  have h6 : Try.f79.results.toList = [.tmp 6] := by kernel_rfl
  have h4 : Nat.ble 3 133 = true := by kernel_rfl
  have h5 : okCode 133 pl79 ls79 C79 0 = true := by kernel_rfl
  have e : W79 dataa datal datac a_ b w R = wpC none Try.prog 133 pl79 ls79 C79 0 (endP Try.prog [.tmp 6] R) (fr0 [(.slice dataa datal datac), (.int .i64 a_), (.int .i64 b)]) [] w := by kernel_rfl
  exact ca_of' (P := Try.prog) (g := 79) (fn := Try.f79) (c := C79) (m := 133) (rs := [.tmp 6]) (args := [(.slice dataa datal datac), (.int .i64 a_), (.int .i64 b)]) (pl := pl79) (ls := ls79) (w := w) (R := R) h1 Try.func79 h2 Try.ntmps79 h6 h3 h4 h5 (Eq.mp e h)
end Go.Proofs.Ytmnbnjkbbhjocaa

/- The library's general sort, at one type: what its parts do. -/
namespace Go.Proofs.Ytmnbnjkbbhjocaa.Sortuint64
open Go Go.Proofs.Ytmnbnjkbbhjocaa Go.Proofs.Ytmnbnjkbbhjocaa.St

theorem piv_eqs (a b l : Nat) (hab : a ≤ b) (hb : b ≤ l) (hl : l < 4611686018427387904) :
    IntKind.i64.wrap ((b : Int) - a) = ((b - a : Nat) : Int) ∧ Int.tdiv ((b - a : Nat) : Int) 4 = (((b - a) / 4 : Nat) : Int) ∧
    IntKind.i64.wrap ((a : Int) + IntKind.i64.wrap (IntKind.i64.wrap (((b - a) / 4 : Nat) : Int) * 1)) = ((a + (b - a) / 4 : Nat) : Int) ∧
    IntKind.i64.wrap ((a : Int) + IntKind.i64.wrap (IntKind.i64.wrap (((b - a) / 4 : Nat) : Int) * 2)) = ((a + (b - a) / 4 * 2 : Nat) : Int) ∧
    IntKind.i64.wrap ((a : Int) + IntKind.i64.wrap (IntKind.i64.wrap (((b - a) / 4 : Nat) : Int) * 3)) = ((a + (b - a) / 4 * 3 : Nat) : Int) :=
  ⟨(by first | (simp only [IntKind.wrap_i64]; omega) | omega), by rw [show (4 : Int) = ((4 : Nat) : Int) from rfl, ← Int.ofNat_tdiv], (by first | (simp only [IntKind.wrap_i64]; omega) | omega), (by first | (simp only [IntKind.wrap_i64]; omega) | omega), (by first | (simp only [IntKind.wrap_i64]; omega) | omega)⟩

section
variable (e : TypeId) (d : Option Addr) (l c : Nat) (xs : List Int) (w : World) (hd : Els (Value.int .u64) e w d l c xs) (hl : l < 4611686018427387904)
include hd hl

/-! ### The pivot -/
omit hl in
theorem order2_ok (s : Nat) (t : TypeId) (n : Int) (hs : w.heap[s]? = some (.cells #[.int .i64 n] t (0, 0))) (x y : Nat) (hx : x < l) (hy : y < l) (R : Value → World → Prop)
    (h : ∀ w' (n' : Int) (x' y' : Nat), (x' = x ∧ y' = y ∨ x' = y ∧ y' = x) → w'.heap[s]? = some (.cells #[.int .i64 n'] t (0, 0)) → Mod (on s) w w' → R (.tuple #[.int .i64 x', .int .i64 y']) w') :
    Ca Try.prog 88 #[.slice d l c, .int .i64 x, .int .i64 y, .pointer (some ⟨s, 0, none⟩)] w R := by
  refine ca88 d l c x y (some ⟨s, 0, none⟩) w R ?_
  intro w0 e0
  have m0 : Mod no w w0 := by subst e0; exact Mod.drew _
  clear e0
  have hs0 := m0.at' hs
  refine lss (hd.no m0) y x rfl rfl hy hx (fun _ => ?_) (fun _ => ?_)
  · refine ⟨n, by rw [cl hs0]; rfl, ⟨_, by rw [cl1 hs0]; rfl⟩, fz1 hs0 _, ?_⟩
    intro w1 e1
    have hs1 : w1.heap[s]? = some (.cells #[.int .i64 (IntKind.i64.wrap (n + 1))] t (0, 0)) := by subst e1; exact set1 hs0 _ _
    have m1 : Mod (on s) w0 w1 := by subst e1; exact Mod.set1 _ _ _ _
    exact h w1 _ y x (.inr ⟨rfl, rfl⟩) hs1 (m0.no_trans m1)
  · exact h w0 n x y (.inl ⟨rfl, rfl⟩) hs0 m0.of_no

omit hl in
theorem median_ok (s : Nat) (t : TypeId) (n : Int) (hs : w.heap[s]? = some (.cells #[.int .i64 n] t (0, 0))) (hne : ¬ rowB d s) (x y z : Nat) (hx : x < l) (hy : y < l) (hz : z < l) (R : Value → World → Prop)
    (h : ∀ w' (n' : Int) (m : Nat), (m = x ∨ m = y ∨ m = z) → w'.heap[s]? = some (.cells #[.int .i64 n'] t (0, 0)) → Mod (on s) w w' → R (.int .i64 m) w') :
    Ca Try.prog 86 #[.slice d l c, .int .i64 x, .int .i64 y, .int .i64 z, .pointer (some ⟨s, 0, none⟩)] w R := by
  refine ca86 d l c x y z (some ⟨s, 0, none⟩) w R ?_
  have keep : ∀ {w'}, Mod (on s) w w' → Els (Value.int .u64) e w' d l c xs := fun hm => hd.mod hm fun k hk he => hne (by cases he; exact hk)
  refine order2_ok e d l c xs w hd s t n hs x y hx hy _ fun w1 n1 x1 y1 h1 hs1 m1 => ⟨_, _, rfl, ?_⟩
  refine order2_ok e d l c xs w1 (keep m1) s t n1 hs1 y1 z (by omega) hz _ fun w2 n2 y2 z2 h2 hs2 m2 => ⟨_, _, rfl, ?_⟩
  refine order2_ok e d l c xs w2 (keep (m1.trans m2)) s t n2 hs2 x1 y2 (by omega) (by omega) _ fun w3 n3 x3 y3 h3 hs3 m3 => ⟨_, _, rfl, ?_⟩
  exact h w3 n3 y3 (by omega) hs3 ((m1.trans m2).trans m3)

theorem medianAdj_ok (s : Nat) (t : TypeId) (n : Int) (hs : w.heap[s]? = some (.cells #[.int .i64 n] t (0, 0))) (hne : ¬ rowB d s) (x : Nat) (hx : 0 < x) (hx1 : x + 1 < l) (R : Value → World → Prop)
    (h : ∀ w' (n' : Int) (m : Nat), (x ≤ m + 1 ∧ m ≤ x + 1) → w'.heap[s]? = some (.cells #[.int .i64 n'] t (0, 0)) → Mod (on s) w w' → R (.int .i64 m) w') :
    Ca Try.prog 85 #[.slice d l c, .int .i64 x, .pointer (some ⟨s, 0, none⟩)] w R := by
  refine ca85 d l c x (some ⟨s, 0, none⟩) w R ?_
  have e1 : IntKind.i64.wrap ((x : Int) - 1) = ((x - 1 : Nat) : Int) := (by first | (simp only [IntKind.wrap_i64]; omega) | omega)
  have e2 : IntKind.i64.wrap ((x : Int) + 1) = ((x + 1 : Nat) : Int) := (by first | (simp only [IntKind.wrap_i64]; omega) | omega)
  rw [W85, e1, e2]
  exact median_ok e d l c xs w hd s t n hs hne (x - 1) x (x + 1) (by omega) (by omega) hx1 _ fun w1 n1 m h1 hs1 m1 => ⟨_, rfl, h w1 n1 m (by rcases h1 with rfl | rfl | rfl <;> omega) hs1 m1⟩

theorem choosePivot_ok (a b : Nat) (hab : a + 8 ≤ b) (hb : b ≤ l) (R : Value → World → Prop)
    (h : ∀ w' (p : Nat) (hint : Int), a ≤ p → p < b → Mod no w w' → R (.tuple #[.int .i64 p, .int .i64 hint]) w') :
    Ca Try.prog 77 #[.slice d l c, .int .i64 a, .int .i64 b] w R := by
  refine ca77 d l c a b w R ?_
  obtain ⟨elen, e4, ei, ej, ek⟩ := piv_eqs a b l (by omega) hb hl
  rw [W77]
  simp only [elen, e4, ei, ej, ek]
  clear elen e4 ei ej ek
  intro w0 e0
  have m0 : Mod no w w0 := by subst e0; exact Mod.alloc _ _
  have hs0 : w0.heap[w.heap.size]? = some (.cells #[.int .i64 0] 3 (0, 0)) := by subst e0; exact new_at _ _
  clear e0
  have hne : ¬ rowB d w.heap.size := by
    intro hk
    obtain ⟨g, rfl, hc⟩ := hd.get (i := 0) (by have := hd.len; omega)
    have : g = w.heap.size := by simpa [rowB] using hk
    subst this
    have := hd.at (i := 0) (by have := hd.len; omega)
    obtain ⟨g', hg', hc'⟩ := this
    injection hg' with hg'; injection hg' with hg'; subst hg'
    rw [World.cell?, Array.getElem?_eq_none (by simp [Addr.add])] at hc'
    cases hc'
  have hd0 := hd.no m0
  have keep : ∀ {w'}, Mod (on w.heap.size) w0 w' → Els (Value.int .u64) e w' d l c xs := fun hm => hd0.mod hm fun k hk he => hne (by cases he; exact hk)
  refine ⟨by decide, by decide, by decide, fun x w' => ∃ (m : Nat) (n : Int), x = m ∧ a ≤ m ∧ m < b ∧ w'.heap[w.heap.size]? = some (.cells #[.int .i64 n] 3 (0, 0)) ∧ Mod (on w.heap.size) w0 w', ?_, ?_⟩
  · refine ifK_dec (fun _ => ifK_dec (fun h50 => ?_) (fun _ => ?_)) (fun hn => ?_)
    · refine medianAdj_ok e d l c xs w0 hd0 hl _ 3 0 hs0 hne _ (by omega) (by omega) _ fun w1 n1 x1 h1 hs1 m1 => ⟨_, rfl, ?_⟩
      refine medianAdj_ok e d l c xs w1 (keep m1) hl _ 3 n1 hs1 hne _ (by omega) (by omega) _ fun w2 n2 x2 h2 hs2 m2 => ⟨_, rfl, ?_⟩
      refine medianAdj_ok e d l c xs w2 (keep (m1.trans m2)) hl _ 3 n2 hs2 hne _ (by omega) (by omega) _ fun w3 n3 x3 h3 hs3 m3 => ⟨_, rfl, ?_⟩
      refine median_ok e d l c xs w3 (keep ((m1.trans m2).trans m3)) _ 3 n3 hs3 hne _ _ _ (by omega) (by omega) (by omega) _ fun w4 n4 x4 h4 hs4 m4 => ⟨_, rfl, ?_⟩
      have hx : a ≤ x4 ∧ x4 < b := by
        clear hs1 hs2 hs3 hs4 m1 m2 m3 m4 h
        rcases h4 with rfl | rfl | rfl <;> omega
      exact ⟨x4, n4, rfl, hx.1, hx.2, hs4, ((m1.trans m2).trans m3).trans m4⟩
    · refine median_ok e d l c xs w0 hd0 _ 3 0 hs0 hne _ _ _ (by omega) (by omega) (by omega) _ fun w4 n4 x4 h4 hs4 m4 => ⟨_, rfl, ?_⟩
      have hx : a ≤ x4 ∧ x4 < b := by rcases h4 with rfl | rfl | rfl <;> omega
      exact ⟨x4, n4, rfl, hx.1, hx.2, hs4, m4⟩
    · exact absurd hn (by omega)
  · rintro _ _ w1 ⟨m, n, rfl, h1, h2, hs1, m1⟩
    have m01 : Mod no w w1 := m0.new m1 fun k hk => by cases hk; exact Nat.le_refl _
    refine ⟨n, by rw [cl hs1]; rfl, ifK_of (fun _ => ?_) (fun _ => ifK_of (fun _ => ?_) (fun _ => ?_))⟩
    all_goals exact h w1 m _ h1 h2 m01

/-! ### Reversing, scattering -/
theorem reverse_ok (a b : Nat) (hab : a < b) (hb : b ≤ l) (R : Value → World → Prop)
    (h : ∀ w' ys, Els (Value.int .u64) e w' d l c ys → Seg a b xs ys → Mod (rowB d) w w' → R (.tuple #[]) w') :
    Ca Try.prog 78 #[.slice d l c, .int .i64 a, .int .i64 b] w R := by
  refine ca78 d l c a b w R ?_
  refine ⟨fun x y w' => ∃ (i j : Nat) (ys : List Int), x = i ∧ y = j ∧ a ≤ i ∧ i ≤ b ∧ j < b ∧ Els (Value.int .u64) e w' d l c ys ∧ Seg a b xs ys ∧ Mod (rowB d) w w', fun x y _ => (y - x).toNat,
    ⟨a, b - 1, xs, rfl, (by first | (simp only [IntKind.wrap_i64]; omega) | omega), Nat.le_refl _, by omega, by omega, hd, Seg.refl _ _ _, Mod.refl _ _⟩, ?_⟩
  rintro _ _ _ w1 ⟨i, j, ys, rfl, rfl, hi, hib, hj, hys, hsg, hm⟩
  have hyl := hys.len.1
  refine ifK_dec (fun hij => ?_) (fun _ => h w1 ys hys hsg hm)
  intro w2 e2
  have m2 : Mod no w1 w2 := by subst e2; exact Mod.drew _
  clear e2
  refine (hys.no m2).swp i j rfl rfl (by omega) (by omega) fun w3 h3 m3 => ?_
  exact ⟨⟨i + 1, j - 1, _, (by first | (simp only [IntKind.wrap_i64]; omega) | omega), (by first | (simp only [IntKind.wrap_i64]; omega) | omega), by omega, by omega, by omega, h3, hsg.trans (Seg.swap (by omega) (by omega) (by omega) (by omega) (by omega) (by omega)), (hm.trans_no m2).trans m3⟩, (by first | (simp only [IntKind.wrap_i64]; omega) | omega)⟩

/-! ### Parting -/
omit hd in
/-- As long as the left one is less. -/
theorem part_up (a b : Nat) (hb : b ≤ l) : ∀ (ys : List Int) (w' : World) (i j : Nat) (J : Int) (Q : Int → World → Prop), J = j → Els (Value.int .u64) e w' d l c ys → Pt ys a b i j →
    (∀ (i' : Nat) w'', Els (Value.int .u64) e w'' d l c ys → Pt ys a b i' j → (i' ≤ j → at0 ys a ≤ at0 ys i') → i ≤ i' → Mod no w' w'' → Q i' w'') →
    (∃ (z : Int → World → Prop) (m : Int → World → Nat), z i w' ∧ ∀ (_ : Nat → Value) (x : Int) (w1 : World), z x w1 → atW w1.drew fun w2 => ifK (decide (x ≤ J))
      (∃ ad : Addr, d = some ad ∧ (0 : Int) ≤ x ∧ x < (↑l : Int) ∧ ∃ y : Int, w2.cell? (Addr.add ad (Int.toNat x * 1)) = some ((Value.int .u64) y) ∧
        ∃ ad : Addr, d = some ad ∧ (0 : Int) ≤ (a : Int) ∧ (a : Int) < (↑l : Int) ∧ ∃ y' : Int, w2.cell? (Addr.add ad (Int.toNat (a : Int) * 1)) = some ((Value.int .u64) y') ∧
        Ca Try.prog 80 (Array.mk [(Value.int .u64) y, (Value.int .u64) y']) w2 (fun v w' => ∃ b : Bool, v = Value.bool b ∧ ifK b (z (IntKind.wrap .i64 (x + 1)) w' ∧ m (IntKind.wrap .i64 (x + 1)) w' < m x w1) (Q x w')))
      (Q x w2)) := by
  intro ys w' i j J Q hJ hys hpt hQ
  refine ⟨fun x w'' => ∃ i' : Nat, x = i' ∧ Els (Value.int .u64) e w'' d l c ys ∧ Pt ys a b i' j ∧ i ≤ i' ∧ Mod no w' w'', fun x _ => ((j : Int) + 1 - x).toNat, ⟨i, rfl, hys, hpt, Nat.le_refl _, Mod.refl _ _⟩, ?_⟩
  rintro _ _ w1 ⟨i', rfl, hy1, hp1, hi1, m1⟩ w2 e2
  have m2 : Mod no w1 w2 := by subst e2; exact Mod.drew _
  clear e2
  have hjb := hp1.jb
  have hai := hp1.ai
  refine ifK_dec (fun hle => ?_) (fun hgt => hQ i' w2 (hy1.no m2) hp1 (fun h => by omega) hi1 (m1.trans m2))
  refine lss (hy1.no m2) i' a rfl rfl (by omega) (by omega) (fun hlt => ?_) (fun hge => hQ i' w2 (hy1.no m2) hp1 (fun _ => Lin.nlt hge) hi1 (m1.trans m2))
  exact ⟨⟨i' + 1, (by first | (simp only [IntKind.wrap_i64]; omega) | omega), hy1.no m2, hp1.up (by omega) (Lin.lle hlt), by omega, m1.trans m2⟩, (by first | (simp only [IntKind.wrap_i64]; omega) | omega)⟩
omit hd in
/-- As long as the right one is not less. -/
theorem part_down (a b : Nat) (hb : b ≤ l) : ∀ (ys : List Int) (w' : World) (i j : Nat) (I : Int) (Q : Int → World → Prop), I = i → Els (Value.int .u64) e w' d l c ys → Pt ys a b i j → (i ≤ j → at0 ys a ≤ at0 ys i) →
    (∀ (j' : Nat) w'', Els (Value.int .u64) e w'' d l c ys → Pt ys a b i j' → (i ≤ j' → at0 ys a ≤ at0 ys i ∧ at0 ys j' < at0 ys a) → j' ≤ j → Mod no w' w'' → Q j' w'') →
    (∃ (z : Int → World → Prop) (m : Int → World → Nat), z j w' ∧ ∀ (_ : Nat → Value) (x : Int) (w1 : World), z x w1 → atW w1.drew fun w2 => ifK (decide (I ≤ x))
      (∃ ad : Addr, d = some ad ∧ (0 : Int) ≤ x ∧ x < (↑l : Int) ∧ ∃ y : Int, w2.cell? (Addr.add ad (Int.toNat x * 1)) = some ((Value.int .u64) y) ∧
        ∃ ad : Addr, d = some ad ∧ (0 : Int) ≤ (a : Int) ∧ (a : Int) < (↑l : Int) ∧ ∃ y' : Int, w2.cell? (Addr.add ad (Int.toNat (a : Int) * 1)) = some ((Value.int .u64) y') ∧
        Ca Try.prog 80 (Array.mk [(Value.int .u64) y, (Value.int .u64) y']) w2 (fun v w' => ∃ b : Bool, v = Value.bool b ∧ ifK (!b) (z (IntKind.wrap .i64 (x - 1)) w' ∧ m (IntKind.wrap .i64 (x - 1)) w' < m x w1) (Q x w')))
      (Q x w2)) := by
  intro ys w' i j I Q hI hys hpt hi0 hQ
  refine ⟨fun x w'' => ∃ j' : Nat, x = j' ∧ Els (Value.int .u64) e w'' d l c ys ∧ Pt ys a b i j' ∧ j' ≤ j ∧ Mod no w' w'', fun x _ => (x + 1 - (i : Int)).toNat, ⟨j, rfl, hys, hpt, Nat.le_refl _, Mod.refl _ _⟩, ?_⟩
  rintro _ _ w1 ⟨j', rfl, hy1, hp1, hj1, m1⟩ w2 e2
  have m2 : Mod no w1 w2 := by subst e2; exact Mod.drew _
  clear e2
  have hjb := hp1.jb
  have hai := hp1.ai
  refine ifK_dec (fun hle => ?_) (fun hgt => hQ j' w2 (hy1.no m2) hp1 (fun h => by omega) hj1 (m1.trans m2))
  refine nls (hy1.no m2) j' a rfl rfl (by omega) (by omega) (fun hge => ?_) (fun hlt => hQ j' w2 (hy1.no m2) hp1 (fun _ => ⟨hi0 (by omega), hlt⟩) hj1 (m1.trans m2))
  exact ⟨⟨j' - 1, (by first | (simp only [IntKind.wrap_i64]; omega) | omega), hy1.no m2, hp1.down (by omega) (Lin.nlt hge), by omega, m1.trans m2⟩, (by first | (simp only [IntKind.wrap_i64]; omega) | omega)⟩
theorem partition_ok (a b p : Nat) (hap : a ≤ p) (hpb : p < b) (hb : b ≤ l) (R : Value → World → Prop)
    (h : ∀ w' ys (m : Nat) (q : Bool), Els (Value.int .u64) e w' d l c ys → Seg a b xs ys → Parted ys a m b → Mod (rowB d) w w' → R (.tuple #[.int .i64 m, .bool q]) w') :
    Ca Try.prog 82 #[.slice d l c, .int .i64 a, .int .i64 b, .int .i64 p] w R := by
  have hxl := hd.len.1
  refine ca82 d l c a b p w R ?_
  have ea : IntKind.i64.wrap ((a : Int) + 1) = ((a + 1 : Nat) : Int) := (by first | (simp only [IntKind.wrap_i64]; omega) | omega)
  have eb : IntKind.i64.wrap ((b : Int) - 1) = ((b - 1 : Nat) : Int) := (by first | (simp only [IntKind.wrap_i64]; omega) | omega)
  rw [W82, ea, eb]
  clear ea eb
  intro w0 e0
  have m0 : Mod no w w0 := by subst e0; exact Mod.drew _
  clear e0
  refine (hd.no m0).swp a p rfl rfl (by omega) (by omega) fun w1 h1 m1 => ?_
  have m1 := m0.no_trans m1
  have s1 : Seg a b xs (swapL xs a p) := Seg.swap (by omega) (by omega) (by omega) (by omega) hap hpb
  have fin : ∀ (ys : List Int) (w' : World) (i j : Nat) (q : Bool), Els (Value.int .u64) e w' d l c ys → Seg a b xs ys → Pt ys a b i j → j < i → Mod (rowB d) w w' →
      ∀ w'', Els (Value.int .u64) e w'' d l c (swapL ys j a) → Mod (rowB d) w' w'' → R (.tuple #[.int .i64 j, .bool q]) w'' := by
    intro ys w' i j q hys hsg hpt hji hm w'' hy'' m''
    have hyl := hys.len.1
    have h1 := hpt.ai
    have h2 := hpt.ij
    have h3 := hpt.jb
    exact h w'' _ j q hy'' (hsg.trans (Seg.swap (by omega) (by omega) (by omega) (by omega) (by omega) (by omega))) (hpt.done (by omega) hji) (hm.trans m'')
  refine ⟨_, part_up e d l c hl a b hb _ w1 (a + 1) (b - 1) _ (fun x w' => ∃ i : Nat, x = i ∧ Els (Value.int .u64) e w' d l c (swapL xs a p) ∧ Pt (swapL xs a p) a b i (b - 1) ∧ (i ≤ b - 1 → at0 (swapL xs a p) a ≤ at0 (swapL xs a p) i) ∧ Mod (rowB d) w w') rfl h1
    ⟨Nat.le_refl _, by omega, by omega, fun k h1 h2 => by omega, fun k h1 h2 => by omega⟩ (fun i w' h1 h2 h3 _ h4 => ⟨i, rfl, h1, h2, h3, m1.trans_no h4⟩), ?_⟩
  rintro _ _ w2 ⟨i, rfl, h2, hpt, hi, m2⟩
  refine ⟨_, part_down e d l c hl a b hb _ w2 i (b - 1) _ (fun x w' => ∃ j : Nat, x = j ∧ Els (Value.int .u64) e w' d l c (swapL xs a p) ∧ Pt (swapL xs a p) a b i j ∧ (i ≤ j → at0 (swapL xs a p) a ≤ at0 (swapL xs a p) i ∧ at0 (swapL xs a p) j < at0 (swapL xs a p) a) ∧ Mod (rowB d) w w') rfl h2 hpt hi
    (fun j w' h1 h2 h3 _ h4 => ⟨j, rfl, h1, h2, h3, m2.trans_no h4⟩), ?_⟩
  rintro _ _ w3 ⟨j, rfl, h3, hpt, hij, m3⟩
  have hjb := hpt.jb
  have hai := hpt.ai
  have hil := hpt.ij
  have step : ∀ (ys : List Int) (w' : World) (i j : Nat), Els (Value.int .u64) e w' d l c ys → Seg a b xs ys → Pt ys a b i j → (i ≤ j → at0 ys a ≤ at0 ys i ∧ at0 ys j < at0 ys a) → i ≤ j → i < j := by
    intro ys w' i j _ _ hpt hij hle
    refine Nat.lt_of_le_of_ne hle fun e => ?_
    subst e
    have := hij hle
    exact absurd this.2 (by simpa using this.1)
  refine ifK_dec (fun hgt => ?_) (fun hle => ?_)
  · intro w4 e4
    have m4 : Mod no w3 w4 := by subst e4; exact Mod.drew _
    clear e4
    refine (h3.no m4).swp j a rfl rfl (by omega) (by omega) fun w5 h5 m5 => ?_
    exact fin _ w4 i j true (h3.no m4) s1 hpt (by omega) (m3.trans_no m4) w5 h5 m5
  · intro w4 e4
    have m4 : Mod no w3 w4 := by subst e4; exact Mod.drew _
    clear e4
    have hlt := step _ w3 i j h3 s1 hpt hij (by omega)
    obtain ⟨hx, hy⟩ := hij (by omega)
    refine (h3.no m4).swp i j rfl rfl (by omega) (by omega) fun w5 h5 m5 => ?_
    have hl3 := h3.len.1
    refine ⟨fun x y w' => ∃ (i j : Nat) (ys : List Int), x = i ∧ y = j ∧ Els (Value.int .u64) e w' d l c ys ∧ Seg a b xs ys ∧ Pt ys a b i j ∧ Mod (rowB d) w w', fun x y _ => (y + 1 - x).toNat,
      ⟨i + 1, j - 1, _, (by first | (simp only [IntKind.wrap_i64]; omega) | omega), (by first | (simp only [IntKind.wrap_i64]; omega) | omega), h5, s1.trans (Seg.swap (by omega) (by omega) (by omega) (by omega) (by omega) (by omega)), hpt.swap (by omega) hlt (Lin.lle hy) hx, (m3.trans_no m4).trans m5⟩, ?_⟩
    rintro _ _ _ w6 ⟨i6, j6, ys, rfl, rfl, h6, s6, hpt6, m6⟩
    refine ⟨_, part_up e d l c hl a b hb _ w6 i6 j6 _ (fun x w' => ∃ i : Nat, x = i ∧ Els (Value.int .u64) e w' d l c ys ∧ Pt ys a b i j6 ∧ (i ≤ j6 → at0 ys a ≤ at0 ys i) ∧ i6 ≤ i ∧ Mod (rowB d) w w') rfl h6 hpt6
      (fun i w' h1 h2 h3 h5 h4 => ⟨i, rfl, h1, h2, h3, h5, m6.trans_no h4⟩), ?_⟩
    rintro _ _ w7 ⟨i7, rfl, h7, hpt7, hi7, hii, m7⟩
    refine ⟨_, part_down e d l c hl a b hb _ w7 i7 j6 _ (fun x w' => ∃ j : Nat, x = j ∧ Els (Value.int .u64) e w' d l c ys ∧ Pt ys a b i7 j ∧ (i7 ≤ j → at0 ys a ≤ at0 ys i7 ∧ at0 ys j < at0 ys a) ∧ j ≤ j6 ∧ Mod (rowB d) w w') rfl h7 hpt7 hi7
      (fun j w' h1 h2 h3 h5 h4 => ⟨j, rfl, h1, h2, h3, h5, m7.trans_no h4⟩), ?_⟩
    rintro _ _ w8 ⟨j8, rfl, h8, hpt8, hij8, hjj, m8⟩
    have hjb8 := hpt8.jb
    have hai8 := hpt8.ai
    have hil8 := hpt8.ij
    have hl8 := h8.len.1
    refine ifK_dec (fun hgt => ?_) (fun hle => ?_)
    · intro w9 e9
      have m9 : Mod no w8 w9 := by subst e9; exact Mod.drew _
      clear e9
      refine (h8.no m9).swp j8 a rfl rfl (by omega) (by omega) fun w10 h10 m10 => ?_
      exact fin _ w9 i7 j8 false (h8.no m9) s6 hpt8 (by omega) (m8.trans_no m9) w10 h10 m10
    · intro w9 e9
      have m9 : Mod no w8 w9 := by subst e9; exact Mod.drew _
      clear e9
      have hlt8 := step _ w8 i7 j8 h8 s6 hpt8 hij8 (by omega)
      obtain ⟨hx8, hy8⟩ := hij8 (by omega)
      refine (h8.no m9).swp i7 j8 rfl rfl (by omega) (by omega) fun w10 h10 m10 => ?_
      exact ⟨⟨i7 + 1, j8 - 1, _, (by first | (simp only [IntKind.wrap_i64]; omega) | omega), (by first | (simp only [IntKind.wrap_i64]; omega) | omega), h10, s6.trans (Seg.swap (by omega) (by omega) (by omega) (by omega) (by omega) (by omega)), hpt8.swap (by omega) hlt8 (Lin.lle hy8) hx8, (m8.trans_no m9).trans m10⟩, (by first | (simp only [IntKind.wrap_i64]; omega) | omega)⟩
end
end Go.Proofs.Ytmnbnjkbbhjocaa.Sortuint64

/- The library's general sort, at one type: parting off what is equal, heap sort, scattering, sorting what is nearly sorted. -/
namespace Go.Proofs.Ytmnbnjkbbhjocaa.Sortuint64
open Go Go.Proofs.Ytmnbnjkbbhjocaa Go.Proofs.Ytmnbnjkbbhjocaa.St

section
variable (e : TypeId) (d : Option Addr) (l c : Nat) (xs : List Int) (w : World) (hd : Els (Value.int .u64) e w d l c xs) (hl : l < 4611686018427387904)
include hd hl

theorem partEq_ok (a b p : Nat) (hap : a ≤ p) (hpb : p < b) (hb : b ≤ l) (hmin : ∀ k, a ≤ k → k < b → at0 xs p ≤ at0 xs k) (R : Value → World → Prop)
    (h : ∀ w' ys (m : Nat), Els (Value.int .u64) e w' d l c ys → Seg a b xs ys → Eqd ys a m b → Mod (rowB d) w w' → R (.int .i64 m) w') :
    Ca Try.prog 81 #[.slice d l c, .int .i64 a, .int .i64 b, .int .i64 p] w R := by
  refine ca81 d l c a b p w R ?_
  have ea : IntKind.i64.wrap ((a : Int) + 1) = ((a + 1 : Nat) : Int) := (by first | (simp only [IntKind.wrap_i64]; omega) | omega)
  have eb : IntKind.i64.wrap ((b : Int) - 1) = ((b - 1 : Nat) : Int) := (by first | (simp only [IntKind.wrap_i64]; omega) | omega)
  rw [W81, ea, eb]
  clear ea eb
  intro w0 e0
  have m0 : Mod no w w0 := by subst e0; exact Mod.drew _
  clear e0
  refine (hd.no m0).swp a p rfl rfl (by omega) (by omega) fun w1 h1 m1 => ?_
  have m1 := m0.no_trans m1
  have s1 : Seg a b xs (swapL xs a p) := hd.seg (by omega) (by omega) (by omega) (by omega) hap hpb
  have p1 : AtE (swapL xs a p) a (at0 xs p) := by
    refine ⟨?_⟩
    rw [at0_swapL (hd.lt (by omega)) (hd.lt (by omega))]
    by_cases e : a = p
    · rw [if_pos e, e]
    · rw [if_neg e, if_pos rfl]
  refine ⟨fun x y w' => ∃ (i j : Nat) (ys : List Int), x = i ∧ y = j ∧ Els (Value.int .u64) e w' d l c ys ∧ Seg a b xs ys ∧ Pt ys a b i j ∧ AtE ys a (at0 xs p) ∧ Mod (rowB d) w w', fun x y _ => (y + 1 - x).toNat,
    ⟨a + 1, b - 1, _, rfl, rfl, h1, s1, ⟨Nat.le_refl _, by omega, by omega, fun k h1 h2 => by omega, fun k h1 h2 => by omega⟩, p1, m1⟩, ?_⟩
  rintro _ _ _ w2 ⟨i, j, ys, rfl, rfl, h2, s2, hpt, hp2, m2⟩
  refine ⟨fun x w' => ∃ i' : Nat, x = i' ∧ Els (Value.int .u64) e w' d l c ys ∧ Pt ys a b i' j ∧ i ≤ i' ∧ (i' ≤ j → at0 ys a < at0 ys i') ∧ Mod (rowB d) w w', ⟨fun x w' => ∃ i' : Nat, x = i' ∧ Els (Value.int .u64) e w' d l c ys ∧ Pt ys a b i' j ∧ i ≤ i' ∧ Mod (rowB d) w w',
    fun x _ => ((j : Int) + 1 - x).toNat, ⟨i, rfl, h2, hpt, Nat.le_refl _, m2⟩, ?_⟩, ?_⟩
  · rintro _ _ w3 ⟨i', rfl, h3, hp3, hi3, m3⟩ w4 e4
    have m4 : Mod no w3 w4 := by subst e4; exact Mod.drew _
    clear e4
    have hjb := hp3.jb
    have hai := hp3.ai
    have m4' := m3.trans_no m4
    refine ifK_dec (fun hle => ?_) (fun hgt => ⟨i', rfl, h3.no m4, hp3, hi3, fun h => by omega, m4'⟩)
    refine nls (h3.no m4) a i' rfl rfl (by omega) (by omega) (fun hge => ?_) (fun hlt => ⟨i', rfl, h3.no m4, hp3, hi3, fun _ => hlt, m4'⟩)
    exact ⟨⟨i' + 1, (by first | (simp only [IntKind.wrap_i64]; omega) | omega), h3.no m4, hp3.up (by omega) (Lin.nlt hge), by omega, m4'⟩, (by first | (simp only [IntKind.wrap_i64]; omega) | omega)⟩
  rintro _ _ w5 ⟨i5, rfl, h5, hp5, hi5, hx5, m5⟩
  refine ⟨fun x w' => ∃ j' : Nat, x = j' ∧ Els (Value.int .u64) e w' d l c ys ∧ Pt ys a b i5 j' ∧ j' ≤ j ∧ (i5 ≤ j' → at0 ys j' ≤ at0 ys a) ∧ Mod (rowB d) w w', ⟨fun x w' => ∃ j' : Nat, x = j' ∧ Els (Value.int .u64) e w' d l c ys ∧ Pt ys a b i5 j' ∧ j' ≤ j ∧ Mod (rowB d) w w',
    fun x _ => (x + 1 - (i5 : Int)).toNat, ⟨j, rfl, h5, hp5, Nat.le_refl _, m5⟩, ?_⟩, ?_⟩
  · rintro _ _ w3 ⟨j', rfl, h3, hp3, hi3, m3⟩ w4 e4
    have m4 : Mod no w3 w4 := by subst e4; exact Mod.drew _
    clear e4
    have hjb := hp3.jb
    have hai := hp3.ai
    have m4' := m3.trans_no m4
    refine ifK_dec (fun hle => ?_) (fun hgt => ⟨j', rfl, h3.no m4, hp3, hi3, fun h => by omega, m4'⟩)
    refine lss (h3.no m4) a j' rfl rfl (by omega) (by omega) (fun hlt => ?_) (fun hge => ⟨j', rfl, h3.no m4, hp3, hi3, fun _ => Lin.nlt hge, m4'⟩)
    exact ⟨⟨j' - 1, (by first | (simp only [IntKind.wrap_i64]; omega) | omega), h3.no m4, hp3.down (by omega) (Lin.lle hlt), by omega, m4'⟩, (by first | (simp only [IntKind.wrap_i64]; omega) | omega)⟩
  rintro _ _ w6 ⟨j6, rfl, h6, hp6, hj6, hx6, m6⟩
  have hjb := hp6.jb
  have hai := hp6.ai
  have hil := hp6.ij
  refine ifK_dec (fun hgt => ?_) (fun hle => ?_)
  · refine h w6 ys i5 h6 s2 (hp6.eqd (by omega) fun k h7 h8 => ?_) m6
    rw [hp2.eq]
    exact s2.all (hd.le hb) (P := fun v => at0 xs p ≤ v) hmin k h7 h8
  · intro w7 e7
    have m7 : Mod no w6 w7 := by subst e7; exact Mod.drew _
    clear e7
    have hlt : i5 < j6 := by
      refine Nat.lt_of_le_of_ne (by omega) fun e => ?_
      subst e
      have h7 := hx5 (by omega)
      have h8 := hx6 (by omega)
      exact absurd h7 (by simpa using h8)
    refine (h6.no m7).swp i5 j6 rfl rfl (by omega) (by omega) fun w8 h8 m8 => ?_
    refine ⟨⟨i5 + 1, j6 - 1, _, (by first | (simp only [IntKind.wrap_i64]; omega) | omega), (by first | (simp only [IntKind.wrap_i64]; omega) | omega), h8, s2.trans (h6.seg (by omega) (by omega) (by omega) (by omega) (by omega) (by omega)), hp6.swap (h6.le hb) hlt (hx6 (by omega)) (Lin.lle (hx5 (by omega))), ?_, (m6.trans_no m7).trans m8⟩, (by first | (simp only [IntKind.wrap_i64]; omega) | omega)⟩
    exact ⟨by rw [at0_swapL (h6.lt (by omega)) (h6.lt (by omega)), if_neg (by omega), if_neg (by omega), hp2.eq]⟩

/-! ### Heap sort -/
theorem siftDown_ok (lo hi f : Nat) (hlo : lo ≤ hi) (hf : f + hi ≤ l) (hh : Hp xs f (lo + 1) hi) (R : Value → World → Prop)
    (h : ∀ w' ys, Els (Value.int .u64) e w' d l c ys → Seg (f + lo) (f + hi) xs ys → Hp ys f lo hi → Mod (rowB d) w w' → R (.tuple #[]) w') :
    Ca Try.prog 84 #[.slice d l c, .int .i64 lo, .int .i64 hi, .int .i64 f] w R := by
  refine ca84 d l c lo hi f w R ?_
  refine ⟨fun x w' => ∃ (r : Nat) (ys : List Int), x = r ∧ lo ≤ r ∧ (r < hi ∨ r = lo) ∧ Els (Value.int .u64) e w' d l c ys ∧ Seg (f + lo) (f + hi) xs ys ∧ Sift ys f lo hi r ∧ Mod (rowB d) w w', fun x _ => ((hi : Int) - x).toNat,
    ⟨lo, xs, rfl, Nat.le_refl _, .inr rfl, hd, Seg.refl _ _ _, Sift.start hh, Mod.refl _ _⟩, ?_⟩
  rintro _ _ w1 ⟨r, ys, rfl, hlr, hr, h1, s1, hs1, m1⟩
  refine ifK_of (fun hb => ?_) (fun hb => ?_)
  · have hb : hi ≤ 2 * r + 1 := by
      have := of_decide_eq_true hb
      clear hb
      simp only [IntKind.wrap_i64] at this
      omega
    exact h w1 ys h1 s1 (hs1.done fun k h2 h3 => by omega) m1
  have hb : 2 * r + 1 < hi := by
    have := of_decide_eq_false hb
    clear hb
    simp only [IntKind.wrap_i64] at this
    omega
  refine ⟨fun x w' => ∃ k : Nat, x = k ∧ (k = 2 * r + 1 ∨ k = 2 * r + 2) ∧ k < hi ∧ (∀ q, (q = 2 * r + 1 ∨ q = 2 * r + 2) → q < hi → at0 ys (f + q) ≤ at0 ys (f + k)) ∧ Els (Value.int .u64) e w' d l c ys ∧ Mod (rowB d) w w', ?_, ?_⟩
  · intro w2 e2
    have m2 : Mod no w1 w2 := by subst e2; exact Mod.drew _
    clear e2
    refine ifK_of (fun hc => ?_) (fun hc => ?_)
    · have hc : 2 * r + 2 < hi := by
        have := of_decide_eq_true hc
        clear hc
        simp only [IntKind.wrap_i64] at this
        omega
      refine lss (h1.no m2) (f + (2 * r + 1)) (f + (2 * r + 2)) (by first | (simp only [IntKind.wrap_i64]; omega) | omega) (by first | (simp only [IntKind.wrap_i64]; omega) | omega) (by omega) (by omega) (fun hlt => ?_) (fun hge => ?_)
      · refine ⟨2 * r + 2, (by first | (simp only [IntKind.wrap_i64]; omega) | omega), .inr rfl, hc, fun q hq hqh => ?_, h1.no m2, m1.trans_no m2⟩
        rcases hq with rfl | rfl
        · exact Lin.lle hlt
        · exact Lin.refl _
      · refine ⟨2 * r + 1, (by first | (simp only [IntKind.wrap_i64]; omega) | omega), .inl rfl, hb, fun q hq hqh => ?_, h1.no m2, m1.trans_no m2⟩
        rcases hq with rfl | rfl
        · exact Lin.refl _
        · exact Lin.nlt hge
    · have hc : hi ≤ 2 * r + 2 := by
        have := of_decide_eq_false hc
        clear hc
        simp only [IntKind.wrap_i64] at this
        omega
      refine ⟨2 * r + 1, (by first | (simp only [IntKind.wrap_i64]; omega) | omega), .inl rfl, hb, fun q hq hqh => ?_, h1.no m2, m1.trans_no m2⟩
      rcases hq with rfl | rfl
      · exact Lin.refl _
      · omega
  rintro _ _ w3 ⟨k, rfl, hk, hkh, hmax, h3, m3⟩ w4 e4
  have m4 : Mod no w3 w4 := by subst e4; exact Mod.drew _
  clear e4
  refine nls (h3.no m4) (f + r) (f + k) (by first | (simp only [IntKind.wrap_i64]; omega) | omega) (by first | (simp only [IntKind.wrap_i64]; omega) | omega) (by omega) (by omega) (fun hge => ?_) (fun hlt => ?_)
  · exact h w4 ys (h3.no m4) s1 (hs1.done fun q hq hqh => Lin.tr (hmax q hq hqh) (Lin.nlt hge)) (m3.trans_no m4)
  · intro w5 e5
    have m5 : Mod no w4 w5 := by subst e5; exact Mod.drew _
    clear e5
    refine ((h3.no m4).no m5).swp (f + r) (f + k) (by first | (simp only [IntKind.wrap_i64]; omega) | omega) (by first | (simp only [IntKind.wrap_i64]; omega) | omega) (by omega) (by omega) fun w6 h6 m6 => ?_
    refine ⟨⟨k, _, rfl, by omega, .inl hkh, h6, s1.trans (h1.seg (by omega) (by omega) (by omega) (by omega) (by omega) (by omega)), hs1.step hlr (h1.le hf) hk hkh hmax hlt, ((m3.trans_no m4).trans_no m5).trans m6⟩, by simp only; omega⟩

theorem heapSort_ok (a b : Nat) (hab : a < b) (hb : b ≤ l) (R : Value → World → Prop)
    (h : ∀ w' ys, Els (Value.int .u64) e w' d l c ys → Seg a b xs ys → Srt ys a b → Mod (rowB d) w w' → R (.tuple #[]) w') :
    Ca Try.prog 75 #[.slice d l c, .int .i64 a, .int .i64 b] w R := by
  refine ca75 d l c a b w R ?_
  obtain ⟨n, rfl⟩ : ∃ n, b = a + (n + 1) := ⟨b - a - 1, by omega⟩
  have e1 : IntKind.i64.wrap (((a + (n + 1) : Nat) : Int) - a) = ((n + 1 : Nat) : Int) := (by first | (simp only [IntKind.wrap_i64]; omega) | omega)
  have e2 : IntKind.i64.wrap (((n + 1 : Nat) : Int) - 1) = (n : Int) := (by first | (simp only [IntKind.wrap_i64]; omega) | omega)
  have e3 : Int.tdiv (n : Int) 2 = ((n / 2 : Nat) : Int) := by rw [show (2 : Int) = ((2 : Nat) : Int) from rfl, ← Int.ofNat_tdiv]
  have e4 : IntKind.i64.wrap ((n / 2 : Nat) : Int) = ((n / 2 : Nat) : Int) := (by first | (simp only [IntKind.wrap_i64]; omega) | omega)
  rw [W75, e1, e2, e3, e4]
  clear e1 e2 e3 e4
  refine ⟨by decide, ?_⟩
  refine ⟨fun x w' => ∃ (i : Nat) (ys : List Int), x = (i : Int) - 1 ∧ i ≤ n + 1 ∧ Els (Value.int .u64) e w' d l c ys ∧ Seg a (a + (n + 1)) xs ys ∧ Hp ys a i (n + 1) ∧ Mod (rowB d) w w', fun x _ => (x + 1).toNat,
    ⟨n / 2 + 1, xs, by omega, by omega, hd, Seg.refl _ _ _, fun p k h1 h2 h3 => by omega, Mod.refl _ _⟩, ?_⟩
  rintro _ _ w1 ⟨i, ys, rfl, hi, h1, s1, hp1, m1⟩
  refine ifK_dec (fun hge => ?_) (fun hlt => ?_)
  · obtain ⟨k, rfl⟩ : ∃ k, i = k + 1 := ⟨i - 1, by omega⟩
    rw [show ((k + 1 : Nat) : Int) - 1 = (k : Int) by omega]
    refine siftDown_ok e d l c ys w1 h1 hl k (n + 1) a (by omega) (by omega) hp1 _ fun w2 zs h2 s2 hp2 m2 => ⟨rfl, ⟨k, zs, (by first | (simp only [IntKind.wrap_i64]; omega) | omega), by omega, h2, s1.trans (s2.mono (by omega) (by omega)), hp2, m1.trans m2⟩, (by first | (simp only [IntKind.wrap_i64]; omega) | omega)⟩
  · have : i = 0 := by omega
    subst this
    refine ⟨fun x w' => ∃ (i : Nat) (ys : List Int), x = (i : Int) - 1 ∧ i ≤ n + 1 ∧ Els (Value.int .u64) e w' d l c ys ∧ Seg a (a + (n + 1)) xs ys ∧ Pop ys a i (n + 1) ∧ Mod (rowB d) w w', fun x _ => (x + 1).toNat,
      ⟨n + 1, ys, by omega, by omega, h1, s1, Pop.start hp1, m1⟩, ?_⟩
    rintro _ _ w2 ⟨i, ys, rfl, hi, h2, s2, hp2, m2⟩
    refine ifK_dec (fun hge => ?_) (fun hlt => ?_)
    · obtain ⟨k, rfl⟩ : ∃ k, i = k + 1 := ⟨i - 1, by omega⟩
      rw [show ((k + 1 : Nat) : Int) - 1 = (k : Int) by omega]
      intro w3 e3
      have m3 : Mod no w2 w3 := by subst e3; exact Mod.drew _
      clear e3
      refine (h2.no m3).swp a (a + k) rfl (by first | (simp only [IntKind.wrap_i64]; omega) | omega) (by omega) (by omega) fun w4 h4 m4 => ?_
      refine siftDown_ok e d l c _ w4 h4 hl 0 k a (by omega) (by omega) (hp2.swap (by omega) (h2.le (by omega))) _ fun w5 zs h5 s5 hp5 m5 => ⟨rfl, ⟨k, zs, (by first | (simp only [IntKind.wrap_i64]; omega) | omega), by omega, h5, ?_, hp2.step (by omega) (h2.le (by omega)) s5 hp5, ((m2.trans_no m3).trans m4).trans m5⟩, (by first | (simp only [IntKind.wrap_i64]; omega) | omega)⟩
      exact (s2.trans (h2.seg (by omega) (by omega) (by omega) (by omega) (by omega) (by omega))).trans (s5.mono (by omega) (by omega))
    · have : i = 0 := by omega
      subst this
      exact h w2 ys h2 s2 hp2.done m2
end

/-! ### Scattering -/
theorem wrapU (x : Int) : IntKind.wrap .u64 x = x % 18446744073709551616 := by simp [IntKind.wrap, IntKind.bits, IntKind.signed]
theorem nextPow_ok (n : Nat) (hn : 0 < n) (hl : n < 4611686018427387904) (w : World) (R : Value → World → Prop) (h : ∀ k : Nat, k ≤ 2 * n → 0 < k → R (.int .u64 k) w) : Ca Try.prog 69 #[.int .i64 n] w R := by
  refine ca69 n w R ?_
  have e1 : IntKind.wrap .u64 (n : Int) = n := by rw [wrapU]; omega
  rw [W69, e1]
  clear e1
  refine bitsLen_ok n w _ fun k hk => ⟨_, rfl, by omega, ?_⟩
  obtain ⟨h1, h2⟩ := hk (by omega) (by omega)
  have h3 : ((2 ^ k : Nat) : Int) ≤ 2 * n := by simpa using h2
  have h4 : 0 < 2 ^ k := Nat.pow_pos (by decide)
  have e2 : IntKind.wrap .u64 (1 * 2 ^ min (Int.toNat (k : Int)) 64) = ((2 ^ k : Nat) : Int) := by
    have e3 : min (Int.toNat (k : Int)) 64 = k := by omega
    have e4 : (1 : Int) * 2 ^ k = ((2 ^ k : Nat) : Int) := by simp
    rw [e3, e4, wrapU]
    omega
  rw [e2]
  exact h _ (by omega) h4
theorem xorNext_ok (s : Nat) (t : TypeId) (n : Int) (w : World) (hs : w.heap[s]? = some (.cells #[.int .u64 n] t (0, 0))) (R : Value → World → Prop)
    (h : ∀ w' (n' : Int), w'.heap[s]? = some (.cells #[.int .u64 n'] t (0, 0)) → Mod (on s) w w' → R (.int .u64 n') w') : Ca Try.prog 70 #[.pointer (some ⟨s, 0, none⟩)] w R := by
  refine ca70 (some ⟨s, 0, none⟩) w R ?_
  have step : ∀ (w : World) (n m : Int) (K : World → Prop), w.heap[s]? = some (.cells #[.int .u64 n] t (0, 0)) → (∀ w', w'.heap[s]? = some (.cells #[.int .u64 m] t (0, 0)) → Mod (on s) w w' → K w') →
      (∃ v : Value, w.cell? (Addr.add ⟨s, 0, none⟩ 0) = some v) ∧ w.frozen? (Addr.add ⟨s, 0, none⟩ 0) = false ∧ atW (w.setCell (Addr.add ⟨s, 0, none⟩ 0) (.int .u64 m)) K := by
    intro w n m K hs hK
    refine ⟨⟨_, by rw [cl1 hs]; rfl⟩, fz1 hs _, fun w' e => ?_⟩
    subst e
    exact hK _ (set1 hs 0 _) (Mod.set1 _ _ _ _)
  intro w0 e0
  have m0 : Mod no w w0 := by subst e0; exact Mod.drew _
  clear e0
  have hs0 := m0.at' hs
  refine ⟨n, by rw [cl hs0]; rfl, n, by rw [cl hs0]; rfl, by decide, step w0 n _ _ hs0 fun w1 hs1 m1 => ?_⟩
  intro w2 e2
  have m2 : Mod no w1 w2 := by subst e2; exact Mod.drew _
  clear e2
  have hs2 := m2.at' hs1
  refine ⟨_, by rw [cl hs2]; rfl, _, by rw [cl hs2]; rfl, by decide, step w2 _ _ _ hs2 fun w3 hs3 m3 => ?_⟩
  intro w4 e4
  have m4 : Mod no w3 w4 := by subst e4; exact Mod.drew _
  clear e4
  have hs4 := m4.at' hs3
  refine ⟨_, by rw [cl hs4]; rfl, _, by rw [cl hs4]; rfl, by decide, step w4 _ _ _ hs4 fun w5 hs5 m5 => ?_⟩
  exact ⟨_, by rw [cl hs5]; rfl, h w5 _ hs5 (((((m0.no_trans m1).trans_no m2).trans m3).trans_no m4).trans m5)⟩

theorem and_le (x y : Int) (k : Nat) (hy : y = k) (hk : k < 18446744073709551616) : ((BitVec.ofInt 64 x &&& BitVec.ofInt 64 y).toNat) ≤ k := by
  rw [BitVec.toNat_and]
  refine Nat.le_trans Nat.and_le_right ?_
  rw [hy, BitVec.toNat_ofInt]
  omega
theorem breakP_ok (e : TypeId) (d : Option Addr) (l c : Nat) (xs : List Int) (w : World) (hd : Els (Value.int .u64) e w d l c xs) (hl : l < 4611686018427387904) (a b : Nat) (hab : a + 8 ≤ b) (hb : b ≤ l) (R : Value → World → Prop)
    (h : ∀ w' ys, Els (Value.int .u64) e w' d l c ys → Seg a b xs ys → Mod (rowB d) w w' → R (.tuple #[]) w') :
    Ca Try.prog 76 #[.slice d l c, .int .i64 a, .int .i64 b] w R := by
  refine ca76 d l c a b w R ?_
  obtain ⟨elen, e4, ei, ej, ek⟩ := piv_eqs a b l (by omega) hb hl
  rw [W76]
  simp only [elen, e4, ej]
  clear elen e4 ei ej ek
  have hq : a + (b - a) / 4 * 2 + 1 < b ∧ a + 1 ≤ a + (b - a) / 4 * 2 := by omega
  generalize a + (b - a) / 4 * 2 = mid at hq
  have em : IntKind.i64.wrap ((mid : Int) - 1) = ((mid - 1 : Nat) : Int) := (by first | (simp only [IntKind.wrap_i64]; omega) | omega)
  have ep : IntKind.i64.wrap ((mid : Int) + 1) = ((mid + 1 : Nat) : Int) := (by first | (simp only [IntKind.wrap_i64]; omega) | omega)
  rw [em, ep]
  clear em ep
  refine ifK_of (fun _ => ?_) (fun hn => absurd (of_decide_eq_false hn) (by omega))
  intro w0 e0
  have m0 : Mod no w w0 := by subst e0; exact Mod.alloc _ _
  have hs0 : ∃ t, w0.heap[w.heap.size]? = some (.cells #[.int .u64 0] t (0, 0)) := by subst e0; exact ⟨_, new_at _ _⟩
  clear e0
  obtain ⟨t, hs0⟩ := hs0
  have hne : ¬ rowB d w.heap.size := by
    intro hk
    obtain ⟨g, rfl, hc⟩ := hd.get (i := 0) (by have := hd.len; omega)
    have : g = w.heap.size := by simpa [rowB] using hk
    subst this
    rw [World.cell?, Array.getElem?_eq_none (by simp [Addr.add])] at hc
    cases hc
  refine ⟨⟨_, by rw [cl1 hs0]; rfl⟩, fz1 hs0 _, ?_⟩
  intro w2 e2
  have m2 : Mod (on w.heap.size) w0 w2 := by subst e2; exact Mod.set1 _ _ _ _
  have hs2 : ∃ n : Int, w2.heap[w.heap.size]? = some (.cells #[.int .u64 n] t (0, 0)) := by subst e2; exact ⟨_, set1 hs0 0 _⟩
  clear e2
  have m02 : Mod no w w2 := m0.new m2 fun k hk => by cases hk; exact Nat.le_refl _
  refine nextPow_ok (b - a) (by omega) (by omega) w2 _ fun k hk hk0 => ⟨_, rfl, by decide, ?_⟩
  refine ⟨fun x w' => ∃ (i : Nat) (n : Int) (ys : List Int), x = i ∧ mid - 1 ≤ i ∧ i ≤ mid + 2 ∧ w'.heap[w.heap.size]? = some (.cells #[.int .u64 n] t (0, 0)) ∧ Els (Value.int .u64) e w' d l c ys ∧ Seg a b xs ys ∧ Mod (fun k => rowB d k ∨ k = w.heap.size) w w', fun x _ => ((mid : Int) + 2 - x).toNat, ?_, ?_⟩
  · obtain ⟨n, hs2⟩ := hs2
    exact ⟨mid - 1, n, xs, rfl, Nat.le_refl _, by omega, hs2, hd.no m02, Seg.refl _ _ _, m02.of_no⟩
  rintro _ _ w3 ⟨i, n, ys, rfl, hi1, hi2, hs3, h3, s3, m3⟩
  have m3' : Mod (rowB d) w w3 := m3.mono fun k hk h => by
    rcases h with h | h
    · exact h
    · omega
  refine ⟨by decide, ifK_dec (fun hle => ?_) (fun hgt => h w3 ys h3 s3 m3')⟩
  refine xorNext_ok _ t n w3 hs3 _ fun w4 n4 hs4 m4 => ⟨_, rfl, ?_⟩
  have h4 : Els (Value.int .u64) e w4 d l c ys := h3.mod m4 fun k hk he => hne (by cases he; exact hk)
  have hand : IntKind.wrap .u64 ((k : Int) - 1) = ((k - 1 : Nat) : Int) := by rw [wrapU]; omega
  rw [hand]
  have hale := and_le n4 ((k - 1 : Nat) : Int) (k - 1) rfl (by omega)
  generalize ((BitVec.ofInt 64 n4 &&& BitVec.ofInt 64 ((k - 1 : Nat) : Int)).toNat) = o at hale
  have e5 : IntKind.wrap .i64 (IntKind.wrap .u64 (o : Int)) = o := by rw [wrapU, IntKind.wrap_i64]; omega
  rw [e5]
  clear e5
  refine ⟨fun x w' => ∃ q : Nat, x = q ∧ q < b - a ∧ w' = w4, ifK_dec (fun hge => ⟨o - (b - a), (by first | (simp only [IntKind.wrap_i64]; omega) | omega), by omega, rfl⟩) (fun hlt => ⟨o, rfl, by omega, rfl⟩), ?_⟩
  rintro _ _ _ ⟨q, rfl, hq1, rfl⟩ w5 e5
  rename_i w4
  have m5 : Mod no w4 w5 := by subst e5; exact Mod.drew _
  clear e5
  refine (h4.no m5).swp i (a + q) rfl (by first | (simp only [IntKind.wrap_i64]; omega) | omega) (by omega) (by omega) fun w6 h6 m6 => ?_
  have hs6 : w6.heap[w.heap.size]? = some (.cells #[.int .u64 n4] t (0, 0)) := m6.at (m5.at' hs4) hne
  clear hale hk hk0 hand
  have e8 : IntKind.i64.wrap ((i : Int) + 1) = ((i + 1 : Nat) : Int) := (by first | (simp only [IntKind.wrap_i64]; omega) | omega)
  rw [e8]
  clear e8
  exact ⟨⟨i + 1, n4, _, rfl, by omega, by omega, hs6, h6, s3.trans (h4.seg (by omega) (by omega) (by omega) (by omega) (by omega) (by omega)),
    ((m3.trans (m4.mono fun k _ h => .inr h)).trans_no m5).trans (m6.mono fun k _ h => .inl h)⟩, by simp only; omega⟩
end Go.Proofs.Ytmnbnjkbbhjocaa.Sortuint64

/- The formulas of functions, printed by a program of mine (gen.py) out of the translation. -/
namespace Go.Proofs.Ytmnbnjkbbhjocaa
open Go Go.Proofs.Ytmnbnjkbbhjocaa.St
set_option maxRecDepth 100000

/-- slices.pdqsortOrdered[uint64] -/
noncomputable def C67 : Code := (Try.f67.body).getD .skip
def pl67 : Nat → Plan
  | 17 => (.quiet 0 (.quiet 1 (.quiet 2 (.quiet 3 (.quiet 4 (.quiet 5 (.quiet 6 (.quiet 7 (.quiet 8 (.quiet 9 (.quiet 10 (.quiet 11 (.eff 12 [] (.quiet 13 (.quiet 14 .done)))))))))))))))
  | _ => .done
def ls67 : Nat → List (Nat × LT)
  | 2 => [(1, (.one (.int .i64))), (2, (.one (.int .i64))), (3, (.one (.int .i64))), (8, (.one .bool)), (9, (.one .bool))]
  | 10 => [(0, .agg []), (3, (.one (.int .i64)))]
  | 14 => [(0, .agg []), (11, (.one (.int .i64))), (12, (.one (.int .i64)))]
  | 18 => [(0, .agg [])]
  | 21 => [(0, .agg []), (1, (.one (.int .i64)))]
  | _ => []
def W67 (dataa : Option Addr) (datal : Nat) (datac : Nat) (a_ : Int) (b : Int) (limit : Int) (w : World) (R : Value → World → Prop) : Prop :=
  (∃ z0 : Int → Int → Int → Bool → Bool → World → Prop, (∃ z1 : Int → Int → Int → Bool → Bool → World → Nat, ((z0 (a_) (b) (limit) (true) (true) (w)) ∧ (∀ (_ : Nat → Value), (∀ (x3 : Int), (∀ (x4 : Int), (∀ (x5 : Int), (∀ (b6 : Bool), (∀ (b7 : Bool), (∀ (w8 : World), ((z0 (x3) (x4) (x5) (b6) (b7) (w8)) → (ifK (decide (IntKind.wrap IntKind.i64 (x4 - x3) ≤ 12))
    (Ca Try.prog (74) (Array.mk [Value.slice dataa datal datac, Value.int IntKind.i64 x3, Value.int IntKind.i64 x4]) (w8) (fun v9 => (fun w10 =>
      ((v9 = Value.tuple (Array.mk (List.reverse []))) ∧ (R (Value.tuple (Array.mk (List.reverse []))) (w10))))))
    (ifK (x5 == 0)
      (Ca Try.prog (75) (Array.mk [Value.slice dataa datal datac, Value.int IntKind.i64 x3, Value.int IntKind.i64 x4]) (w8) (fun v11 => (fun w12 =>
        ((v11 = Value.tuple (Array.mk (List.reverse []))) ∧ (R (Value.tuple (Array.mk (List.reverse []))) (w12))))))
      (∃ z13 : Int → World → Prop, ((ifK (!b6)
        (Ca Try.prog (76) (Array.mk [Value.slice dataa datal datac, Value.int IntKind.i64 x3, Value.int IntKind.i64 x4]) (w8) (fun v14 => (fun w15 =>
          ((v14 = Value.tuple (Array.mk (List.reverse []))) ∧ (z13 (IntKind.wrap IntKind.i64 (x5 - 1)) (w15))))))
        (z13 (x5) (w8))) ∧ (∀ (_ : Nat → Value), (∀ (x17 : Int), (∀ (w18 : World), ((z13 (x17) (w18)) → (Ca Try.prog (77) (Array.mk [Value.slice dataa datal datac, Value.int IntKind.i64 x3, Value.int IntKind.i64 x4]) (w18) (fun v19 => (fun w20 =>
        (∃ x21 : Int, (∃ x22 : Int, ((v19 = Value.tuple (Array.mk (List.reverse [Value.int IntKind.i64 x22, Value.int IntKind.i64 x21]))) ∧ (∃ z23 : Int → Int → World → Prop, ((ifK (x22 == 2)
          (Ca Try.prog (78) (Array.mk [Value.slice dataa datal datac, Value.int IntKind.i64 x3, Value.int IntKind.i64 x4]) (w20) (fun v24 => (fun w25 =>
            ((v24 = Value.tuple (Array.mk (List.reverse []))) ∧ (z23 (IntKind.wrap IntKind.i64 (IntKind.wrap IntKind.i64 (x4 - 1) - IntKind.wrap IntKind.i64 (x21 - x3))) (1) (w25))))))
          (z23 (x21) (x22) (w20))) ∧ (∀ (_ : Nat → Value), (∀ (x27 : Int), (∀ (x28 : Int), (∀ (w29 : World), ((z23 (x27) (x28) (w29)) → (∃ z30 : World → Prop, ((ifK (b6)
          (ifK (b7)
            (ifK (x28 == 1)
              (Ca Try.prog (79) (Array.mk [Value.slice dataa datal datac, Value.int IntKind.i64 x3, Value.int IntKind.i64 x4]) (w29) (fun v31 => (fun w32 =>
                (∃ b33 : Bool, ((v31 = Value.bool b33) ∧ (ifK (b33)
                  (R (Value.tuple (Array.mk (List.reverse []))) (w32))
                  (z30 (w32))))))))
              (z30 (w29)))
            (z30 (w29)))
          (z30 (w29))) ∧ (∀ (_ : Nat → Value), (∀ (w35 : World), ((z30 (w35)) → (∃ z36 : Int → World → Prop, ((atW (World.drew w35) (fun w37 =>
          (ifK (decide (x3 > 0))
            (∃ a38 : Addr, ((dataa = some a38) ∧ (((0 : Int) ≤ IntKind.wrap IntKind.i64 (x3 - 1)) ∧ (((IntKind.wrap IntKind.i64 (x3 - 1) : Int) < (↑datal : Int)) ∧ (∃ x39 : Int, ((World.cell? w37 (Addr.add a38 (Int.toNat (IntKind.wrap IntKind.i64 (x3 - 1)) * 1)) = some (Value.int IntKind.u64 x39)) ∧ (∃ a40 : Addr, ((dataa = some a40) ∧ (((0 : Int) ≤ x27) ∧ (((x27 : Int) < (↑datal : Int)) ∧ (∃ x41 : Int, ((World.cell? w37 (Addr.add a40 (Int.toNat x27 * 1)) = some (Value.int IntKind.u64 x41)) ∧ (Ca Try.prog (80) (Array.mk [Value.int IntKind.u64 x39, Value.int IntKind.u64 x41]) (w37) (fun v42 => (fun w43 =>
              (∃ b44 : Bool, ((v42 = Value.bool b44) ∧ (ifK (!b44)
                (Ca Try.prog (81) (Array.mk [Value.slice dataa datal datac, Value.int IntKind.i64 x3, Value.int IntKind.i64 x4, Value.int IntKind.i64 x27]) (w43) (fun v45 => (fun w46 =>
                  (∃ x47 : Int, ((v45 = Value.int IntKind.i64 x47) ∧ ((z0 (x47) (x4) (x17) (b6) (b7) (w46)) ∧ (z1 x47 x4 x17 b6 b7 w46 < z1 x3 x4 x5 b6 b7 w8)))))))
                (z36 (x3) (w43))))))))))))))))))))
            (z36 (x3) (w37))))) ∧ (∀ (_ : Nat → Value), (∀ (x49 : Int), (∀ (w50 : World), ((z36 (x49) (w50)) → (Ca Try.prog (82) (Array.mk [Value.slice dataa datal datac, Value.int IntKind.i64 x49, Value.int IntKind.i64 x4, Value.int IntKind.i64 x27]) (w50) (fun v51 => (fun w52 =>
          (∃ x53 : Int, (∃ b54 : Bool, ((v51 = Value.tuple (Array.mk (List.reverse [Value.bool b54, Value.int IntKind.i64 x53]))) ∧ (((8 : Int) ≠ 0) ∧ (ifK (decide (IntKind.wrap IntKind.i64 (x53 - x49) < IntKind.wrap IntKind.i64 (x4 - x53)))
            (Ca Try.prog (67) (Array.mk [Value.slice dataa datal datac, Value.int IntKind.i64 x49, Value.int IntKind.i64 x53, Value.int IntKind.i64 x17]) (w52) (fun v55 => (fun w56 =>
              ((v55 = Value.tuple (Array.mk (List.reverse []))) ∧ ((z0 (IntKind.wrap IntKind.i64 (x53 + 1)) (x4) (x17) (decide (IntKind.wrap IntKind.i64 (x53 - x49) ≥ IntKind.wrap IntKind.i64 (Int.tdiv (IntKind.wrap IntKind.i64 (x4 - x3)) 8))) (b54) (w56)) ∧ (z1 (IntKind.wrap IntKind.i64 (x53 + 1)) x4 x17 (decide (IntKind.wrap IntKind.i64 (x53 - x49) ≥ IntKind.wrap IntKind.i64 (Int.tdiv (IntKind.wrap IntKind.i64 (x4 - x3)) 8))) b54 w56 < z1 x3 x4 x5 b6 b7 w8))))))
            (Ca Try.prog (67) (Array.mk [Value.slice dataa datal datac, Value.int IntKind.i64 (IntKind.wrap IntKind.i64 (x53 + 1)), Value.int IntKind.i64 x4, Value.int IntKind.i64 x17]) (w52) (fun v57 => (fun w58 =>
              ((v57 = Value.tuple (Array.mk (List.reverse []))) ∧ ((z0 (x49) (x53) (x17) (decide (IntKind.wrap IntKind.i64 (x4 - x53) ≥ IntKind.wrap IntKind.i64 (Int.tdiv (IntKind.wrap IntKind.i64 (x4 - x3)) 8))) (b54) (w58)) ∧ (z1 x49 x53 x17 (decide (IntKind.wrap IntKind.i64 (x4 - x53) ≥ IntKind.wrap IntKind.i64 (Int.tdiv (IntKind.wrap IntKind.i64 (x4 - x3)) 8))) b54 w58 < z1 x3 x4 x5 b6 b7 w8)))))))))))))))))))))))))))))))))))))))))))))))))))))))))
theorem ca67 (dataa : Option Addr) (datal : Nat) (datac : Nat) (a_ : Int) (b : Int) (limit : Int) (w : World) (R : Value → World → Prop) (h : W67 dataa datal datac a_ b limit w R) : Ca Try.prog 67 ⟨[(.slice dataa datal datac), (.int .i64 a_), (.int .i64 b), (.int .i64 limit)]⟩ w R := by
  have h1 : Try.prog.follows .mixedOrders = true := by kernel_rfl
  have h2 : Try.f67.body = some C67 := by kernel_rfl
  have h3 : (Try.f67.name == "runtime.NumGoroutine") = false := by kernel_rfl
  have h6 : Try.f67.results.toList = [] := by kernel_rfl
  have h4 : Nat.ble 4 134 = true := by kernel_rfl
  have h5 : okCode 134 pl67 ls67 C67 0 = true := by kernel_rfl
  have e : W67 dataa datal datac a_ b limit w R = wpC none Try.prog 134 pl67 ls67 C67 0 (endP Try.prog [] R) (fr0 [(.slice dataa datal datac), (.int .i64 a_), (.int .i64 b), (.int .i64 limit)]) [] w := by kernel_rfl
  exact ca_of' (P := Try.prog) (g := 67) (fn := Try.f67) (c := C67) (m := 134) (rs := []) (args := [(.slice dataa datal datac), (.int .i64 a_), (.int .i64 b), (.int .i64 limit)]) (pl := pl67) (ls := ls67) (w := w) (R := R) h1 Try.func67 h2 Try.ntmps67 h6 h3 h4 h5 (Eq.mp e h)

/-- slices.Sort[[]uint64,uint64] -/
noncomputable def C52 : Code := (Try.f52.body).getD .skip
def pl52 : Nat → Plan := fun _ => .done
def ls52 : Nat → List (Nat × LT) := fun _ => []
def W52 (xa : Option Addr) (xl : Nat) (xc : Nat) (w : World) (R : Value → World → Prop) : Prop :=
  (Ca Try.prog (48) (Array.mk [Value.int IntKind.u64 (IntKind.wrap IntKind.u64 (↑xl : Int))]) (w) (fun v0 => (fun w1 =>
    (∃ x2 : Int, ((v0 = Value.int IntKind.i64 x2) ∧ (Ca Try.prog (67) (Array.mk [Value.slice xa xl xc, Value.int IntKind.i64 0, Value.int IntKind.i64 (↑xl : Int), Value.int IntKind.i64 x2]) (w1) (fun v3 => (fun w4 =>
      ((v3 = Value.tuple (Array.mk (List.reverse []))) ∧ (R (Value.tuple (Array.mk (List.reverse []))) (w4)))))))))))
theorem ca52 (xa : Option Addr) (xl : Nat) (xc : Nat) (w : World) (R : Value → World → Prop) (h : W52 xa xl xc w R) : Ca Try.prog 52 ⟨[(.slice xa xl xc)]⟩ w R := by
  have h1 : Try.prog.follows .mixedOrders = true := by kernel_rfl
  have h2 : Try.f52.body = some C52 := by kernel_rfl
  have h3 : (Try.f52.name == "runtime.NumGoroutine") = false := by kernel_rfl
  have h6 : Try.f52.results.toList = [] := by kernel_rfl
  have h4 : Nat.ble 1 11 = true := by kernel_rfl
  have h5 : okCode 11 pl52 ls52 C52 0 = true := by kernel_rfl
  have e : W52 xa xl xc w R = wpC none Try.prog 11 pl52 ls52 C52 0 (endP Try.prog [] R) (fr0 [(.slice xa xl xc)]) [] w := by kernel_rfl
  exact ca_of' (P := Try.prog) (g := 52) (fn := Try.f52) (c := C52) (m := 11) (rs := []) (args := [(.slice xa xl xc)]) (pl := pl52) (ls := ls52) (w := w) (R := R) h1 Try.func52 h2 Try.ntmps52 h6 h3 h4 h5 (Eq.mp e h)
end Go.Proofs.Ytmnbnjkbbhjocaa

/- The library's general sort, at one type: sorting what is nearly sorted; the sort itself. -/
namespace Go.Proofs.Ytmnbnjkbbhjocaa.Sortuint64
open Go Go.Proofs.Ytmnbnjkbbhjocaa Go.Proofs.Ytmnbnjkbbhjocaa.St

theorem wS {i : Nat} (h : i < 4611686018427387904) : IntKind.i64.wrap ((i : Int) + 1) = ((i + 1 : Nat) : Int) := by rw [wrap64 (by omega) (by omega)]; rfl
theorem wP {i : Nat} (h : i < 4611686018427387904) (h0 : 0 < i) : IntKind.i64.wrap ((i : Int) - 1) = ((i - 1 : Nat) : Int) := by rw [wrap64 (by omega) (by omega)]; omega
theorem wD {i j : Nat} (h : i < 4611686018427387904) (h0 : j ≤ i) : IntKind.i64.wrap ((i : Int) - (j : Int)) = ((i - j : Nat) : Int) := by rw [wrap64 (by omega) (by omega)]; omega

section
variable (e : TypeId) (d : Option Addr) (l c : Nat) (xs : List Int) (w : World) (hd : Els (Value.int .u64) e w d l c xs) (hl : l < 4611686018427387904)
include hd hl

theorem partial_ok (a b : Nat) (hab : a < b) (hb : b ≤ l) (hbel : Bel xs a b) (R : Value → World → Prop)
    (h : ∀ w' ys (q : Bool), Els (Value.int .u64) e w' d l c ys → Seg a b xs ys → (q = true → Srt ys a b) → Mod (rowB d) w w' → R (.bool q) w') :
    Ca Try.prog 79 #[.slice d l c, .int .i64 a, .int .i64 b] w R := by
  refine ca79 d l c a b w R ?_
  rw [W79, wS (by omega)]
  refine ⟨fun x y w' => ∃ (i j : Nat) (ys : List Int), x = i ∧ y = j ∧ a < i ∧ i ≤ b ∧ j ≤ 5 ∧ Els (Value.int .u64) e w' d l c ys ∧ Seg a b xs ys ∧ Srt ys a i ∧ Mod (rowB d) w w', fun _ y _ => (5 - y).toNat,
    ⟨a + 1, 0, xs, rfl, rfl, by omega, by omega, by omega, hd, Seg.refl _ _ _, Srt.nil _ _ _ (Nat.le_refl _), Mod.refl _ _⟩, ?_⟩
  rintro _ _ _ w1 ⟨i0, j0, ys, rfl, rfl, hi1, hi2, hj5, h1, s1, srt1, m1⟩
  refine ifK_dec (fun hlt => ?_) (fun _ => h w1 ys false h1 s1 (fun h => by cases h) m1)
  have hj : (j0 : Int) < 5 := hlt
  clear hlt
  -- as long as it rises
  refine ⟨fun x w' => ∃ i : Nat, x = i ∧ a < i ∧ i ≤ b ∧ Els (Value.int .u64) e w' d l c ys ∧ Srt ys a i ∧ (i < b → at0 ys i < at0 ys (i - 1)) ∧ Mod (rowB d) w w', ⟨fun x w' => ∃ i : Nat, x = i ∧ a < i ∧ i ≤ b ∧ Els (Value.int .u64) e w' d l c ys ∧ Srt ys a i ∧ Mod (rowB d) w w',
    fun x _ => ((b : Int) - x).toNat, ⟨i0, rfl, hi1, hi2, h1, srt1, m1⟩, ?_⟩, ?_⟩
  · rintro _ _ w2 ⟨i, rfl, h3, h4, h2, srt2, m2⟩ w3 e3
    have m3 : Mod no w2 w3 := by subst e3; exact Mod.drew _
    clear e3
    refine ifK_dec (fun hib => ?_) (fun hib => ⟨i, rfl, h3, h4, h2.no m3, srt2, fun h => by omega, m2.trans_no m3⟩)
    have hib : i < b := by omega
    rw [wS (i := i) (by omega), wP (i := i) (by omega) (by omega)]
    refine nls (h2.no m3) i (i - 1) rfl rfl (by omega) (by omega) (fun hge => ⟨⟨i + 1, rfl, by omega, by omega, h2.no m3, (Ins.start srt2).done (.inr (Lin.nlt hge)), m2.trans_no m3⟩, by simp only; omega⟩)
      (fun hls => ⟨i, rfl, h3, h4, h2.no m3, srt2, fun _ => hls, m2.trans_no m3⟩)
  rintro _ _ w4 ⟨i, rfl, h3, h4, h2, srt2, hls, m2⟩
  refine ifK_eq (fun hib => ?_) (fun hib => ?_)
  · have hib : i = b := by omega
    subst hib
    exact h w4 ys true h2 s1 (fun _ => srt2) m2
  have hib : i < b := by omega
  have hls := hls hib
  rw [wD (i := b) (j := a) (by omega) (by omega), wD (i := i) (j := a) (by omega) (by omega), wD (i := b) (j := i) (by omega) (by omega), wS (i := i) (by omega), wS (i := j0) (by omega), wP (i := i) (by omega) (by omega)]
  refine ifK_of (fun _ => h w4 ys false h2 s1 (fun h => by cases h) m2) (fun _ => ?_)
  intro w5 e5
  have m5 : Mod no w4 w5 := by subst e5; exact Mod.drew _
  clear e5
  refine (h2.no m5).swp i (i - 1) rfl rfl (by omega) (by omega) fun w6 h6 m6 => ?_
  have s6 : Seg a b xs (swapL ys i (i - 1)) := s1.trans (h2.seg (by omega) (by omega) (by omega) (by omega) (by omega) (by omega))
  have m6 := (m2.trans_no m5).trans m6
  have srt6 : Srt (swapL ys i (i - 1)) a (i - 1) := by
    intro p q h7 h8 h9
    rw [at0_swapL (h2.lt (by omega)) (h2.lt (by omega)), at0_swapL (h2.lt (by omega)) (h2.lt (by omega)), if_neg (by omega), if_neg (by omega), if_neg (by omega), if_neg (by omega)]
    exact srt2 p q h7 h8 (by omega)
  -- the smaller one to the left
  refine ⟨fun w' => ∃ zs, Els (Value.int .u64) e w' d l c zs ∧ Seg a b xs zs ∧ Srt zs a i ∧ Mod (rowB d) w w', ?_, ?_⟩
  · refine ifK_dec (fun hge => ?_) (fun hlt => ⟨_, h6, s6, Srt.nil _ _ _ (by omega), m6⟩)
    refine ⟨fun x w' => ∃ (j : Nat) (zs : List Int), x = j ∧ a ≤ j ∧ j + 1 ≤ i ∧ Els (Value.int .u64) e w' d l c zs ∧ Seg a b xs zs ∧ Ins zs a (i - 1) j ∧ Mod (rowB d) w w', fun x _ => x.toNat,
      ⟨i - 1, _, rfl, by omega, by omega, h6, s6, Ins.start srt6, m6⟩, ?_⟩
    rintro _ _ w7 ⟨j, zs, rfl, hj1, hj2, h7, s7, ins7, m7⟩
    have fin : (j ≤ a ∨ at0 zs (j - 1) ≤ at0 zs j) → Srt zs a i := fun hh => by
      have := ins7.done hh
      rwa [Nat.sub_add_cancel (by omega)] at this
    refine ifK_dec (fun hj0 => ?_) (fun hj0 => ⟨zs, h7, s7, fin (.inl (by omega)), m7⟩)
    have hj0 : 0 < j := by omega
    intro w8 e8
    have m8 : Mod no w7 w8 := by subst e8; exact Mod.drew _
    clear e8
    rw [wP (i := j) (by omega) hj0]
    refine nls (h7.no m8) j (j - 1) rfl rfl (by omega) (by omega) (fun hge => ⟨zs, h7.no m8, s7, fin (.inr (Lin.nlt hge)), m7.trans_no m8⟩) (fun hlt => ?_)
    have haj : a < j := by
      refine Nat.lt_of_le_of_ne hj1 fun e => ?_
      subst e
      exact absurd hlt (by simpa using (hbel.seg s7 (hd.le hb)) hj0 a (Nat.le_refl _) hab)
    intro w9 e9
    have m9 : Mod no w8 w9 := by subst e9; exact Mod.drew _
    clear e9
    refine ((h7.no m8).no m9).swp j (j - 1) rfl rfl (by omega) (by omega) fun w10 h10 m10 => ?_
    exact ⟨⟨j - 1, _, rfl, by omega, by omega, h10, s7.trans (h7.seg (by omega) (by omega) (by omega) (by omega) (by omega) (by omega)), ins7.step (h7.lt (by omega)) haj (by omega) hlt, ((m7.trans_no m8).trans_no m9).trans m10⟩, by simp only; omega⟩
  -- the greater one to the right
  rintro _ w11 ⟨zs, h11, s11, srt11, m11⟩
  have next : ∀ (w' : World) (us : List Int), Els (Value.int .u64) e w' d l c us → Seg a b xs us → Srt us a i → Mod (rowB d) w w' →
      (∃ (i' j' : Nat) (ys : List Int), (i : Int) = i' ∧ ((j0 + 1 : Nat) : Int) = j' ∧ a < i' ∧ i' ≤ b ∧ j' ≤ 5 ∧ Els (Value.int .u64) e w' d l c ys ∧ Seg a b xs ys ∧ Srt ys a i' ∧ Mod (rowB d) w w') ∧ (5 - ((j0 + 1 : Nat) : Int)).toNat < (5 - (j0 : Int)).toNat := by
    intro w' us hu su srtu mu
    exact ⟨⟨i, j0 + 1, us, rfl, rfl, h3, h4, by omega, hu, su, srtu, mu⟩, by omega⟩
  refine ifK_of (fun hge => ?_) (fun _ => next w11 zs h11 s11 srt11 m11)
  refine ⟨fun x w' => ∃ (j : Nat) (us : List Int), x = j ∧ i < j ∧ j ≤ b ∧ Els (Value.int .u64) e w' d l c us ∧ Seg a b xs us ∧ Srt us a i ∧ Mod (rowB d) w w', fun x _ => ((b : Int) - x).toNat,
    ⟨i + 1, zs, rfl, by omega, by omega, h11, s11, srt11, m11⟩, ?_⟩
  rintro _ _ w12 ⟨j, us, rfl, hj1, hj2, h12, s12, srt12, m12⟩
  refine ifK_dec (fun hjb => ?_) (fun _ => next w12 us h12 s12 srt12 m12)
  have hjb : j < b := by omega
  intro w13 e13
  have m13 : Mod no w12 w13 := by subst e13; exact Mod.drew _
  clear e13
  rw [wP (i := j) (by omega) (by omega), wS (i := j) (by omega)]
  refine nls (h12.no m13) j (j - 1) rfl rfl (by omega) (by omega) (fun _ => next w13 us (h12.no m13) s12 srt12 (m12.trans_no m13)) (fun hlt => ?_)
  intro w14 e14
  have m14 : Mod no w13 w14 := by subst e14; exact Mod.drew _
  clear e14
  refine ((h12.no m13).no m14).swp j (j - 1) rfl rfl (by omega) (by omega) fun w15 h15 m15 => ?_
  have s15 : Seg i b us (swapL us j (j - 1)) := h12.seg (by omega) (by omega) (by omega) (by omega) (by omega) (by omega)
  exact ⟨⟨j + 1, _, rfl, by omega, by omega, h15, s12.trans (s15.mono (by omega) (Nat.le_refl _)), srt12.of_out s15 (.inl (Nat.le_refl _)), ((m12.trans_no m13).trans_no m14).trans m15⟩, by simp only; omega⟩
end

/-- The general sort. -/
theorem pdq_ok (e : TypeId) (d : Option Addr) (l c : Nat) (hl : l < 4611686018427387904) : ∀ (n a b : Nat) (lim : Int) (xs : List Int) (w : World), b - a ≤ n → Els (Value.int .u64) e w d l c xs → a ≤ b → b ≤ l → Bel xs a b → ∀ R : Value → World → Prop,
    (∀ w' ys, Els (Value.int .u64) e w' d l c ys → Seg a b xs ys → Srt ys a b → Mod (rowB d) w w' → R (.tuple #[]) w') →
    Ca Try.prog 67 #[.slice d l c, .int .i64 a, .int .i64 b, .int .i64 lim] w R := by
  intro n
  induction n using Nat.strongRecOn with
  | _ n ih =>
  intro a b lim xs w hn hd hab hb hbel R h
  refine ca67 d l c a b lim w R ?_
  refine ⟨fun x y _ _ _ w' => ∃ (a' b' : Nat) (ys : List Int), x = a' ∧ y = b' ∧ a ≤ a' ∧ a' ≤ b' ∧ b' ≤ b ∧ Els (Value.int .u64) e w' d l c ys ∧ Seg a b xs ys ∧ Alm ys a b a' b' ∧ Bel ys a' b' ∧ Mod (rowB d) w w', fun x y _ _ _ _ => (y - x).toNat,
    ⟨a, b, xs, rfl, rfl, Nat.le_refl _, hab, Nat.le_refl _, hd, Seg.refl _ _ _, Alm.start _ _ _, hbel, Mod.refl _ _⟩, ?_⟩
  rintro _ _ _ lim' b6 b7 w1 ⟨a', b', ys, rfl, rfl, ha, hab', hb', h1, s1, alm1, bel1, m1⟩
  have sorted : ∀ w' zs, Els (Value.int .u64) e w' d l c zs → Seg a' b' ys zs → Srt zs a' b' → Mod (rowB d) w1 w' → R (.tuple #[]) w' := fun w' zs hz sz srt mz =>
    h w' zs hz (s1.trans (sz.mono ha hb')) ((alm1.seg sz ha hb' (h1.le hb)).full srt) (m1.trans mz)
  rw [wD (i := b') (j := a') (by omega) hab']
  refine ifK_dec (fun _ => ?_) (fun hlen => ?_)
  · exact insertion_ok e d l c a' b' ys w1 h1 hab' (by omega) hl _ fun w2 zs h2 s2 srt2 m2 => ⟨rfl, sorted w2 zs h2 s2 srt2 m2⟩
  have hlen : a' + 12 < b' := by omega
  refine ifK_of (fun _ => ?_) (fun _ => ?_)
  · exact heapSort_ok e d l c ys w1 h1 hl a' b' (by omega) (by omega) _ fun w2 zs h2 s2 srt2 m2 => ⟨rfl, sorted w2 zs h2 s2 srt2 m2⟩
  -- a part of another order is as good
  refine ⟨fun _ w' => ∃ zs, Els (Value.int .u64) e w' d l c zs ∧ Seg a' b' ys zs ∧ Mod (rowB d) w1 w', ?_, ?_⟩
  · refine ifK_of (fun _ => ?_) (fun _ => ⟨ys, h1, Seg.refl _ _ _, Mod.refl _ _⟩)
    exact breakP_ok e d l c ys w1 h1 hl a' b' (by omega) (by omega) _ fun w2 zs h2 s2 m2 => ⟨rfl, zs, h2, s2, m2⟩
  rintro _ lim2 w2 ⟨zs, h2, s2, m2⟩
  refine choosePivot_ok e d l c zs w2 h2 hl a' b' (by omega) (by omega) _ fun w3 p hint hp1 hp2 m3 => ⟨_, _, rfl, ?_⟩
  refine ⟨fun x _ w' => ∃ (p : Nat) (us : List Int), x = p ∧ a' ≤ p ∧ p < b' ∧ Els (Value.int .u64) e w' d l c us ∧ Seg a' b' ys us ∧ Mod (rowB d) w1 w', ?_, ?_⟩
  · refine ifK_of (fun _ => ?_) (fun _ => ⟨p, zs, rfl, hp1, hp2, h2.no m3, s2, m2.trans_no m3⟩)
    refine reverse_ok e d l c zs w3 (h2.no m3) hl a' b' (by omega) (by omega) _ fun w4 us h4 s4 m4 => ⟨rfl, b' - 1 - (p - a'), us, ?_, by omega, by omega, h4, s2.trans s4, (m2.trans_no m3).trans m4⟩
    rw [wP (i := b') (by omega) (by omega), wD (i := p) (j := a') (by omega) hp1, wD (by omega) (by omega)]
  rintro _ _ hint2 w5 ⟨p, us, rfl, hp1, hp2, h5, s5, m5⟩
  refine ⟨fun w' => ∃ vs, Els (Value.int .u64) e w' d l c vs ∧ Seg a' b' ys vs ∧ Mod (rowB d) w1 w', ?_, ?_⟩
  · refine ifK_of (fun _ => ifK_of (fun _ => ifK_of (fun _ => ?_) (fun _ => ⟨us, h5, s5, m5⟩)) (fun _ => ⟨us, h5, s5, m5⟩)) (fun _ => ⟨us, h5, s5, m5⟩)
    refine partial_ok e d l c us w5 h5 hl a' b' (by omega) (by omega) (bel1.seg s5 (h1.le (by omega))) _ fun w6 vs q h6 s6 srt6 m6 => ⟨q, rfl, ?_⟩
    exact ifK_of (fun hq => sorted w6 vs h6 (s5.trans s6) (srt6 hq) (m5.trans m6)) (fun _ => ⟨vs, h6, s5.trans s6, m5.trans m6⟩)
  rintro _ w7 ⟨vs, h7, s7, m7⟩
  have s7' : Seg a b xs vs := s1.trans (s7.mono ha hb')
  have m7' := m1.trans m7
  have alm7 := alm1.seg s7 ha hb' (h1.le hb)
  have bel7 := bel1.seg s7 (h1.le (by omega))
  -- parted into less and more
  refine ⟨fun x w' => x = (a' : Int) ∧ Els (Value.int .u64) e w' d l c vs ∧ Mod (rowB d) w w', ?_, ?_⟩
  · intro w8 e8
    have m8 : Mod no w7 w8 := by subst e8; exact Mod.drew _
    clear e8
    refine ifK_dec (fun ha0 => ?_) (fun _ => ⟨rfl, h7.no m8, m7'.trans_no m8⟩)
    have ha0 : 0 < a' := by omega
    rw [wP (i := a') (by omega) ha0]
    refine nls (h7.no m8) (a' - 1) p rfl rfl (by omega) (by omega) (fun hge => ?_) (fun _ => ⟨rfl, h7.no m8, m7'.trans_no m8⟩)
    have hmin : ∀ k, a' ≤ k → k < b' → at0 vs p ≤ at0 vs k := fun k h8 h9 => Lin.tr (Lin.nlt hge) (bel7 ha0 k h8 h9)
    refine partEq_ok e d l c vs w8 (h7.no m8) hl a' b' p hp1 hp2 (by omega) hmin _ fun w9 ts m h9 s9 eq9 m9 => ⟨_, rfl, ?_⟩
    have hm1 := eq9.am
    have hm2 := eq9.mb
    exact ⟨⟨m, b', ts, rfl, rfl, by omega, hm2, hb', h9, s7'.trans (s9.mono ha hb'), (alm7.seg s9 ha hb' (h7.le hb)).eqd eq9, eq9.bel, (m7'.trans_no m8).trans m9⟩, by simp only; omega⟩
  rintro _ _ w10 ⟨rfl, h10, m10⟩
  refine partition_ok e d l c vs w10 h10 hl a' b' p hp1 hp2 (by omega) _ fun w11 ts m q h11 s11 pt11 m11 => ⟨_, _, rfl, by decide, ?_⟩
  have hm1 := pt11.am
  have hm2 := pt11.mb
  have s11' : Seg a b xs ts := s7'.trans (s11.mono ha hb')
  have alm11 := alm7.seg s11 ha hb' (h7.le hb)
  have bel11 := bel7.seg s11 (h7.le (by omega))
  have m11' := m10.trans m11
  rw [wS (i := m) (by omega)]
  refine ifK_of (fun _ => ?_) (fun _ => ?_)
  · refine ih (m - a') (by omega) a' m lim2 ts w11 (Nat.le_refl _) h11 hm1 (by omega) (bel11.mono (by omega)) _ fun w12 rs h12 s12 srt12 m12 => ⟨rfl, ?_⟩
    have pt12 := pt11.left (h11.le (by omega)) s12
    exact ⟨⟨m + 1, b', rs, rfl, rfl, by omega, by omega, hb', h12, s11'.trans (s12.mono (by omega) (by omega)), (alm11.seg (s12.mono (Nat.le_refl _) (by omega)) ha hb' (h11.le hb)).left pt12 srt12, pt12.bel, m11'.trans m12⟩, by simp only; omega⟩
  · refine ih (b' - (m + 1)) (by omega) (m + 1) b' lim2 ts w11 (Nat.le_refl _) h11 (by omega) (by omega) pt11.bel _ fun w12 rs h12 s12 srt12 m12 => ⟨rfl, ?_⟩
    have pt12 := pt11.right (h11.le (by omega)) s12
    exact ⟨⟨a', m, rs, rfl, rfl, ha, hm1, by omega, h12, s11'.trans (s12.mono (by omega) (by omega)), (alm11.seg (s12.mono (by omega) (Nat.le_refl _)) ha hb' (h11.le hb)).right pt12 srt12,
      (bel11.seg (s12.mono (by omega) (Nat.le_refl _)) (h11.le (by omega))).mono (by omega), m11'.trans m12⟩, by simp only; omega⟩

theorem sort_ok (e : TypeId) (d : Option Addr) (l c : Nat) (xs : List Int) (w : World) (hd : Els (Value.int .u64) e w d l c xs) (hl : l < 4611686018427387904) (R : Value → World → Prop)
    (h : ∀ w' ys, Els (Value.int .u64) e w' d l c ys → ys.Perm xs → Srt ys 0 l → Mod (rowB d) w w' → R (.tuple #[]) w') :
    Ca Try.prog 52 #[.slice d l c] w R := by
  refine ca52 d l c w R ?_
  refine bitsLen_ok _ w _ fun n _ => ⟨n, rfl, ?_⟩
  exact pdq_ok e d l c hl l 0 l n xs w (Nat.le_refl _) hd (Nat.zero_le _) (Nat.le_refl _) (fun h => absurd h (by omega)) _ fun w' ys h1 h2 h3 h4 => ⟨rfl, h w' ys h1 h2.perm h3 h4⟩
end Go.Proofs.Ytmnbnjkbbhjocaa.Sortuint64

/- The library's Keys of a set of whole numbers, Collect, Sorted. -/
namespace Go.Proofs.Ytmnbnjkbbhjocaa.Sequint64
open Go Go.Proofs.Ytmnbnjkbbhjocaa Go.Proofs.Ytmnbnjkbbhjocaa.St

theorem keys_seq (B : Nat) (w0 : World) (bx m : Nat) (t : TypeId) (tags : List Int) (hbx : w0.heap[bx]? = some (.cells #[.map (some m)] t (0, 0))) (hB : bx < B) (hm : MapAt w0 m (setKs .u64 tags)) (hmB : m < B) (N : Nat) (hN : tags.length ≤ N) :
    SeqOf Try.prog (.func (.func 53) #[] #[.pointer (some ⟨bx, 0, none⟩)]) B w0 N (fun v => ∃ k, v = .int .u64 k) (fun xs => xs.Perm (tags.map fun k => .int .u64 k)) := by
  refine ⟨⟨_, _, _, rfl⟩, ?_⟩
  intro J y w R hk hst hJ hy hend
  refine (ca53 y (some ⟨bx, 0, none⟩) w R ?_ : Ca _ _ _ _ _)
  obtain ⟨es, clock, hes, hkv, hn, hc⟩ := hm
  have hes' := hk.old m _ hes (.inl hmB)
  refine ⟨some m, by rw [cl (hk.old bx _ hbx (.inl hB))]; rfl, es, clock, hes', ?_⟩
  intro w3 e3
  have m3 : Mod no w w3 := by subst e3; exact Mod.alloc _ _
  have b3 : w3.heap[w.heap.size]? = some (.mapIter (some m) clock #[] clock) := by subst e3; exact new_at _ _
  clear e3
  have hlen : tags.length = es.toList.length := by
    have := congrArg List.length hkv
    simpa [setKs, intKs] using this.symm
  have hkey : ∀ e ∈ es.toList, ∃ k, e.key = .int .u64 k := by
    intro e he
    have : (e.key, e.val) ∈ setKs .u64 tags := by rw [← hkv]; exact List.mem_map_of_mem he
    simp only [setKs, intKs, List.map_map, List.mem_map, Function.comp, Prod.mk.injEq] at this
    obtain ⟨k, _, hk, _⟩ := this
    exact ⟨k, hk.symm⟩
  have hkeys : es.toList.map (·.key) = tags.map fun k => .int .u64 k := by
    have := congrArg (List.map Prod.fst) hkv
    simpa [setKs, intKs, Function.comp_def] using this
  refine ⟨fun w' => ∃ (seen : Array Nat) (c0 : Nat) (got : List MapEntry), w'.heap[w.heap.size]? = some (.mapIter (some m) clock seen c0) ∧ clock ≤ c0 ∧ (got ++ (leftOf es seen).toList).Perm es.toList ∧ J (got.map (·.key)) w' ∧ Kp B w0 w',
    fun w' => match w'.heap[w.heap.size]? with | some (.mapIter _ _ seen _) => (leftOf es seen).size | _ => 0, ⟨#[], clock, [], b3, Nat.le_refl _, by simp only [leftOf, Array.toList_filter, List.nil_append]; exact .of_eq (List.filter_eq_self.2 (by simp)), hst.1 _ _ _ hJ m3, hk.trans (Kp.of_no m3)⟩, ?_⟩
  rintro _ w7 ⟨seen, c0, got, hit, hcc, hperm, hJ7, hk7⟩
  have hm7 := hk7.old m _ hes (.inl hmB)
  rcases next_at (P := Try.prog) (ty := 0) hit hm7 hc hcc with ⟨h0, hrun⟩ | ⟨e, he, w8, hrun, m8, hit8⟩
  · refine ⟨_, w7, hrun, .inl ⟨rfl, hend w7 _ ?_ hJ7 hk7⟩⟩
    have : (leftOf es seen).toList = [] := List.eq_nil_of_length_eq_zero (by simpa using h0)
    rw [this, List.append_nil] at hperm
    rw [← hkeys]
    exact hperm.map _
  · refine ⟨_, w8, hrun, .inr ⟨_, _, rfl, ?_⟩⟩
    have hmem := (mem_left he).1
    have hk8 : Kp B w0 w8 := by
      refine ⟨m8.os.trans hk7.os, m8.tape.trans hk7.tape, m8.output.trans hk7.output, Nat.le_trans hk7.size m8.size, fun k o ho hko => m8.at (hk7.old k o ho hko) fun hS => ?_⟩
      cases hS
      have := lt_of_heap ho
      have := hk.size
      omega
    have hm8 := hk8.old m _ hes (.inl hmB)
    refine ⟨e.key, e.val, entry_at hit8 hm8 hmem hn, ?_⟩
    obtain ⟨k, hkk⟩ := hkey e hmem
    rw [hkk]
    have hJ8 := hst.2 _ _ _ _ _ hJ7 hit rfl m8
    have hll : got.length < tags.length := by
      have h1 := hperm.length_eq
      have h2 : 0 < (leftOf es seen).toList.length := List.length_pos_of_mem he
      rw [List.length_append] at h1
      omega
    refine hy _ (.int .u64 k) w8 hk8 hJ8 (by simpa using (by omega : got.length < N)) ⟨k, rfl⟩ _ fun w15 hk15 hJ15 => ⟨true, rfl, ?_⟩
    have hit15 := hk15.old _ _ hit8 (.inr rfl)
    refine ⟨⟨seen.push e.born, clock, got ++ [e], hit15, Nat.le_refl _, ?_, by rw [List.map_append]; simpa [hkk] using hJ15, hk8.trans hk15⟩, ?_⟩
    · rw [List.append_assoc]
      exact ((List.Perm.append_left got (left_perm hn he)).symm).trans hperm
    · simp only [hit15, hit]
      exact left_shrinks es seen e he

/-- Sorted(Keys(m)): a new row of the set's numbers, rising. -/
theorem sortedKeys_ok (m : Nat) (tags : List Int) (w : World) (hm : MapAt w m (setKs .u64 tags)) (hs : tags.length < 1099511627776) :
    Ca Try.prog 46 #[.map (some m)] w (fun sv w1 => Mod no w w1 ∧ ∀ R : Value → World → Prop,
      (∀ w' a l c ys, Ints .u64 27 w' a l c ys → ys.Perm tags → Srt ys 0 l → Mod no w1 w' → (∀ k, rowB a k → w1.heap.size ≤ k) → R (.slice a l c) w') → Ca Try.prog 45 #[sv] w1 R) := by
  refine ca46 (some m) w _ ?_
  intro w1 e1
  have m1 : Mod no w w1 := by subst e1; exact Mod.alloc _ _
  have b1 : w1.heap[w.heap.size]? = some (.cells #[.map (some m)] 70 (0, 0)) := by subst e1; exact new_at _ _
  have s1 : w1.heap.size = w.heap.size + 1 := by subst e1; simp
  clear e1
  have hm1 := hm.mod m1 id
  have hmlt := hm.lt
  refine ⟨m1, fun R h => ?_⟩
  refine ca45 _ w1 R ?_
  refine ca51 _ w1 _ ?_
  refine appendSeq_ok _ tags.length _ w1 (by omega) (keys_seq w1.heap.size w1 w.heap.size m 70 tags b1 (by omega) hm1 (by omega) tags.length (Nat.le_refl _)) _ ?_
  intro w2 a l c xs hperm ho m2 hnew
  refine ⟨a, l, c, rfl, a, l, c, rfl, ?_⟩
  obtain ⟨ys, hys, hyp⟩ : ∃ ys : List Int, xs = ys.map (.int .u64) ∧ ys.Perm tags := by
    have : ∀ (xs : List Value) (ts : List Int), xs.Perm (ts.map fun k => Value.int .u64 k) → ∃ ys : List Int, xs = ys.map (.int .u64) ∧ ys.Perm ts := by
      intro xs ts hp
      have hall : ∀ v ∈ xs, ∃ k, v = .int .u64 k := fun v hv => by
        obtain ⟨k, _, e⟩ := List.mem_map.1 (hp.mem_iff.1 hv)
        exact ⟨k, e.symm⟩
      let g : Value → Int := fun v => match v with | .int _ n => n | _ => 0
      refine ⟨xs.map g, ?_, ?_⟩
      · rw [List.map_map]
        conv => lhs; rw [← List.map_id xs]
        apply List.map_congr_left
        intro v hv
        obtain ⟨k, rfl⟩ := hall v hv
        rfl
      · have := hp.map g
        rw [List.map_map] at this
        simpa [g, Function.comp_def] using this
    exact this xs tags hperm
  subst hys
  have hl : l = tags.length := by
    have h1 := (row_len ho).2.1
    rw [← hyp.length_eq]
    simpa using h1.symm
  refine Sortuint64.sort_ok 27 a l c ys w2 ho (by omega) _ fun w3 zs hz hzp hsrt m3 => ⟨rfl, ?_⟩
  refine h w3 a l c zs hz (hzp.trans hyp) hsrt ?_ fun k hk => by have := hnew k hk; omega
  exact m2.new m3 fun k hk => by have := hnew k hk; omega
end Go.Proofs.Ytmnbnjkbbhjocaa.Sequint64

/- Contracts of the program's consumer functions: what one holds. -/
namespace Go.Proofs.Ytmnbnjkbbhjocaa
open Go Go.Proofs.Ytmnbnjkbbhjocaa.St

theorem held_ok (x : Wish) (w : World) (hx : WishAt w x) (hs : x.tags.length < 1099511627776) (R : Value → World → Prop)
    (h : ∀ w' a l c ys, Ints .u64 27 w' a l c ys → ys.Perm x.tags → Srt ys 0 l → Mod no w w' → (∀ k, rowB a k → w.heap.size ≤ k) → R (.agg #[.string x.queue, .slice a l c]) w') :
    Ca Try.prog 33 #[.pointer (some ⟨x.p, 0, none⟩)] w R := by
  refine ca33 _ w R ?_
  intro w0 e0
  have m0 : Mod no w w0 := by subst e0; exact Mod.alloc _ _
  have b0 : w0.heap[w.heap.size]? = some (.cells #[.string (ByteArray.mk #[]), .slice none 0 0] 33 (0, 0)) := by subst e0; exact new_at _ _
  have s0 : w0.heap.size = w.heap.size + 1 := by subst e0; simp
  clear e0
  intro w1 e1
  have m1 : Mod no w0 w1 := by subst e1; exact Mod.drew _
  have s1 : w1.heap.size = w0.heap.size := by subst e1; rfl
  clear e1
  have b1 := m1.at' b0
  have m1' := m0.trans m1
  have hx1 := hx.mod m1' id id
  refine ⟨x.queue, by rw [cl1 hx1.cell]; rfl, some x.m, by rw [cl1 hx1.cell]; rfl, ?_⟩
  refine (Sequint64.sortedKeys_ok x.m x.tags w1 hx1.tags hs).mono fun v6 w7 ⟨m7, hsorted⟩ => ⟨v6, rfl, ?_⟩
  have hx7 := hx1.mod m7 id id
  refine ⟨by rw [cl2 hx7.cell]; rfl, hsorted _ fun w10 a l c ys hi hp hsrt m10 hnew => ?_⟩
  have hx10 := hx7.mod m10 id id
  refine ⟨a, l, c, rfl, by rw [cl2 hx10.cell]; rfl, ?_⟩
  have b10 := m10.at' (m7.at' b1)
  refine two b10 fun w17 b17 m17 => ?_
  refine ⟨_, by rw [cl1 b17]; rfl, a, l, c, by rw [cl1 b17]; rfl, ?_⟩
  have hsz := m7.size
  have hlt := m10.size
  exact h w17 a l c ys (hi.mod m17 fun k hk e => by cases e; have := hnew _ hk; omega) hp hsrt (((m1'.trans m7).trans m10).new m17 fun k hk => by cases hk; exact Nat.le_refl _) fun k hk => by have := hnew k hk; omega
end Go.Proofs.Ytmnbnjkbbhjocaa

/- A row's end is cleared. It names no program. -/
namespace Go.Proofs.Ytmnbnjkbbhjocaa.St
open Go

def zeroOk (P : Program) (e : TypeId) : Bool :=
  match (P.info? e).bind (·.zero) with
  | some z => z.cells.toList.all (·.oneCell')
  | none => false

theorem row_clear {P : Program} {w : World} {t ty e : TypeId} (ho : rowOk P t e = true) (hz : zeroOk P e = true) {a : Option Addr} {l c n : Nat} {xs : List Value} (h : w.ownsRow 0 e 1 (.slice a l c) n xs) {i : Nat} (hi : i ≤ n) :
    ∃ w', (Builtin.clear_ #[t] ty #[.slice (if c = i then a else a.map fun x => x.add (i * 1)) (l - i) (c - i)]).run P w = .ok (.tuple #[]) w' ∧ Mod (rowB a) w w' ∧ w'.ownsRow 0 e 1 (.slice a i c) i (xs.take i) := by
  obtain ⟨ht, inf, z, hinf, hzz, hsize, hby, hzs⟩ := rowOk_of ho
  have hz1 : ∀ v ∈ z.cells.toList, v.oneCell' = true := by
    simp only [zeroOk, hinf, Option.bind_some, hzz] at hz
    exact List.all_eq_true.1 hz
  have hxl : xs.length = n := by simpa using h.1
  by_cases hn : n - i = 0
  · have hin : i = n := by omega
    subst hin
    have hl : l = i := (row_len h).1
    subst hl
    refine ⟨w, ?_, Mod.refl _ _, by rw [← hxl, List.take_length]; rw [hxl]; exact h⟩
    cases hq : (if c = l then a else a.map fun x => x.add (l * 1)) with
    | none => simp [Builtin.clear_, run_underlying' ht, Result.andThen]
    | some b => simp [Builtin.clear_, run_underlying' ht, Result.andThen]
  · obtain ⟨g, cur, rfl, rfl, hg, hnc, hcm, hcs, htake⟩ := row_block h (by omega)
    rw [if_neg (by omega)]
    simp only [Option.map_some, add_lit, Nat.zero_add, Nat.mul_one]
    have hB : ∀ k, rowB (some ⟨g, 0, none⟩) k ↔ k = g := fun k => by simp [rowB]; exact eq_comm
    obtain ⟨m, hm⟩ : ∃ m, l - i = m + 1 := ⟨l - i - 1, by omega⟩
    have hzl : (Builtin.zeroCells z.cells (l - i)).toList.length = l - i := by rw [Array.length_toList, size_zeroCells, hzs, Nat.mul_one]
    have hst := run_storeCells_at P g i e (Builtin.zeroCells z.cells (l - i)).toList 0 cur w hg (by rw [hzl]; omega) (by
      intro v hv
      have hv : v ∈ Builtin.zeroCells z.cells (l - i) := by simpa using hv
      simp only [Builtin.zeroCells, Array.mem_map, Array.mem_range] at hv
      obtain ⟨j, _, rfl⟩ := hv
      refine hz1 _ ?_
      have : j % z.cells.size < z.cells.size := Nat.mod_lt _ (by omega)
      rw [getElem!_pos z.cells _ this]
      simp)
    simp only [Nat.add_zero] at hst
    obtain ⟨zs, hzs'⟩ : ∃ zs, (Builtin.zeroCells z.cells (l - i)).toList = zs := ⟨_, rfl⟩
    rw [hzs'] at hst hzl
    refine ⟨w.setRow g (cur.toList.take i ++ zs ++ cur.toList.drop (i + zs.length)).toArray, ?_, ⟨rfl, rfl, rfl, by simp, fun k _ hk => setRow_other w g k _ fun e => hk ((hB k).2 e)⟩, by simp [hxl]; omega,
      .inr ⟨g, c, _, rfl, Nat.zero_le _, setRow_heap w g cur _ e _ hg, by omega, hcm, ?_, ?_⟩⟩
    · rw [← hzs'] at hst ⊢
      rw [hm] at hst ⊢
      simp [Builtin.clear_, run_underlying' ht, Result.andThen, run_zeroValue' hinf hzz, hst]
    · simp only [List.size_toArray, List.length_append, List.length_take, List.length_drop, Array.length_toList, hzl]
      omega
    · rw [Nat.mul_one, List.append_assoc, List.take_left' (by simp; omega), ← htake, List.take_take, Nat.min_eq_left (by omega)]
end Go.Proofs.Ytmnbnjkbbhjocaa.St

/- The formulas of functions, printed by a program of mine (gen.py) out of the translation. -/
namespace Go.Proofs.Ytmnbnjkbbhjocaa
open Go Go.Proofs.Ytmnbnjkbbhjocaa.St
set_option maxRecDepth 100000

/-- slices.DeleteFunc[[]*staith/consumer.wish,*staith/consumer.wish] -/
noncomputable def C31 : Code := (Try.f31.body).getD .skip
def pl31 : Nat → Plan := fun _ => .done
def ls31 : Nat → List (Nat × LT)
  | 7 => [(5, (.one (.int .i64))), (6, (.one (.int .i64)))]
  | _ => []
def W31 (sa : Option Addr) (sl : Nat) (sc : Nat) (del : Value) (w : World) (R : Value → World → Prop) : Prop :=
  (Ca Try.prog (44) (Array.mk [Value.slice sa sl sc, del]) (w) (fun v0 => (fun w1 =>
    (∃ x2 : Int, ((v0 = Value.int IntKind.i64 x2) ∧ (ifK (x2 == -1)
      (R (Value.slice sa sl sc) (w1))
      (∃ z3 : Int → Int → World → Prop, (∃ z4 : Int → Int → World → Nat, ((z3 (x2) (IntKind.wrap IntKind.i64 (x2 + 1)) (w1)) ∧ (∀ (_ : Nat → Value), (∀ (x6 : Int), (∀ (x7 : Int), (∀ (w8 : World), ((z3 (x6) (x7) (w8)) → (ifK (decide (x7 < (↑sl : Int)))
        (∃ a9 : Addr, ((sa = some a9) ∧ (((0 : Int) ≤ x7) ∧ (((x7 : Int) < (↑sl : Int)) ∧ (∃ p10 : Option Addr, ((World.cell? w8 (Addr.add a9 (Int.toNat x7 * 1)) = some (Value.pointer p10)) ∧ (CaV Try.prog (del) (Array.mk [Value.pointer p10]) (w8) (fun v11 => (fun w12 =>
          (∃ b13 : Bool, ((v11 = Value.bool b13) ∧ (ifK (!b13)
            (∃ a14 : Addr, ((sa = some a14) ∧ (((0 : Int) ≤ x6) ∧ (((x6 : Int) < (↑sl : Int)) ∧ ((∃ v15 : Value, (World.cell? w12 (Addr.add (Addr.add a14 (Int.toNat x6 * 1)) 0) = some v15)) ∧ ((World.frozen? w12 (Addr.add (Addr.add a14 (Int.toNat x6 * 1)) 0) = false) ∧ (atW (World.setCell w12 (Addr.add (Addr.add a14 (Int.toNat x6 * 1)) 0) (Value.pointer p10)) (fun w16 =>
              ((z3 (IntKind.wrap IntKind.i64 (x6 + 1)) (IntKind.wrap IntKind.i64 (x7 + 1)) (w16)) ∧ (z4 (IntKind.wrap IntKind.i64 (x6 + 1)) (IntKind.wrap IntKind.i64 (x7 + 1)) w16 < z4 x6 x7 w8))))))))))
            ((z3 (x6) (IntKind.wrap IntKind.i64 (x7 + 1)) (w12)) ∧ (z4 x6 (IntKind.wrap IntKind.i64 (x7 + 1)) w12 < z4 x6 x7 w8))))))))))))))
        (((0 : Int) ≤ x6) ∧ (((x6 : Int) ≤ (↑sl : Int)) ∧ ((((↑sl : Int) : Int) ≤ (↑sc : Int)) ∧ (∃ v17 : Value, (∃ w18 : World, ((Sem.run Try.prog (Builtin.clear_ (Array.mk [57]) 0 (Array.mk [Value.slice (if sc = Int.toNat x6 then sa else Option.map (fun x => Addr.add x (Int.toNat x6 * 1)) sa) (Int.toNat (↑sl : Int) - Int.toNat x6) (sc - Int.toNat x6)])) w8 = Result.ok v17 w18) ∧ ((v17 = Value.tuple (Array.mk (List.reverse []))) ∧ (((0 : Int) ≤ 0) ∧ (((0 : Int) ≤ x6) ∧ (((x6 : Int) ≤ (↑sc : Int)) ∧ (R (Value.slice (if sc = 0 then sa else Option.map (fun x => Addr.add x 0) sa) (Int.toNat x6 - 0) (sc - 0)) (w18)))))))))))))))))))))))))))
theorem ca31 (sa : Option Addr) (sl : Nat) (sc : Nat) (del : Value) (w : World) (R : Value → World → Prop) (h : W31 sa sl sc del w R) : Ca Try.prog 31 ⟨[(.slice sa sl sc), del]⟩ w R := by
  have h1 : Try.prog.follows .mixedOrders = true := by kernel_rfl
  have h2 : Try.f31.body = some C31 := by kernel_rfl
  have h3 : (Try.f31.name == "runtime.NumGoroutine") = false := by kernel_rfl
  have h6 : Try.f31.results.toList = [.tmp 4] := by kernel_rfl
  have h4 : Nat.ble 2 42 = true := by kernel_rfl
  have h5 : okCode 42 pl31 ls31 C31 0 = true := by kernel_rfl
  have e : W31 sa sl sc del w R = wpC none Try.prog 42 pl31 ls31 C31 0 (endP Try.prog [.tmp 4] R) (fr0 [(.slice sa sl sc), del]) [] w := by kernel_rfl
  exact ca_of' (P := Try.prog) (g := 31) (fn := Try.f31) (c := C31) (m := 42) (rs := [.tmp 4]) (args := [(.slice sa sl sc), del]) (pl := pl31) (ls := ls31) (w := w) (R := R) h1 Try.func31 h2 Try.ntmps31 h6 h3 h4 h5 (Eq.mp e h)

/-- (*staith/consumer.Desk).Drop$1 -/
noncomputable def C32 : Code := (Try.f32.body).getD .skip
def pl32 : Nat → Plan := fun _ => .done
def ls32 : Nat → List (Nat × LT) := fun _ => []
def W32 (x : Option Addr) (c0 : Option Addr) (w : World) (R : Value → World → Prop) : Prop :=
  (onP (c0) (fun a0 =>
    (∃ p1 : Option Addr, ((World.cell? w a0 = some (Value.pointer p1)) ∧ (ptrEq Try.prog 68 (x) (p1) (w) (fun b2 => (fun w3 =>
      (R (Value.bool b2) (w3)))))))))
theorem ca32 (x : Option Addr) (c0 : Option Addr) (w : World) (R : Value → World → Prop) (h : W32 x c0 w R) : Ca Try.prog 32 ⟨[(.pointer x), (.pointer c0)]⟩ w R := by
  have h1 : Try.prog.follows .mixedOrders = true := by kernel_rfl
  have h2 : Try.f32.body = some C32 := by kernel_rfl
  have h3 : (Try.f32.name == "runtime.NumGoroutine") = false := by kernel_rfl
  have h6 : Try.f32.results.toList = [.tmp 3] := by kernel_rfl
  have h4 : Nat.ble 2 7 = true := by kernel_rfl
  have h5 : okCode 7 pl32 ls32 C32 0 = true := by kernel_rfl
  have e : W32 x c0 w R = wpC none Try.prog 7 pl32 ls32 C32 0 (endP Try.prog [.tmp 3] R) (fr0 [(.pointer x), (.pointer c0)]) [] w := by kernel_rfl
  exact ca_of' (P := Try.prog) (g := 32) (fn := Try.f32) (c := C32) (m := 7) (rs := [.tmp 3]) (args := [(.pointer x), (.pointer c0)]) (pl := pl32) (ls := ls32) (w := w) (R := R) h1 Try.func32 h2 Try.ntmps32 h6 h3 h4 h5 (Eq.mp e h)
end Go.Proofs.Ytmnbnjkbbhjocaa

/- Contracts: the library's DeleteFunc over a desk's line. -/
namespace Go.Proofs.Ytmnbnjkbbhjocaa
open Go Go.Proofs.Ytmnbnjkbbhjocaa.St

theorem zero68 : zeroOk Try.prog 68 = true := by kernel_rfl

theorem deleteFunc_ok (a : Option Addr) (l c : Nat) (del : Value) (w : World) (ws : List Wish) (φ : Wish → Bool) (hr : w.ownsRow 0 68 1 (.slice a l c) ws.length (ws.map Wish.ptr))
    (hdel : ∀ x ∈ ws, ∀ w', Mod (rowB a) w w' → ∀ R : Value → World → Prop, (∀ w'', Mod no w' w'' → R (.bool (φ x)) w'') → CaV Try.prog del #[x.ptr] w' R) (R : Value → World → Prop)
    (h : ∀ w' l', w'.ownsRow 0 68 1 (.slice a l' c) (ws.filter fun x => !φ x).length ((ws.filter fun x => !φ x).map Wish.ptr) → Mod (rowB a) w w' → R (.slice a l' c) w') :
    Ca Try.prog 31 #[.slice a l c, del] w R := by
  obtain ⟨hl, _, hlc, hc⟩ := row_len hr
  refine ca31 a l c del w R ?_
  refine indexFunc a l c del w ws φ hr (fun x hx w' hm R hR => hdel x hx w' hm.of_no R hR) _ fun w1 m1 => ⟨_, rfl, ?_⟩
  have hr1 := row_mod hr m1 fun _ _ => id
  cases hi : ws.findIdx? φ with
  | none =>
    refine h w1 l ?_ m1.of_no
    have : (ws.filter fun x => !φ x) = ws := by
      rw [List.filter_eq_self]
      intro x hx
      rw [List.findIdx?_eq_none_iff] at hi
      simp [hi x hx]
    rw [this]
    exact hr1
  | some i0 =>
    obtain ⟨hlt, hb, hbefore⟩ := List.findIdx?_eq_some_iff_getElem.1 hi
    have hne : (((i0 : Int)) == -1) = false := beq_false_of_ne (by omega)
    simp only [hne]
    have e1 : IntKind.i64.wrap ((i0 : Int) + 1) = ((i0 + 1 : Nat) : Int) := by rw [wrap64 (by omega) (by omega)]; omega
    show ∃ z3 : Int → Int → World → Prop, _
    rw [e1]
    have hf0 : (ws.take (i0 + 1)).filter (fun x => !φ x) = ws.take i0 := by
      rw [List.take_succ_eq_append_getElem hlt, List.filter_append]
      have h1 : (ws.take i0).filter (fun x => !φ x) = ws.take i0 := by
        rw [List.filter_eq_self]
        intro x hx
        obtain ⟨j, hj, rfl⟩ := List.mem_take_iff_getElem.1 hx
        have := hbefore j (by omega)
        simpa using this
      rw [h1]
      simp [hb]
    refine ⟨fun x y w' => ∃ (i j : Nat) (xs : List Value), x = i ∧ y = j ∧ i < j ∧ j ≤ ws.length ∧ w'.ownsRow 0 68 1 (.slice a l c) ws.length xs ∧ xs.take i = ((ws.take j).filter fun x => !φ x).map Wish.ptr ∧ xs.drop j = (ws.drop j).map Wish.ptr ∧ Mod (rowB a) w w',
      fun _ y _ => ((l : Int) - y).toNat, ⟨i0, i0 + 1, ws.map Wish.ptr, rfl, rfl, by omega, by omega, hr1, by rw [hf0, List.map_take], by rw [List.map_drop], m1.of_no⟩, ?_⟩
    rintro _ x y w8 ⟨i, j, xs, rfl, rfl, hij, hj, h8, htake, hdrop, m8⟩
    have hxl : xs.length = ws.length := (row_len h8).2.1
    refine ifK_of (fun hjl => ?_) (fun hjl => ?_)
    · have hjl : j < ws.length := by have := of_decide_eq_true hjl; omega
      have hxj : xs[j]? = some (ws[j].ptr) := by
        have := congrArg (fun l => l[0]?) hdrop
        simpa [hjl] using this
      obtain ⟨g, rfl, hcell⟩ := row_at h8 hxj
      refine ⟨_, rfl, by omega, by omega, some ⟨ws[j].p, 0, none⟩, by simpa [Wish.ptr] using hcell, ?_⟩
      refine hdel ws[j] (List.getElem_mem hjl) w8 m8 _ fun w12 m12 => ⟨φ ws[j], rfl, ?_⟩
      have h12 := row_mod h8 m12 fun _ _ => id
      have m12' := m8.trans_no m12
      have e2 : IntKind.i64.wrap ((j : Int) + 1) = ((j + 1 : Nat) : Int) := by rw [wrap64 (by omega) (by omega)]; omega
      have hdrop' : xs.drop (j + 1) = (ws.drop (j + 1)).map Wish.ptr := by
        have := congrArg (List.drop 1) hdrop
        rw [List.drop_drop, ← List.map_drop, List.drop_drop] at this
        exact this
      rw [e2]
      refine ifK_of (fun hk => ?_) (fun hk => ?_)
      · have hk : φ ws[j] = false := by simpa using hk
        obtain ⟨ad, had, hold, hfz, m16, h16⟩ := row_put h12 (i := i) (by omega) ws[j].ptr
        cases had
        refine ⟨_, rfl, by omega, by omega, hold, hfz, ?_⟩
        intro w16 e16
        have e16 : w16 = w12.setCell (Addr.add (Addr.add ⟨g, 0, none⟩ (i * 1)) 0) ws[j].ptr := e16
        rw [← e16] at m16 h16
        clear e16
        have e3 : IntKind.i64.wrap ((i : Int) + 1) = ((i + 1 : Nat) : Int) := by rw [wrap64 (by omega) (by omega)]; omega
        rw [e3]
        refine ⟨⟨i + 1, j + 1, _, rfl, rfl, by omega, by omega, h16, ?_, ?_, m12'.trans m16⟩, by simp only; omega⟩
        · rw [List.take_succ_eq_append_getElem hjl, List.filter_append, List.map_append, ← htake]
          have : [ws[j]].filter (fun x => !φ x) = [ws[j]] := by simp [hk]
          rw [this, List.take_succ_eq_append_getElem (by simp; omega), List.take_set_of_le (Nat.le_refl _)]
          simp
        · rw [List.drop_set_of_lt (by omega)]
          exact hdrop'
      · have hk : φ ws[j] = true := by simpa using hk
        refine ⟨⟨i, j + 1, xs, rfl, rfl, by omega, by omega, h12, ?_, hdrop', m12'⟩, by simp only; omega⟩
        rw [List.take_succ_eq_append_getElem hjl, List.filter_append, htake]
        have : [ws[j]].filter (fun x => !φ x) = [] := by simp [hk]
        rw [this, List.append_nil]
    · have hjl : j = ws.length := by have := of_decide_eq_false hjl; omega
      subst hjl
      rw [List.take_length] at htake
      obtain ⟨w18, hrun, m18, h18⟩ := row_clear (ty := 0) row57 zero68 h8 (i := i) (by omega)
      refine ⟨by omega, by omega, by omega, _, w18, hrun, rfl, by decide, by omega, by omega, ?_⟩
      obtain ⟨g, cur, rfl, _⟩ := row_block h8 (by omega)
      have hil : i = (ws.filter fun x => !φ x).length := by
        have := congrArg List.length htake
        rw [List.length_take, List.length_map, Nat.min_eq_left (by omega)] at this
        exact this
      rw [if_neg (by omega)]
      refine h w18 i ?_ (m8.trans m18)
      rw [← htake, ← hil]
      exact h18
end Go.Proofs.Ytmnbnjkbbhjocaa

/- Contracts of the program's consumer functions: Drop. -/
namespace Go.Proofs.Ytmnbnjkbbhjocaa
open Go Go.Proofs.Ytmnbnjkbbhjocaa.St

theorem drop_ok (d : Nat) (F : Nat → Prop) (l : List One) (client : Int) (w : World) (hd : Dk w d F l) (hs : ∀ x ∈ l, x.tags.length < 1099511627776) (R : Value → World → Prop)
    (h0 : l.find? (·.client == client) = none → ∀ w', Mod no w w' → R (.tuple #[.agg #[.string (ByteArray.mk #[]), .slice none 0 0], .int .i64 3]) w')
    (h1 : ∀ a x b, l = a ++ x :: b → l.findIdx? (·.client == client) = some a.length → x.client = client → ∀ w' ra rl rc ys, Dk w' d F (a ++ b) → Mod F w w' → Ints .u64 27 w' ra rl rc ys → ys.Perm x.tags → Srt ys 0 rl →
      (∀ k, rowB ra k → w.heap.size ≤ k) → R (.tuple #[.agg #[.string x.queue, .slice ra rl rc], .int .i64 0]) w') :
    Ca Try.prog 12 #[.pointer (some ⟨d, 0, none⟩), .int .i64 client] w R := by
  obtain ⟨row, ws, hda, hl, hF⟩ := hd
  obtain ⟨sl, sc, hc, hr⟩ := hda.cell
  refine ca12 _ client w R ?_
  intro w0 e0
  have m0 : Mod no w w0 := by subst e0; exact Mod.alloc _ _
  have b0 : w0.heap[w.heap.size]? = some (.cells #[.string (ByteArray.mk #[]), .slice none 0 0] 33 (0, 0)) := by subst e0; exact new_at _ _
  have s0 : w0.heap.size = w.heap.size + 1 := by subst e0; simp
  clear e0
  refine made_of d w0 _ (m0.at' hc) rfl ⟨true, rfl, ?_⟩
  refine ifK_of (fun hb => by cases hb) (fun _ => ?_)
  refine of_ok d row ws client w0 (hda.no m0) _ fun w13 m13 => ⟨_, rfl, ?_⟩
  have m13' := m0.trans m13
  have b13 := m13.at' b0
  intro w15 e15
  have m15 : Mod no w13 w15 := by subst e15; exact Mod.alloc _ _
  have b15 : w15.heap[w13.heap.size]? = some (.cells #[.pointer none] 68 (0, 0)) := by subst e15; exact new_at _ _
  clear e15
  refine ⟨⟨_, by rw [cl1 b15]; rfl⟩, fz1 b15 _, ?_⟩
  intro w17 e17
  have m17 : Mod no w13 w17 := by subst e17; exact m15.new (Mod.set1 _ _ _ _) fun k hk => by cases hk; exact Nat.le_refl _
  have b17 : w17.heap[w13.heap.size]? = some (.cells #[.pointer (wptr (ws.find? (·.client == client)))] 68 (0, 0)) := by subst e17; rw [set1 b15]; rfl
  clear e17
  have m17' := m13'.trans m17
  have r17 := m17.at' b13
  refine ⟨_, by rw [cl b17]; rfl, ?_⟩
  have hfl : l.find? (·.client == client) = (ws.find? (·.client == client)).map Wish.one := by rw [← hl, ← find_one]; rfl
  cases hf : ws.find? (·.client == client) with
  | none =>
    rw [hf] at hfl
    refine two r17 fun w22 b22 m22 => ?_
    exact ⟨_, by rw [cl1 b22]; rfl, _, _, _, by rw [cl1 b22]; rfl, h0 hfl w22 (m17'.new m22 fun k hk => by cases hk; exact Nat.le_refl _)⟩
  | some x =>
  rw [hf] at b17 hfl
  have hx : x ∈ ws := List.mem_of_find?_eq_some hf
  obtain ⟨a, b, hab, hidx, hcl⟩ := find_split hf
  obtain ⟨hdrow, hnr⟩ := hda.ne_row
  have hsz := m13'.size
  have hc17 := m17'.at' hc
  have hr17 := row_mod hr m17' fun _ _ => id
  have hbr : ¬ rowB row w13.heap.size := fun hk => by have := hda.lt _ (mem_fp_row hk); omega
  have hbr' : ¬ rowB row w.heap.size := fun hk => by have := hda.lt _ (mem_fp_row hk); omega
  refine ⟨row, sl, sc, by rw [cl1 hc17]; rfl, ?_⟩
  refine deleteFunc_ok row sl sc _ w17 ws (fun y => y.p == x.p) hr17 (fun y hy w' hm R hR => ?_) _ fun w32 l' h32 m32 => ?_
  · refine (ca32 (some ⟨y.p, 0, none⟩) (some ⟨w13.heap.size, 0, none⟩) w' R ?_ : Ca _ _ _ _ _)
    refine ⟨some ⟨x.p, 0, none⟩, by rw [cl (hm.at b17 hbr)]; rfl, ?_⟩
    exact ptrEq_ok ptr68 (hm.at (m17'.at' (hda.wish y hy).cell) (hnr y hy).2.2.1) (hm.at (m17'.at' (hda.wish x hx).cell) (hnr x hx).2.2.1) (hR w' (Mod.refl _ _))
  have hap := fun y hy => fpW_apart (a := a) (b := b) (x := x) (y := y) (by rw [← hab]; exact hda.nd) hy
  have hfilter : (ws.filter fun y => !(y.p == x.p)) = a ++ b := by
    rw [hab, List.filter_append, List.filter_cons_of_neg (by simp)]
    congr 1
    · rw [List.filter_eq_self]; intro y hy
      have := (hap y (List.mem_append_left _ hy)).2.2.1
      simp; exact fun e => this e.symm
    · rw [List.filter_eq_self]; intro y hy
      have := (hap y (List.mem_append_right _ hy)).2.2.1
      simp; exact fun e => this e.symm
  rw [hfilter] at h32
  have hc32 := m32.at hc17 hdrow
  have b32 := m32.at b17 hbr
  have r32 := m32.at r17 hbr'
  refine ⟨row, l', sc, rfl, ⟨_, by rw [cl2 hc32]; rfl⟩, fz2 hc32 _ _, ?_⟩
  intro w38 e38
  have m38 : Mod (on d) w32 w38 := by subst e38; exact Mod.set2 _ _ _ _ _
  have c38 : w38.heap[d]? = some (.cells #[.slice row l' sc, .bool true] 59 (0, 0)) := by subst e38; rw [set2 hc32]; rfl
  clear e38
  have hdlt := hda.lt d (by simp [fp])
  have b38 := m38.at b32 (show ¬ w13.heap.size = d by omega)
  have r38 := m38.at r32 (show ¬ w.heap.size = d by omega)
  have h38 := row_mod h32 m38 fun k hk e => by cases e; exact hdrow hk
  have mA : Mod (fun k => k = d ∨ rowB row k) w w38 := m17'.no_trans ((m32.mono fun k _ hk => .inr hk).trans' m38 fun k _ hk => .inl hk)
  have hw38 : ∀ y ∈ ws, WishAt w38 y := fun y hy => (hda.wish y hy).mod mA (fun h => h.elim (hnr y hy).1 (hnr y hy).2.2.1) (fun h => h.elim (hnr y hy).2.1 (hnr y hy).2.2.2)
  have hd38 : DeskAt w38 d row (a ++ b) ∧ ∀ k, fp d row (a ++ b) k → fp d row ws k := by
    have hsub : ∀ k ∈ fpW (a ++ b), k ∈ fpW ws := by
      intro k hk
      rw [hab]
      simp only [fpW, List.flatMap_append, List.flatMap_cons, List.mem_append] at hk ⊢
      exact hk.elim .inl fun h => .inr (.inr h)
    refine ⟨⟨⟨l', sc, c38, h38⟩, fun y hy => hw38 y (by rw [hab]; rcases List.mem_append.1 hy with h | h <;> simp [h]), ?_⟩, ?_⟩
    · have hnd := hda.apart
      rw [List.nodup_cons, List.nodup_append] at hnd ⊢
      have hsubl : (fpW (a ++ b)).Sublist (fpW ws) := by
        rw [hab, fpW_append, fpW_append]
        refine List.Sublist.append (List.Sublist.refl _) ?_
        show (fpW b).Sublist ([x.p, x.m] ++ fpW b)
        exact List.sublist_append_right _ _
      refine ⟨fun hm => hnd.1 ?_, hnd.2.1, hnd.2.2.1.sublist hsubl, fun p hp q hq => hnd.2.2.2 p hp q (hsub q hq)⟩
      rw [List.mem_append] at hm ⊢
      exact hm.imp id (hsub d)
    · intro k hk
      simp only [fp, List.mem_cons, List.mem_append] at hk ⊢
      exact hk.imp id fun h => h.imp id (hsub k)
  refine ⟨some ⟨x.p, 0, none⟩, by rw [cl b38]; rfl, ?_⟩
  refine held_ok x w38 (hw38 x hx) (hs x.one (by rw [← hl]; exact List.mem_map_of_mem hx)) _ fun w41 ra rl rc ys hi hp hsrt m41 hnew => ⟨_, _, _, _, rfl, ?_⟩
  have r41 := m41.at' r38
  refine two r41 fun w49 b49 m49 => ?_
  refine ⟨_, by rw [cl1 b49]; rfl, _, _, _, by rw [cl1 b49]; rfl, ?_⟩
  have hs38 := mA.size
  have hlt38 := lt_of_heap r38
  have hFlt : ∀ k, fp d row ws k → k ≠ w.heap.size := fun k hk e => by have := hda.lt k hk; omega
  refine h1 (a.map Wish.one) x.one (b.map Wish.one) (by rw [← hl, hab]; simp) (by rw [← hl, ← findIdx_one, List.length_map]; exact hidx) (by simpa [Wish.one] using hcl) w49 ra rl rc ys ?_ ?_
    (hi.mod m49 fun k hk e => by cases e; have := hnew _ hk; omega) hp hsrt fun k hk => by have := hnew k hk; omega
  · exact ⟨row, a ++ b, (hd38.1.no m41).mod m49 fun k hk e => hFlt k (hd38.2 k hk) e, by simp, fun k hk => hF k (hd38.2 k hk)⟩
  · refine ((mA.trans_no m41).trans' m49 (T := on w.heap.size) (S := fun k => k = d ∨ rowB row k) fun k hk hT => ?_).mono fun k _ hk => hF k (by rcases hk with rfl | h; simp [fp]; exact mem_fp_row h)
    cases hT
    omega
end Go.Proofs.Ytmnbnjkbbhjocaa

/- The formulas of functions, printed by a program of mine (gen.py) out of the translation. -/
namespace Go.Proofs.Ytmnbnjkbbhjocaa
open Go Go.Proofs.Ytmnbnjkbbhjocaa.St
set_option maxRecDepth 100000

/-- cmp.isNaN[int] -/
noncomputable def C73 : Code := (Try.f73.body).getD .skip
def pl73 : Nat → Plan := fun _ => .done
def ls73 : Nat → List (Nat × LT) := fun _ => []
def W73 (x : Int) (w : World) (R : Value → World → Prop) : Prop :=
  (R (Value.bool (x != x)) (w))
theorem ca73 (x : Int) (w : World) (R : Value → World → Prop) (h : W73 x w R) : Ca Try.prog 73 ⟨[(.int .i64 x)]⟩ w R := by
  have h1 : Try.prog.follows .mixedOrders = true := by kernel_rfl
  have h2 : Try.f73.body = some C73 := by kernel_rfl
  have h3 : (Try.f73.name == "runtime.NumGoroutine") = false := by kernel_rfl
  have h6 : Try.f73.results.toList = [.tmp 2] := by kernel_rfl
  have h4 : Nat.ble 1 6 = true := by kernel_rfl
  have h5 : okCode 6 pl73 ls73 C73 0 = true := by kernel_rfl
  have e : W73 x w R = wpC none Try.prog 6 pl73 ls73 C73 0 (endP Try.prog [.tmp 2] R) (fr0 [(.int .i64 x)]) [] w := by kernel_rfl
  exact ca_of' (P := Try.prog) (g := 73) (fn := Try.f73) (c := C73) (m := 6) (rs := [.tmp 2]) (args := [(.int .i64 x)]) (pl := pl73) (ls := ls73) (w := w) (R := R) h1 Try.func73 h2 Try.ntmps73 h6 h3 h4 h5 (Eq.mp e h)

/-- cmp.Less[int] -/
noncomputable def C60 : Code := (Try.f60.body).getD .skip
def pl60 : Nat → Plan := fun _ => .done
def ls60 : Nat → List (Nat × LT) := fun _ => []
def W60 (x : Int) (y : Int) (w : World) (R : Value → World → Prop) : Prop :=
  (Ca Try.prog (73) (Array.mk [Value.int IntKind.i64 x]) (w) (fun v0 => (fun w1 =>
    (∃ b2 : Bool, ((v0 = Value.bool b2) ∧ (ifK (b2)
      (Ca Try.prog (73) (Array.mk [Value.int IntKind.i64 y]) (w1) (fun v3 => (fun w4 =>
        (∃ b5 : Bool, ((v3 = Value.bool b5) ∧ (ifK (!b5)
          (R (Value.bool true) (w4))
          (R (Value.bool (decide (x < y))) (w4))))))))
      (R (Value.bool (decide (x < y))) (w1))))))))
theorem ca60 (x : Int) (y : Int) (w : World) (R : Value → World → Prop) (h : W60 x y w R) : Ca Try.prog 60 ⟨[(.int .i64 x), (.int .i64 y)]⟩ w R := by
  have h1 : Try.prog.follows .mixedOrders = true := by kernel_rfl
  have h2 : Try.f60.body = some C60 := by kernel_rfl
  have h3 : (Try.f60.name == "runtime.NumGoroutine") = false := by kernel_rfl
  have h6 : Try.f60.results.toList = [.tmp 4] := by kernel_rfl
  have h4 : Nat.ble 2 17 = true := by kernel_rfl
  have h5 : okCode 17 pl60 ls60 C60 0 = true := by kernel_rfl
  have e : W60 x y w R = wpC none Try.prog 17 pl60 ls60 C60 0 (endP Try.prog [.tmp 4] R) (fr0 [(.int .i64 x), (.int .i64 y)]) [] w := by kernel_rfl
  exact ca_of' (P := Try.prog) (g := 60) (fn := Try.f60) (c := C60) (m := 17) (rs := [.tmp 4]) (args := [(.int .i64 x), (.int .i64 y)]) (pl := pl60) (ls := ls60) (w := w) (R := R) h1 Try.func60 h2 Try.ntmps60 h6 h3 h4 h5 (Eq.mp e h)

/-- slices.insertionSortOrdered[int] -/
noncomputable def C54 : Code := (Try.f54.body).getD .skip
def pl54 : Nat → Plan
  | 4 => (.quiet 0 (.quiet 1 (.quiet 2 (.quiet 3 (.quiet 4 (.quiet 5 (.quiet 6 (.quiet 7 (.quiet 8 (.quiet 9 (.quiet 10 (.quiet 11 (.quiet 12 (.eff 13 [] (.quiet 14 .done)))))))))))))))
  | 6 => (.quiet 0 (.quiet 1 (.quiet 2 (.quiet 3 (.quiet 4 (.quiet 5 (.quiet 6 (.quiet 7 (.quiet 8 (.quiet 9 (.quiet 10 (.quiet 11 (.quiet 12 (.quiet 13 (.quiet 14 (.eff 15 [] (.quiet 16 (.eff 17 [] .done))))))))))))))))))
  | _ => .done
def ls54 : Nat → List (Nat × LT)
  | 1 => [(6, (.one (.int .i64)))]
  | 6 => [(7, (.one (.int .i64)))]
  | _ => []
def W54 (dataa : Option Addr) (datal : Nat) (_datac : Nat) (a_ : Int) (b : Int) (w : World) (R : Value → World → Prop) : Prop :=
  (∃ z0 : Int → World → Prop, (∃ z1 : Int → World → Nat, ((z0 (IntKind.wrap IntKind.i64 (a_ + 1)) (w)) ∧ (∀ (_ : Nat → Value), (∀ (x3 : Int), (∀ (w4 : World), ((z0 (x3) (w4)) → (ifK (decide (x3 < b))
    (∃ z5 : Int → World → Prop, (∃ z6 : Int → World → Nat, ((z5 (x3) (w4)) ∧ (∀ (_ : Nat → Value), (∀ (x8 : Int), (∀ (w9 : World), ((z5 (x8) (w9)) → (atW (World.drew w9) (fun w10 =>
      (ifK (decide (x8 > a_))
        (∃ a11 : Addr, ((dataa = some a11) ∧ (((0 : Int) ≤ x8) ∧ (((x8 : Int) < (↑datal : Int)) ∧ (∃ x12 : Int, ((World.cell? w10 (Addr.add a11 (Int.toNat x8 * 1)) = some (Value.int IntKind.i64 x12)) ∧ (∃ a13 : Addr, ((dataa = some a13) ∧ (((0 : Int) ≤ IntKind.wrap IntKind.i64 (x8 - 1)) ∧ (((IntKind.wrap IntKind.i64 (x8 - 1) : Int) < (↑datal : Int)) ∧ (∃ x14 : Int, ((World.cell? w10 (Addr.add a13 (Int.toNat (IntKind.wrap IntKind.i64 (x8 - 1)) * 1)) = some (Value.int IntKind.i64 x14)) ∧ (Ca Try.prog (60) (Array.mk [Value.int IntKind.i64 x12, Value.int IntKind.i64 x14]) (w10) (fun v15 => (fun w16 =>
          (∃ b17 : Bool, ((v15 = Value.bool b17) ∧ (ifK (b17)
            (atW (World.drew w16) (fun w18 =>
              (∃ a19 : Addr, ((dataa = some a19) ∧ (((0 : Int) ≤ IntKind.wrap IntKind.i64 (x8 - 1)) ∧ (((IntKind.wrap IntKind.i64 (x8 - 1) : Int) < (↑datal : Int)) ∧ (∃ x20 : Int, ((World.cell? w18 (Addr.add a19 (Int.toNat (IntKind.wrap IntKind.i64 (x8 - 1)) * 1)) = some (Value.int IntKind.i64 x20)) ∧ (∃ a21 : Addr, ((dataa = some a21) ∧ (((0 : Int) ≤ x8) ∧ (((x8 : Int) < (↑datal : Int)) ∧ (∃ x22 : Int, ((World.cell? w18 (Addr.add a21 (Int.toNat x8 * 1)) = some (Value.int IntKind.i64 x22)) ∧ (∃ a23 : Addr, ((dataa = some a23) ∧ (((0 : Int) ≤ x8) ∧ (((x8 : Int) < (↑datal : Int)) ∧ ((∃ v24 : Value, (World.cell? w18 (Addr.add (Addr.add a23 (Int.toNat x8 * 1)) 0) = some v24)) ∧ ((World.frozen? w18 (Addr.add (Addr.add a23 (Int.toNat x8 * 1)) 0) = false) ∧ (atW (World.setCell w18 (Addr.add (Addr.add a23 (Int.toNat x8 * 1)) 0) (Value.int IntKind.i64 x20)) (fun w25 =>
                (∃ a26 : Addr, ((dataa = some a26) ∧ (((0 : Int) ≤ IntKind.wrap IntKind.i64 (x8 - 1)) ∧ (((IntKind.wrap IntKind.i64 (x8 - 1) : Int) < (↑datal : Int)) ∧ ((∃ v27 : Value, (World.cell? w25 (Addr.add (Addr.add a26 (Int.toNat (IntKind.wrap IntKind.i64 (x8 - 1)) * 1)) 0) = some v27)) ∧ ((World.frozen? w25 (Addr.add (Addr.add a26 (Int.toNat (IntKind.wrap IntKind.i64 (x8 - 1)) * 1)) 0) = false) ∧ (atW (World.setCell w25 (Addr.add (Addr.add a26 (Int.toNat (IntKind.wrap IntKind.i64 (x8 - 1)) * 1)) 0) (Value.int IntKind.i64 x22)) (fun w28 =>
                  ((z5 (IntKind.wrap IntKind.i64 (x8 - 1)) (w28)) ∧ (z6 (IntKind.wrap IntKind.i64 (x8 - 1)) w28 < z6 x8 w9))))))))))))))))))))))))))))))))
            ((z0 (IntKind.wrap IntKind.i64 (x3 + 1)) (w16)) ∧ (z1 (IntKind.wrap IntKind.i64 (x3 + 1)) w16 < z1 x3 w4))))))))))))))))))))
        ((z0 (IntKind.wrap IntKind.i64 (x3 + 1)) (w10)) ∧ (z1 (IntKind.wrap IntKind.i64 (x3 + 1)) w10 < z1 x3 w4))))))))))))
    (R (Value.tuple (Array.mk (List.reverse []))) (w4))))))))))
theorem ca54 (dataa : Option Addr) (datal : Nat) (datac : Nat) (a_ : Int) (b : Int) (w : World) (R : Value → World → Prop) (h : W54 dataa datal datac a_ b w R) : Ca Try.prog 54 ⟨[(.slice dataa datal datac), (.int .i64 a_), (.int .i64 b)]⟩ w R := by
  have h1 : Try.prog.follows .mixedOrders = true := by kernel_rfl
  have h2 : Try.f54.body = some C54 := by kernel_rfl
  have h3 : (Try.f54.name == "runtime.NumGoroutine") = false := by kernel_rfl
  have h6 : Try.f54.results.toList = [] := by kernel_rfl
  have h4 : Nat.ble 3 49 = true := by kernel_rfl
  have h5 : okCode 49 pl54 ls54 C54 0 = true := by kernel_rfl
  have e : W54 dataa datal datac a_ b w R = wpC none Try.prog 49 pl54 ls54 C54 0 (endP Try.prog [] R) (fr0 [(.slice dataa datal datac), (.int .i64 a_), (.int .i64 b)]) [] w := by kernel_rfl
  exact ca_of' (P := Try.prog) (g := 54) (fn := Try.f54) (c := C54) (m := 49) (rs := []) (args := [(.slice dataa datal datac), (.int .i64 a_), (.int .i64 b)]) (pl := pl54) (ls := ls54) (w := w) (R := R) h1 Try.func54 h2 Try.ntmps54 h6 h3 h4 h5 (Eq.mp e h)
end Go.Proofs.Ytmnbnjkbbhjocaa

/- The library's sort of one-cell elements (numbers, strings), at one type of them: Less, insertion sort. -/
namespace Go.Proofs.Ytmnbnjkbbhjocaa.Sortint
open Go Go.Proofs.Ytmnbnjkbbhjocaa Go.Proofs.Ytmnbnjkbbhjocaa.St

theorem isNaN_ok (x : Int) (w : World) (R : Value → World → Prop) (h : R (.bool false) w) : Ca Try.prog 73 #[(Value.int .i64) x] w R := by
  refine ca73 x w R ?_
  exact (by simpa [W73] using h)
theorem less_ok (x y : Int) (w : World) (R : Value → World → Prop) (h : R (.bool (decide (x < y))) w) : Ca Try.prog 60 #[(Value.int .i64) x, (Value.int .i64) y] w R := by
  refine ca60 x y w R ?_
  exact isNaN_ok x w _ ⟨false, rfl, h⟩

section
variable {e : TypeId} {d : Option Addr} {l c : Nat} {xs : List Int} {w : World}
/-- Is the one less than the other? -/
theorem lss (hd : Els (Value.int .i64) e w d l c xs) {i j : Int} (m n : Nat) (hi : i = m) (hj : j = n) (hm : m < l) (hn : n < l) {A B : World → Prop} (hA : at0 xs m < at0 xs n → A w) (hB : ¬ at0 xs m < at0 xs n → B w) :
    ∃ ad : Addr, d = some ad ∧ (0 : Int) ≤ i ∧ i < (↑l : Int) ∧ ∃ x : Int, w.cell? (Addr.add ad (Int.toNat i * 1)) = some ((Value.int .i64) x) ∧
    ∃ ad : Addr, d = some ad ∧ (0 : Int) ≤ j ∧ j < (↑l : Int) ∧ ∃ y : Int, w.cell? (Addr.add ad (Int.toNat j * 1)) = some ((Value.int .i64) y) ∧
    Ca Try.prog 60 (Array.mk [(Value.int .i64) x, (Value.int .i64) y]) w (fun v w' => ∃ b : Bool, v = Value.bool b ∧ ifK b (A w') (B w')) :=
  hd.rd m hi hm (hd.rd n hj hn (less_ok _ _ _ _ ⟨_, rfl, ifK_dec hA hB⟩))
/-- Is the one not less than the other? -/
theorem nls (hd : Els (Value.int .i64) e w d l c xs) {i j : Int} (m n : Nat) (hi : i = m) (hj : j = n) (hm : m < l) (hn : n < l) {A B : World → Prop} (hA : ¬ at0 xs m < at0 xs n → A w) (hB : at0 xs m < at0 xs n → B w) :
    ∃ ad : Addr, d = some ad ∧ (0 : Int) ≤ i ∧ i < (↑l : Int) ∧ ∃ x : Int, w.cell? (Addr.add ad (Int.toNat i * 1)) = some ((Value.int .i64) x) ∧
    ∃ ad : Addr, d = some ad ∧ (0 : Int) ≤ j ∧ j < (↑l : Int) ∧ ∃ y : Int, w.cell? (Addr.add ad (Int.toNat j * 1)) = some ((Value.int .i64) y) ∧
    Ca Try.prog 60 (Array.mk [(Value.int .i64) x, (Value.int .i64) y]) w (fun v w' => ∃ b : Bool, v = Value.bool b ∧ ifK (!b) (A w') (B w')) :=
  hd.rd m hi hm (hd.rd n hj hn (less_ok _ _ _ _ ⟨_, rfl, ifK_not (fun h => hA (of_decide_eq_false h)) (fun h => hB (of_decide_eq_true h))⟩))
end

theorem insertion_ok (e : TypeId) (d : Option Addr) (l c : Nat) (a b : Nat) (xs : List Int) (w : World) (hd : Els (Value.int .i64) e w d l c xs) (hab : a ≤ b) (hb : b ≤ l) (hl : l < 4611686018427387904) (R : Value → World → Prop)
    (h : ∀ w' ys, Els (Value.int .i64) e w' d l c ys → Seg a b xs ys → Srt ys a b → Mod (rowB d) w w' → R (.tuple #[]) w') :
    Ca Try.prog 54 #[.slice d l c, .int .i64 a, .int .i64 b] w R := by
  obtain ⟨hxl, hlc, hcm⟩ := hd.len
  refine ca54 d l c a b w R ?_
  refine ⟨fun x w' => ∃ (i : Nat) (ys : List Int), x = i ∧ a < i ∧ (i ≤ b ∨ i = a + 1) ∧ Els (Value.int .i64) e w' d l c ys ∧ Seg a b xs ys ∧ Srt ys a (min i b) ∧ Mod (rowB d) w w',
    fun x _ => ((b : Int) - x).toNat, ⟨a + 1, xs, (by first | (simp only [IntKind.wrap_i64]; omega) | omega), by omega, .inr rfl, hd, Seg.refl _ _ _, Srt.nil _ _ _ (by omega), Mod.refl _ _⟩, ?_⟩
  rintro _ x w4 ⟨i, ys, rfl, hai, hib, hys, hseg, hsrt, hm⟩
  refine ifK_dec (fun hlt => ?_) (fun hge => ?_)
  · have hsrt : Srt ys a i := by rwa [Nat.min_eq_left (by omega)] at hsrt
    refine ⟨fun x w' => ∃ (j : Nat) (zs : List Int), x = j ∧ a ≤ j ∧ j ≤ i ∧ Els (Value.int .i64) e w' d l c zs ∧ Seg a b xs zs ∧ Ins zs a i j ∧ Mod (rowB d) w w', fun x _ => (x - a).toNat,
      ⟨i, ys, rfl, by omega, Nat.le_refl _, hys, hseg, Ins.start hsrt, hm⟩, ?_⟩
    rintro _ x w9 ⟨j, zs, rfl, haj, hji, hzs, hsg, hins, hm9⟩
    have hzl := hzs.len.1
    intro w10 e10
    have m10 : Mod no w9 w10 := by subst e10; exact Mod.drew _
    clear e10
    have hz10 := hzs.no m10
    have hm10 := hm9.trans_no m10
    have next : (j ≤ a ∨ at0 zs (j - 1) ≤ at0 zs j) → (∃ (i' : Nat) (ys : List Int), IntKind.i64.wrap ((i : Int) + 1) = i' ∧ a < i' ∧ (i' ≤ b ∨ i' = a + 1) ∧ Els (Value.int .i64) e w10 d l c ys ∧ Seg a b xs ys ∧ Srt ys a (min i' b) ∧ Mod (rowB d) w w10) ∧
        ((b : Int) - IntKind.i64.wrap ((i : Int) + 1)).toNat < ((b : Int) - i).toNat := by
      intro hj
      refine ⟨⟨i + 1, zs, (by first | (simp only [IntKind.wrap_i64]; omega) | omega), by omega, .inl (by omega), hz10, hsg, ?_, hm10⟩, (by first | (simp only [IntKind.wrap_i64]; omega) | omega)⟩
      rw [Nat.min_eq_left (by omega)]
      exact hins.done hj
    refine ifK_dec (fun hgt => ?_) (fun hle => next (.inl (by omega)))
    refine lss hz10 j (j - 1) rfl (by first | (simp only [IntKind.wrap_i64]; omega) | omega) (by omega) (by omega) (fun hls => ?_) (fun hls => next (.inr (Lin.nlt hls)))
    intro w18 e18
    have m18 : Mod no w10 w18 := by subst e18; exact Mod.drew _
    clear e18
    refine (hz10.no m18).swp j (j - 1) rfl (by first | (simp only [IntKind.wrap_i64]; omega) | omega) (by omega) (by omega) fun w28 hz28 m28 => ?_
    exact ⟨⟨j - 1, swapL zs j (j - 1), (by first | (simp only [IntKind.wrap_i64]; omega) | omega), by omega, by omega, hz28, hsg.trans (Seg.swap (by omega) (by omega) (by omega) (by omega) (by omega) (by omega)),
      hins.step (by omega) (by omega) hji hls, (hm10.trans_no m18).trans m28⟩, (by first | (simp only [IntKind.wrap_i64]; omega) | omega)⟩
  · rw [Nat.min_eq_right (by omega)] at hsrt
    exact h w4 ys hys hseg hsrt hm
end Go.Proofs.Ytmnbnjkbbhjocaa.Sortint
