/- Parts of the proof of ConsumerHoldsSaid. -/
import Derived.Test.YtmnbnjkbbhjocaaCore9
import Derived.Test.YtmnbnjkbbhjocaaProg
import Derived.Test.YtmnbnjkbbhjocaaX3
/- The formulas of functions, printed by a program of mine (gen.py) out of the translation. -/
namespace Go.Proofs.Ytmnbnjkbbhjocaa
open Go Go.Proofs.Ytmnbnjkbbhjocaa.St
set_option maxRecDepth 100000

/-- (*staith/staithref17.Desk).find -/
noncomputable def C41 : Code := (Try.f41.body).getD .skip
def pl41 : Nat → Plan := fun _ => .done
def ls41 : Nat → List (Nat × LT)
  | 3 => [(12, (.one (.int .i64)))]
  | _ => []
def W41 (d : Option Addr) (client : Int) (w : World) (R : Value → World → Prop) : Prop :=
  (onP (d) (fun a0 =>
    (∃ p1 : Option Addr, (∃ n2 : Nat, (∃ n3 : Nat, ((World.cell? w (Addr.add a0 0) = some (Value.slice p1 n2 n3)) ∧ (∃ z4 : Int → World → Prop, (∃ z5 : Int → World → Nat, ((z4 (0) (w)) ∧ (∀ (_ : Nat → Value), (∀ (x7 : Int), (∀ (w8 : World), ((z4 (x7) (w8)) → (ifK (decide (x7 < (↑n2 : Int)))
      (∃ a9 : Addr, ((p1 = some a9) ∧ (((0 : Int) ≤ x7) ∧ (((x7 : Int) < (↑n2 : Int)) ∧ (∃ x10 : Int, ((World.cell? w8 (Addr.add (Addr.add a9 (Int.toNat x7 * 4)) 0) = some (Value.int IntKind.i64 x10)) ∧ (∃ s11 : ByteArray, ((World.cell? w8 (Addr.add (Addr.add a9 (Int.toNat x7 * 4)) 1) = some (Value.string s11)) ∧ (∃ x12 : Int, ((World.cell? w8 (Addr.add (Addr.add a9 (Int.toNat x7 * 4)) 2) = some (Value.int IntKind.i64 x12)) ∧ (∃ p13 : Option Addr, (∃ n14 : Nat, (∃ n15 : Nat, ((World.cell? w8 (Addr.add (Addr.add a9 (Int.toNat x7 * 4)) 3) = some (Value.slice p13 n14 n15)) ∧ (atW (World.alloc w8 (Obj.cells (Array.mk [Value.int IntKind.i64 0, Value.string (ByteArray.mk #[]), Value.int IntKind.i64 0, Value.slice none 0 0]) 53 (0, 0))) (fun w16 =>
        ((∃ v17 : Value, (World.cell? w16 (Addr.add (Addr.mk (Array.size (World.heap w8)) 0 none) 0) = some v17)) ∧ ((World.frozen? w16 (Addr.add (Addr.mk (Array.size (World.heap w8)) 0 none) 0) = false) ∧ (atW (World.setCell w16 (Addr.add (Addr.mk (Array.size (World.heap w8)) 0 none) 0) (Value.int IntKind.i64 x10)) (fun w18 =>
          ((∃ v19 : Value, (World.cell? w18 (Addr.add (Addr.mk (Array.size (World.heap w8)) 0 none) 1) = some v19)) ∧ ((World.frozen? w18 (Addr.add (Addr.mk (Array.size (World.heap w8)) 0 none) 1) = false) ∧ (atW (World.setCell w18 (Addr.add (Addr.mk (Array.size (World.heap w8)) 0 none) 1) (Value.string s11)) (fun w20 =>
            ((∃ v21 : Value, (World.cell? w20 (Addr.add (Addr.mk (Array.size (World.heap w8)) 0 none) 2) = some v21)) ∧ ((World.frozen? w20 (Addr.add (Addr.mk (Array.size (World.heap w8)) 0 none) 2) = false) ∧ (atW (World.setCell w20 (Addr.add (Addr.mk (Array.size (World.heap w8)) 0 none) 2) (Value.int IntKind.i64 x12)) (fun w22 =>
              ((∃ v23 : Value, (World.cell? w22 (Addr.add (Addr.mk (Array.size (World.heap w8)) 0 none) 3) = some v23)) ∧ ((World.frozen? w22 (Addr.add (Addr.mk (Array.size (World.heap w8)) 0 none) 3) = false) ∧ (atW (World.setCell w22 (Addr.add (Addr.mk (Array.size (World.heap w8)) 0 none) 3) (Value.slice p13 n14 n15)) (fun w24 =>
                (∃ x25 : Int, ((World.cell? w24 (Addr.add (Addr.mk (Array.size (World.heap w8)) 0 none) 0) = some (Value.int IntKind.i64 x25)) ∧ (ifK (x25 == client)
                  (R (Value.int IntKind.i64 x7) (w24))
                  ((z4 (IntKind.wrap IntKind.i64 (x7 + 1)) (w24)) ∧ (z5 (IntKind.wrap IntKind.i64 (x7 + 1)) w24 < z5 x7 w8)))))))))))))))))))))))))))))))))))))
      (R (Value.int IntKind.i64 (-1)) (w8))))))))))))))))
theorem ca41 (d : Option Addr) (client : Int) (w : World) (R : Value → World → Prop) (h : W41 d client w R) : Ca Try.prog 41 ⟨[(.pointer d), (.int .i64 client)]⟩ w R := by
  have h1 : Try.prog.follows .mixedOrders = true := by kernel_rfl
  have h2 : Try.f41.body = some C41 := by kernel_rfl
  have h3 : (Try.f41.name == "runtime.NumGoroutine") = false := by kernel_rfl
  have h6 : Try.f41.results.toList = [.tmp 4] := by kernel_rfl
  have h4 : Nat.ble 2 23 = true := by kernel_rfl
  have h5 : okCode 23 pl41 ls41 C41 0 = true := by kernel_rfl
  have e : W41 d client w R = wpC none Try.prog 23 pl41 ls41 C41 0 (endP Try.prog [.tmp 4] R) (fr0 [(.pointer d), (.int .i64 client)]) [] w := by kernel_rfl
  exact ca_of' (P := Try.prog) (g := 41) (fn := Try.f41) (c := C41) (m := 23) (rs := [.tmp 4]) (args := [(.pointer d), (.int .i64 client)]) (pl := pl41) (ls := ls41) (w := w) (R := R) h1 Try.func41 h2 Try.ntmps41 h6 h3 h4 h5 (Eq.mp e h)

/-- (*staith/staithref17.Desk).Find -/
noncomputable def C20 : Code := (Try.f20.body).getD .skip
def pl20 : Nat → Plan := fun _ => .done
def ls20 : Nat → List (Nat × LT) := fun _ => []
def W20 (d : Option Addr) (client : Int) (w : World) (R : Value → World → Prop) : Prop :=
  (atW (World.alloc w (Obj.cells (Array.mk [Value.int IntKind.i64 0, Value.string (ByteArray.mk #[]), Value.int IntKind.i64 0, Value.slice none 0 0]) 53 (0, 0))) (fun w0 =>
    (Ca Try.prog (41) (Array.mk [Value.pointer d, Value.int IntKind.i64 client]) (w0) (fun v1 => (fun w2 =>
      (∃ x3 : Int, ((v1 = Value.int IntKind.i64 x3) ∧ (ifK (decide (x3 < 0))
        ((∃ v4 : Value, (World.cell? w2 (Addr.add (Addr.mk (Array.size (World.heap w)) 0 none) 0) = some v4)) ∧ ((World.frozen? w2 (Addr.add (Addr.mk (Array.size (World.heap w)) 0 none) 0) = false) ∧ (atW (World.setCell w2 (Addr.add (Addr.mk (Array.size (World.heap w)) 0 none) 0) (Value.int IntKind.i64 0)) (fun w5 =>
          ((∃ v6 : Value, (World.cell? w5 (Addr.add (Addr.mk (Array.size (World.heap w)) 0 none) 1) = some v6)) ∧ ((World.frozen? w5 (Addr.add (Addr.mk (Array.size (World.heap w)) 0 none) 1) = false) ∧ (atW (World.setCell w5 (Addr.add (Addr.mk (Array.size (World.heap w)) 0 none) 1) (Value.string (ByteArray.mk #[]))) (fun w7 =>
            ((∃ v8 : Value, (World.cell? w7 (Addr.add (Addr.mk (Array.size (World.heap w)) 0 none) 2) = some v8)) ∧ ((World.frozen? w7 (Addr.add (Addr.mk (Array.size (World.heap w)) 0 none) 2) = false) ∧ (atW (World.setCell w7 (Addr.add (Addr.mk (Array.size (World.heap w)) 0 none) 2) (Value.int IntKind.i64 0)) (fun w9 =>
              ((∃ v10 : Value, (World.cell? w9 (Addr.add (Addr.mk (Array.size (World.heap w)) 0 none) 3) = some v10)) ∧ ((World.frozen? w9 (Addr.add (Addr.mk (Array.size (World.heap w)) 0 none) 3) = false) ∧ (atW (World.setCell w9 (Addr.add (Addr.mk (Array.size (World.heap w)) 0 none) 3) (Value.slice none 0 0)) (fun w11 =>
                (∃ x12 : Int, ((World.cell? w11 (Addr.add (Addr.mk (Array.size (World.heap w)) 0 none) 0) = some (Value.int IntKind.i64 x12)) ∧ (∃ s13 : ByteArray, ((World.cell? w11 (Addr.add (Addr.mk (Array.size (World.heap w)) 0 none) 1) = some (Value.string s13)) ∧ (∃ x14 : Int, ((World.cell? w11 (Addr.add (Addr.mk (Array.size (World.heap w)) 0 none) 2) = some (Value.int IntKind.i64 x14)) ∧ (∃ p15 : Option Addr, (∃ n16 : Nat, (∃ n17 : Nat, ((World.cell? w11 (Addr.add (Addr.mk (Array.size (World.heap w)) 0 none) 3) = some (Value.slice p15 n16 n17)) ∧ (R (Value.tuple (Array.mk [Value.agg (Array.mk (List.reverse [Value.slice p15 n16 n17, Value.int IntKind.i64 x14, Value.string s13, Value.int IntKind.i64 x12])), Value.bool false])) (w11))))))))))))))))))))))))))))
        (onP (d) (fun a18 =>
          (∃ p19 : Option Addr, (∃ n20 : Nat, (∃ n21 : Nat, ((World.cell? w2 (Addr.add a18 0) = some (Value.slice p19 n20 n21)) ∧ (∃ a22 : Addr, ((p19 = some a22) ∧ (((0 : Int) ≤ x3) ∧ (((x3 : Int) < (↑n20 : Int)) ∧ (∃ x23 : Int, ((World.cell? w2 (Addr.add (Addr.add a22 (Int.toNat x3 * 4)) 0) = some (Value.int IntKind.i64 x23)) ∧ (∃ s24 : ByteArray, ((World.cell? w2 (Addr.add (Addr.add a22 (Int.toNat x3 * 4)) 1) = some (Value.string s24)) ∧ (∃ x25 : Int, ((World.cell? w2 (Addr.add (Addr.add a22 (Int.toNat x3 * 4)) 2) = some (Value.int IntKind.i64 x25)) ∧ (∃ p26 : Option Addr, (∃ n27 : Nat, (∃ n28 : Nat, ((World.cell? w2 (Addr.add (Addr.add a22 (Int.toNat x3 * 4)) 3) = some (Value.slice p26 n27 n28)) ∧ ((∃ v29 : Value, (World.cell? w2 (Addr.add (Addr.mk (Array.size (World.heap w)) 0 none) 0) = some v29)) ∧ ((World.frozen? w2 (Addr.add (Addr.mk (Array.size (World.heap w)) 0 none) 0) = false) ∧ (atW (World.setCell w2 (Addr.add (Addr.mk (Array.size (World.heap w)) 0 none) 0) (Value.int IntKind.i64 x23)) (fun w30 =>
            ((∃ v31 : Value, (World.cell? w30 (Addr.add (Addr.mk (Array.size (World.heap w)) 0 none) 1) = some v31)) ∧ ((World.frozen? w30 (Addr.add (Addr.mk (Array.size (World.heap w)) 0 none) 1) = false) ∧ (atW (World.setCell w30 (Addr.add (Addr.mk (Array.size (World.heap w)) 0 none) 1) (Value.string s24)) (fun w32 =>
              ((∃ v33 : Value, (World.cell? w32 (Addr.add (Addr.mk (Array.size (World.heap w)) 0 none) 2) = some v33)) ∧ ((World.frozen? w32 (Addr.add (Addr.mk (Array.size (World.heap w)) 0 none) 2) = false) ∧ (atW (World.setCell w32 (Addr.add (Addr.mk (Array.size (World.heap w)) 0 none) 2) (Value.int IntKind.i64 x25)) (fun w34 =>
                ((∃ v35 : Value, (World.cell? w34 (Addr.add (Addr.mk (Array.size (World.heap w)) 0 none) 3) = some v35)) ∧ ((World.frozen? w34 (Addr.add (Addr.mk (Array.size (World.heap w)) 0 none) 3) = false) ∧ (atW (World.setCell w34 (Addr.add (Addr.mk (Array.size (World.heap w)) 0 none) 3) (Value.slice p26 n27 n28)) (fun w36 =>
                  (∃ x37 : Int, ((World.cell? w36 (Addr.add (Addr.mk (Array.size (World.heap w)) 0 none) 0) = some (Value.int IntKind.i64 x37)) ∧ (∃ s38 : ByteArray, ((World.cell? w36 (Addr.add (Addr.mk (Array.size (World.heap w)) 0 none) 1) = some (Value.string s38)) ∧ (∃ x39 : Int, ((World.cell? w36 (Addr.add (Addr.mk (Array.size (World.heap w)) 0 none) 2) = some (Value.int IntKind.i64 x39)) ∧ (∃ p40 : Option Addr, (∃ n41 : Nat, (∃ n42 : Nat, ((World.cell? w36 (Addr.add (Addr.mk (Array.size (World.heap w)) 0 none) 3) = some (Value.slice p40 n41 n42)) ∧ (R (Value.tuple (Array.mk [Value.agg (Array.mk (List.reverse [Value.slice p40 n41 n42, Value.int IntKind.i64 x39, Value.string s38, Value.int IntKind.i64 x37])), Value.bool true])) (w36))))))))))))))))))))))))))))))))))))))))))))))))))))))))
theorem ca20 (d : Option Addr) (client : Int) (w : World) (R : Value → World → Prop) (h : W20 d client w R) : Ca Try.prog 20 ⟨[(.pointer d), (.int .i64 client)]⟩ w R := by
  have h1 : Try.prog.follows .mixedOrders = true := by kernel_rfl
  have h2 : Try.f20.body = some C20 := by kernel_rfl
  have h3 : (Try.f20.name == "runtime.NumGoroutine") = false := by kernel_rfl
  have h6 : Try.f20.results.toList = [.cell 4 53, .tmp 5] := by kernel_rfl
  have h4 : Nat.ble 2 20 = true := by kernel_rfl
  have h5 : okCode 20 pl20 ls20 C20 0 = true := by kernel_rfl
  have e : W20 d client w R = wpC none Try.prog 20 pl20 ls20 C20 0 (endP Try.prog [.cell 4 53, .tmp 5] R) (fr0 [(.pointer d), (.int .i64 client)]) [] w := by kernel_rfl
  exact ca_of' (P := Try.prog) (g := 20) (fn := Try.f20) (c := C20) (m := 20) (rs := [.cell 4 53, .tmp 5]) (args := [(.pointer d), (.int .i64 client)]) (pl := pl20) (ls := ls20) (w := w) (R := R) h1 Try.func20 h2 Try.ntmps20 h6 h3 h4 h5 (Eq.mp e h)

/-- (*staith/staithref17.Desk).Add -/
noncomputable def C35 : Code := (Try.f35.body).getD .skip
def pl35 : Nat → Plan := fun _ => .done
def ls35 : Nat → List (Nat × LT) := fun _ => []
def W35 (d : Option Addr) (client : Int) (queue : ByteArray) (most : Int) (w : World) (R : Value → World → Prop) : Prop :=
  (ifK (decide (client < 1))
    (R (Value.int IntKind.i64 2) (w))
    (ifK (decide (client > 1000))
      (R (Value.int IntKind.i64 2) (w))
      (Ca Try.prog (49) (Array.mk [Value.string queue]) (w) (fun v0 => (fun w1 =>
        (∃ b2 : Bool, ((v0 = Value.bool b2) ∧ (ifK (!b2)
          (R (Value.int IntKind.i64 2) (w1))
          (ifK (decide (most < 1))
            (R (Value.int IntKind.i64 2) (w1))
            (ifK (decide (most > 100))
              (R (Value.int IntKind.i64 2) (w1))
              (Ca Try.prog (41) (Array.mk [Value.pointer d, Value.int IntKind.i64 client]) (w1) (fun v3 => (fun w4 =>
                (∃ x5 : Int, ((v3 = Value.int IntKind.i64 x5) ∧ (ifK (decide (x5 ≥ 0))
                  (R (Value.int IntKind.i64 4) (w4))
                  (onP (d) (fun a6 =>
                    (∃ p7 : Option Addr, (∃ n8 : Nat, (∃ n9 : Nat, ((World.cell? w4 (Addr.add a6 0) = some (Value.slice p7 n8 n9)) ∧ (ifK (decide ((↑n8 : Int) ≥ 32))
                      (R (Value.int IntKind.i64 5) (w4))
                      (atW (World.alloc w4 (Obj.cells (Array.mk []) 53 (0, 0))) (fun w10 =>
                        (onP (d) (fun a11 =>
                          (∃ p12 : Option Addr, (∃ n13 : Nat, (∃ n14 : Nat, ((World.cell? w10 (Addr.add a11 0) = some (Value.slice p12 n13 n14)) ∧ (∃ v15 : Value, (∃ w16 : World, ((Sem.run Try.prog (Builtin.append_ (Array.mk [42, 42]) 42 (Array.mk [Value.slice (some (Addr.mk (Array.size (World.heap w4)) 0 none)) 0 0, Value.slice p12 n13 n14])) w10 = Result.ok v15 w16) ∧ (∃ p17 : Option Addr, (∃ n18 : Nat, (∃ n19 : Nat, ((v15 = Value.slice p17 n18 n19) ∧ (atW (World.alloc w16 (Obj.cells (Array.mk [Value.int IntKind.i64 client, Value.string queue, Value.int IntKind.i64 most, Value.slice none 0 0]) 53 (0, 0))) (fun w20 =>
                            (∃ v21 : Value, (∃ w22 : World, ((Sem.run Try.prog (Builtin.append_ (Array.mk [42, 42]) 42 (Array.mk [Value.slice p17 n18 n19, Value.slice (some (Addr.mk (Array.size (World.heap w16)) 0 none)) 1 1])) w20 = Result.ok v21 w22) ∧ (∃ p23 : Option Addr, (∃ n24 : Nat, (∃ n25 : Nat, ((v21 = Value.slice p23 n24 n25) ∧ (onP (d) (fun a26 =>
                              ((∃ v27 : Value, (World.cell? w22 (Addr.add (Addr.add a26 0) 0) = some v27)) ∧ ((World.frozen? w22 (Addr.add (Addr.add a26 0) 0) = false) ∧ (atW (World.setCell w22 (Addr.add (Addr.add a26 0) 0) (Value.slice p23 n24 n25)) (fun w28 =>
                                (R (Value.int IntKind.i64 0) (w28)))))))))))))))))))))))))))))))))))))))))))))))))))))))
theorem ca35 (d : Option Addr) (client : Int) (queue : ByteArray) (most : Int) (w : World) (R : Value → World → Prop) (h : W35 d client queue most w R) : Ca Try.prog 35 ⟨[(.pointer d), (.int .i64 client), (.string queue), (.int .i64 most)]⟩ w R := by
  have h1 : Try.prog.follows .mixedOrders = true := by kernel_rfl
  have h2 : Try.f35.body = some C35 := by kernel_rfl
  have h3 : (Try.f35.name == "runtime.NumGoroutine") = false := by kernel_rfl
  have h6 : Try.f35.results.toList = [.tmp 8] := by kernel_rfl
  have h4 : Nat.ble 4 56 = true := by kernel_rfl
  have h5 : okCode 56 pl35 ls35 C35 0 = true := by kernel_rfl
  have e : W35 d client queue most w R = wpC none Try.prog 56 pl35 ls35 C35 0 (endP Try.prog [.tmp 8] R) (fr0 [(.pointer d), (.int .i64 client), (.string queue), (.int .i64 most)]) [] w := by kernel_rfl
  exact ca_of' (P := Try.prog) (g := 35) (fn := Try.f35) (c := C35) (m := 56) (rs := [.tmp 8]) (args := [(.pointer d), (.int .i64 client), (.string queue), (.int .i64 most)]) (pl := pl35) (ls := ls35) (w := w) (R := R) h1 Try.func35 h2 Try.ntmps35 h6 h3 h4 h5 (Eq.mp e h)

/-- (*staith/staithref17.Desk).Drop -/
noncomputable def C36 : Code := (Try.f36.body).getD .skip
def pl36 : Nat → Plan
  | 5 => (.quiet 0 (.quiet 2 (.quiet 3 (.quiet 4 (.quiet 5 (.quiet 6 (.quiet 7 (.quiet 9 (.quiet 10 (.quiet 11 (.quiet 12 (.quiet 13 (.quiet 14 (.quiet 15 (.eff 1 [5, 12] (.eff 8 [12] (.eff 16 [] (.quiet 17 (.quiet 18 (.eff 19 [] .done))))))))))))))))))))
  | _ => .done
def ls36 : Nat → List (Nat × LT) := fun _ => []
def W36 (d : Option Addr) (client : Int) (w : World) (R : Value → World → Prop) : Prop :=
  (atW (World.alloc w (Obj.cells (Array.mk [Value.int IntKind.i64 0, Value.string (ByteArray.mk #[]), Value.int IntKind.i64 0, Value.slice none 0 0]) 53 (0, 0))) (fun w0 =>
    (Ca Try.prog (41) (Array.mk [Value.pointer d, Value.int IntKind.i64 client]) (w0) (fun v1 => (fun w2 =>
      (∃ x3 : Int, ((v1 = Value.int IntKind.i64 x3) ∧ (ifK (decide (x3 < 0))
        ((∃ v4 : Value, (World.cell? w2 (Addr.add (Addr.mk (Array.size (World.heap w)) 0 none) 0) = some v4)) ∧ ((World.frozen? w2 (Addr.add (Addr.mk (Array.size (World.heap w)) 0 none) 0) = false) ∧ (atW (World.setCell w2 (Addr.add (Addr.mk (Array.size (World.heap w)) 0 none) 0) (Value.int IntKind.i64 0)) (fun w5 =>
          ((∃ v6 : Value, (World.cell? w5 (Addr.add (Addr.mk (Array.size (World.heap w)) 0 none) 1) = some v6)) ∧ ((World.frozen? w5 (Addr.add (Addr.mk (Array.size (World.heap w)) 0 none) 1) = false) ∧ (atW (World.setCell w5 (Addr.add (Addr.mk (Array.size (World.heap w)) 0 none) 1) (Value.string (ByteArray.mk #[]))) (fun w7 =>
            ((∃ v8 : Value, (World.cell? w7 (Addr.add (Addr.mk (Array.size (World.heap w)) 0 none) 2) = some v8)) ∧ ((World.frozen? w7 (Addr.add (Addr.mk (Array.size (World.heap w)) 0 none) 2) = false) ∧ (atW (World.setCell w7 (Addr.add (Addr.mk (Array.size (World.heap w)) 0 none) 2) (Value.int IntKind.i64 0)) (fun w9 =>
              ((∃ v10 : Value, (World.cell? w9 (Addr.add (Addr.mk (Array.size (World.heap w)) 0 none) 3) = some v10)) ∧ ((World.frozen? w9 (Addr.add (Addr.mk (Array.size (World.heap w)) 0 none) 3) = false) ∧ (atW (World.setCell w9 (Addr.add (Addr.mk (Array.size (World.heap w)) 0 none) 3) (Value.slice none 0 0)) (fun w11 =>
                (∃ x12 : Int, ((World.cell? w11 (Addr.add (Addr.mk (Array.size (World.heap w)) 0 none) 0) = some (Value.int IntKind.i64 x12)) ∧ (∃ s13 : ByteArray, ((World.cell? w11 (Addr.add (Addr.mk (Array.size (World.heap w)) 0 none) 1) = some (Value.string s13)) ∧ (∃ x14 : Int, ((World.cell? w11 (Addr.add (Addr.mk (Array.size (World.heap w)) 0 none) 2) = some (Value.int IntKind.i64 x14)) ∧ (∃ p15 : Option Addr, (∃ n16 : Nat, (∃ n17 : Nat, ((World.cell? w11 (Addr.add (Addr.mk (Array.size (World.heap w)) 0 none) 3) = some (Value.slice p15 n16 n17)) ∧ (R (Value.tuple (Array.mk [Value.agg (Array.mk (List.reverse [Value.slice p15 n16 n17, Value.int IntKind.i64 x14, Value.string s13, Value.int IntKind.i64 x12])), Value.int IntKind.i64 3])) (w11))))))))))))))))))))))))))))
        (onP (d) (fun a18 =>
          (∃ p19 : Option Addr, (∃ n20 : Nat, (∃ n21 : Nat, ((World.cell? w2 (Addr.add a18 0) = some (Value.slice p19 n20 n21)) ∧ (∃ a22 : Addr, ((p19 = some a22) ∧ (((0 : Int) ≤ x3) ∧ (((x3 : Int) < (↑n20 : Int)) ∧ (∃ x23 : Int, ((World.cell? w2 (Addr.add (Addr.add a22 (Int.toNat x3 * 4)) 0) = some (Value.int IntKind.i64 x23)) ∧ (∃ s24 : ByteArray, ((World.cell? w2 (Addr.add (Addr.add a22 (Int.toNat x3 * 4)) 1) = some (Value.string s24)) ∧ (∃ x25 : Int, ((World.cell? w2 (Addr.add (Addr.add a22 (Int.toNat x3 * 4)) 2) = some (Value.int IntKind.i64 x25)) ∧ (∃ p26 : Option Addr, (∃ n27 : Nat, (∃ n28 : Nat, ((World.cell? w2 (Addr.add (Addr.add a22 (Int.toNat x3 * 4)) 3) = some (Value.slice p26 n27 n28)) ∧ (atW (World.alloc w2 (Obj.cells (Array.mk [Value.int IntKind.i64 0, Value.string (ByteArray.mk #[]), Value.int IntKind.i64 0, Value.slice none 0 0]) 53 (0, 0))) (fun w29 =>
            ((∃ v30 : Value, (World.cell? w29 (Addr.add (Addr.mk (Array.size (World.heap w2)) 0 none) 0) = some v30)) ∧ ((World.frozen? w29 (Addr.add (Addr.mk (Array.size (World.heap w2)) 0 none) 0) = false) ∧ (atW (World.setCell w29 (Addr.add (Addr.mk (Array.size (World.heap w2)) 0 none) 0) (Value.int IntKind.i64 x23)) (fun w31 =>
              ((∃ v32 : Value, (World.cell? w31 (Addr.add (Addr.mk (Array.size (World.heap w2)) 0 none) 1) = some v32)) ∧ ((World.frozen? w31 (Addr.add (Addr.mk (Array.size (World.heap w2)) 0 none) 1) = false) ∧ (atW (World.setCell w31 (Addr.add (Addr.mk (Array.size (World.heap w2)) 0 none) 1) (Value.string s24)) (fun w33 =>
                ((∃ v34 : Value, (World.cell? w33 (Addr.add (Addr.mk (Array.size (World.heap w2)) 0 none) 2) = some v34)) ∧ ((World.frozen? w33 (Addr.add (Addr.mk (Array.size (World.heap w2)) 0 none) 2) = false) ∧ (atW (World.setCell w33 (Addr.add (Addr.mk (Array.size (World.heap w2)) 0 none) 2) (Value.int IntKind.i64 x25)) (fun w35 =>
                  ((∃ v36 : Value, (World.cell? w35 (Addr.add (Addr.mk (Array.size (World.heap w2)) 0 none) 3) = some v36)) ∧ ((World.frozen? w35 (Addr.add (Addr.mk (Array.size (World.heap w2)) 0 none) 3) = false) ∧ (atW (World.setCell w35 (Addr.add (Addr.mk (Array.size (World.heap w2)) 0 none) 3) (Value.slice p26 n27 n28)) (fun w37 =>
                    (atW (World.drew w37) (fun w38 =>
                      (onP (d) (fun a39 =>
                        (∃ p40 : Option Addr, (∃ n41 : Nat, (∃ n42 : Nat, ((World.cell? w38 (Addr.add a39 0) = some (Value.slice p40 n41 n42)) ∧ (((0 : Int) ≤ 0) ∧ (((0 : Int) ≤ x3) ∧ (((x3 : Int) ≤ (↑n42 : Int)) ∧ (onP (d) (fun a43 =>
                          (∃ p44 : Option Addr, (∃ n45 : Nat, (∃ n46 : Nat, ((World.cell? w38 (Addr.add a43 0) = some (Value.slice p44 n45 n46)) ∧ (((0 : Int) ≤ IntKind.wrap IntKind.i64 (x3 + 1)) ∧ (((IntKind.wrap IntKind.i64 (x3 + 1) : Int) ≤ (↑n45 : Int)) ∧ ((((↑n45 : Int) : Int) ≤ (↑n46 : Int)) ∧ (atW (World.alloc w38 (Obj.cells (Array.mk []) 53 (0, 0))) (fun w47 =>
                            ((World.cell? w47 (Addr.add (Addr.add a39 0) 0) = some (Value.slice p40 n41 n42)) ∧ ((World.cell? w47 (Addr.add (Addr.add a43 0) 0) = some (Value.slice p44 n45 n46)) ∧ (∃ v48 : Value, (∃ w49 : World, ((Sem.run Try.prog (Builtin.append_ (Array.mk [42, 42]) 42 (Array.mk [Value.slice (some (Addr.mk (Array.size (World.heap w38)) 0 none)) 0 0, Value.slice (if n42 = 0 then p40 else Option.map (fun x => Addr.add x 0) p40) (Int.toNat x3 - 0) (n42 - 0)])) w47 = Result.ok v48 w49) ∧ (∃ p50 : Option Addr, (∃ n51 : Nat, (∃ n52 : Nat, ((v48 = Value.slice p50 n51 n52) ∧ ((World.cell? w49 (Addr.add (Addr.add a43 0) 0) = some (Value.slice p44 n45 n46)) ∧ (∃ v53 : Value, (∃ w54 : World, ((Sem.run Try.prog (Builtin.append_ (Array.mk [42, 42]) 42 (Array.mk [Value.slice p50 n51 n52, Value.slice (if n46 = Int.toNat (IntKind.wrap IntKind.i64 (x3 + 1)) then p44 else Option.map (fun x => Addr.add x (Int.toNat (IntKind.wrap IntKind.i64 (x3 + 1)) * 4)) p44) (Int.toNat (↑n45 : Int) - Int.toNat (IntKind.wrap IntKind.i64 (x3 + 1))) (n46 - Int.toNat (IntKind.wrap IntKind.i64 (x3 + 1)))])) w49 = Result.ok v53 w54) ∧ (∃ p55 : Option Addr, (∃ n56 : Nat, (∃ n57 : Nat, ((v53 = Value.slice p55 n56 n57) ∧ (onP (d) (fun a58 =>
                              ((∃ v59 : Value, (World.cell? w54 (Addr.add (Addr.add a58 0) 0) = some v59)) ∧ ((World.frozen? w54 (Addr.add (Addr.add a58 0) 0) = false) ∧ (atW (World.setCell w54 (Addr.add (Addr.add a58 0) 0) (Value.slice p55 n56 n57)) (fun w60 =>
                                (∃ x61 : Int, ((World.cell? w60 (Addr.add (Addr.mk (Array.size (World.heap w2)) 0 none) 0) = some (Value.int IntKind.i64 x61)) ∧ (∃ s62 : ByteArray, ((World.cell? w60 (Addr.add (Addr.mk (Array.size (World.heap w2)) 0 none) 1) = some (Value.string s62)) ∧ (∃ x63 : Int, ((World.cell? w60 (Addr.add (Addr.mk (Array.size (World.heap w2)) 0 none) 2) = some (Value.int IntKind.i64 x63)) ∧ (∃ p64 : Option Addr, (∃ n65 : Nat, (∃ n66 : Nat, ((World.cell? w60 (Addr.add (Addr.mk (Array.size (World.heap w2)) 0 none) 3) = some (Value.slice p64 n65 n66)) ∧ ((∃ v67 : Value, (World.cell? w60 (Addr.add (Addr.mk (Array.size (World.heap w)) 0 none) 0) = some v67)) ∧ ((World.frozen? w60 (Addr.add (Addr.mk (Array.size (World.heap w)) 0 none) 0) = false) ∧ (atW (World.setCell w60 (Addr.add (Addr.mk (Array.size (World.heap w)) 0 none) 0) (Value.int IntKind.i64 x61)) (fun w68 =>
                                  ((∃ v69 : Value, (World.cell? w68 (Addr.add (Addr.mk (Array.size (World.heap w)) 0 none) 1) = some v69)) ∧ ((World.frozen? w68 (Addr.add (Addr.mk (Array.size (World.heap w)) 0 none) 1) = false) ∧ (atW (World.setCell w68 (Addr.add (Addr.mk (Array.size (World.heap w)) 0 none) 1) (Value.string s62)) (fun w70 =>
                                    ((∃ v71 : Value, (World.cell? w70 (Addr.add (Addr.mk (Array.size (World.heap w)) 0 none) 2) = some v71)) ∧ ((World.frozen? w70 (Addr.add (Addr.mk (Array.size (World.heap w)) 0 none) 2) = false) ∧ (atW (World.setCell w70 (Addr.add (Addr.mk (Array.size (World.heap w)) 0 none) 2) (Value.int IntKind.i64 x63)) (fun w72 =>
                                      ((∃ v73 : Value, (World.cell? w72 (Addr.add (Addr.mk (Array.size (World.heap w)) 0 none) 3) = some v73)) ∧ ((World.frozen? w72 (Addr.add (Addr.mk (Array.size (World.heap w)) 0 none) 3) = false) ∧ (atW (World.setCell w72 (Addr.add (Addr.mk (Array.size (World.heap w)) 0 none) 3) (Value.slice p64 n65 n66)) (fun w74 =>
                                        (∃ x75 : Int, ((World.cell? w74 (Addr.add (Addr.mk (Array.size (World.heap w)) 0 none) 0) = some (Value.int IntKind.i64 x75)) ∧ (∃ s76 : ByteArray, ((World.cell? w74 (Addr.add (Addr.mk (Array.size (World.heap w)) 0 none) 1) = some (Value.string s76)) ∧ (∃ x77 : Int, ((World.cell? w74 (Addr.add (Addr.mk (Array.size (World.heap w)) 0 none) 2) = some (Value.int IntKind.i64 x77)) ∧ (∃ p78 : Option Addr, (∃ n79 : Nat, (∃ n80 : Nat, ((World.cell? w74 (Addr.add (Addr.mk (Array.size (World.heap w)) 0 none) 3) = some (Value.slice p78 n79 n80)) ∧ (R (Value.tuple (Array.mk [Value.agg (Array.mk (List.reverse [Value.slice p78 n79 n80, Value.int IntKind.i64 x77, Value.string s76, Value.int IntKind.i64 x75])), Value.int IntKind.i64 0])) (w74)))))))))))))))))))))))))))))))))))))))))))))))))))))))))))))))))))))))))))))))))))))))))))))))))))))))))))))))))))))))))))))))))
theorem ca36 (d : Option Addr) (client : Int) (w : World) (R : Value → World → Prop) (h : W36 d client w R) : Ca Try.prog 36 ⟨[(.pointer d), (.int .i64 client)]⟩ w R := by
  have h1 : Try.prog.follows .mixedOrders = true := by kernel_rfl
  have h2 : Try.f36.body = some C36 := by kernel_rfl
  have h3 : (Try.f36.name == "runtime.NumGoroutine") = false := by kernel_rfl
  have h6 : Try.f36.results.toList = [.cell 4 53, .tmp 5] := by kernel_rfl
  have h4 : Nat.ble 2 41 = true := by kernel_rfl
  have h5 : okCode 41 pl36 ls36 C36 0 = true := by kernel_rfl
  have e : W36 d client w R = wpC none Try.prog 41 pl36 ls36 C36 0 (endP Try.prog [.cell 4 53, .tmp 5] R) (fr0 [(.pointer d), (.int .i64 client)]) [] w := by kernel_rfl
  exact ca_of' (P := Try.prog) (g := 36) (fn := Try.f36) (c := C36) (m := 41) (rs := [.cell 4 53, .tmp 5]) (args := [(.pointer d), (.int .i64 client)]) (pl := pl36) (ls := ls36) (w := w) (R := R) h1 Try.func36 h2 Try.ntmps36 h6 h3 h4 h5 (Eq.mp e h)

/-- (*staith/staithref17.Desk).Next -/
noncomputable def C37 : Code := (Try.f37.body).getD .skip
def pl37 : Nat → Plan := fun _ => .done
def ls37 : Nat → List (Nat × LT)
  | 3 => [(13, (.one (.int .i64)))]
  | _ => []
def W37 (d : Option Addr) (queue : ByteArray) (w : World) (R : Value → World → Prop) : Prop :=
  (onP (d) (fun a0 =>
    (∃ p1 : Option Addr, (∃ n2 : Nat, (∃ n3 : Nat, ((World.cell? w (Addr.add a0 0) = some (Value.slice p1 n2 n3)) ∧ (∃ z4 : Int → World → Prop, (∃ z5 : Int → World → Nat, ((z4 (0) (w)) ∧ (∀ (_ : Nat → Value), (∀ (x7 : Int), (∀ (w8 : World), ((z4 (x7) (w8)) → (ifK (decide (x7 < (↑n2 : Int)))
      (∃ a9 : Addr, ((p1 = some a9) ∧ (((0 : Int) ≤ x7) ∧ (((x7 : Int) < (↑n2 : Int)) ∧ (∃ x10 : Int, ((World.cell? w8 (Addr.add (Addr.add a9 (Int.toNat x7 * 4)) 0) = some (Value.int IntKind.i64 x10)) ∧ (∃ s11 : ByteArray, ((World.cell? w8 (Addr.add (Addr.add a9 (Int.toNat x7 * 4)) 1) = some (Value.string s11)) ∧ (∃ x12 : Int, ((World.cell? w8 (Addr.add (Addr.add a9 (Int.toNat x7 * 4)) 2) = some (Value.int IntKind.i64 x12)) ∧ (∃ p13 : Option Addr, (∃ n14 : Nat, (∃ n15 : Nat, ((World.cell? w8 (Addr.add (Addr.add a9 (Int.toNat x7 * 4)) 3) = some (Value.slice p13 n14 n15)) ∧ (atW (World.alloc w8 (Obj.cells (Array.mk [Value.int IntKind.i64 0, Value.string (ByteArray.mk #[]), Value.int IntKind.i64 0, Value.slice none 0 0]) 53 (0, 0))) (fun w16 =>
        ((∃ v17 : Value, (World.cell? w16 (Addr.add (Addr.mk (Array.size (World.heap w8)) 0 none) 0) = some v17)) ∧ ((World.frozen? w16 (Addr.add (Addr.mk (Array.size (World.heap w8)) 0 none) 0) = false) ∧ (atW (World.setCell w16 (Addr.add (Addr.mk (Array.size (World.heap w8)) 0 none) 0) (Value.int IntKind.i64 x10)) (fun w18 =>
          ((∃ v19 : Value, (World.cell? w18 (Addr.add (Addr.mk (Array.size (World.heap w8)) 0 none) 1) = some v19)) ∧ ((World.frozen? w18 (Addr.add (Addr.mk (Array.size (World.heap w8)) 0 none) 1) = false) ∧ (atW (World.setCell w18 (Addr.add (Addr.mk (Array.size (World.heap w8)) 0 none) 1) (Value.string s11)) (fun w20 =>
            ((∃ v21 : Value, (World.cell? w20 (Addr.add (Addr.mk (Array.size (World.heap w8)) 0 none) 2) = some v21)) ∧ ((World.frozen? w20 (Addr.add (Addr.mk (Array.size (World.heap w8)) 0 none) 2) = false) ∧ (atW (World.setCell w20 (Addr.add (Addr.mk (Array.size (World.heap w8)) 0 none) 2) (Value.int IntKind.i64 x12)) (fun w22 =>
              ((∃ v23 : Value, (World.cell? w22 (Addr.add (Addr.mk (Array.size (World.heap w8)) 0 none) 3) = some v23)) ∧ ((World.frozen? w22 (Addr.add (Addr.mk (Array.size (World.heap w8)) 0 none) 3) = false) ∧ (atW (World.setCell w22 (Addr.add (Addr.mk (Array.size (World.heap w8)) 0 none) 3) (Value.slice p13 n14 n15)) (fun w24 =>
                (∃ s25 : ByteArray, ((World.cell? w24 (Addr.add (Addr.mk (Array.size (World.heap w8)) 0 none) 1) = some (Value.string s25)) ∧ (ifK (ByteArray.toList s25 == ByteArray.toList queue)
                  (∃ p26 : Option Addr, (∃ n27 : Nat, (∃ n28 : Nat, ((World.cell? w24 (Addr.add (Addr.mk (Array.size (World.heap w8)) 0 none) 3) = some (Value.slice p26 n27 n28)) ∧ (∃ x29 : Int, ((World.cell? w24 (Addr.add (Addr.mk (Array.size (World.heap w8)) 0 none) 2) = some (Value.int IntKind.i64 x29)) ∧ (ifK (decide ((↑n27 : Int) < x29))
                    (∃ x30 : Int, ((World.cell? w24 (Addr.add (Addr.mk (Array.size (World.heap w8)) 0 none) 0) = some (Value.int IntKind.i64 x30)) ∧ (R (Value.tuple (Array.mk [Value.int IntKind.i64 x30, Value.bool true])) (w24))))
                    ((z4 (IntKind.wrap IntKind.i64 (x7 + 1)) (w24)) ∧ (z5 (IntKind.wrap IntKind.i64 (x7 + 1)) w24 < z5 x7 w8)))))))))
                  ((z4 (IntKind.wrap IntKind.i64 (x7 + 1)) (w24)) ∧ (z5 (IntKind.wrap IntKind.i64 (x7 + 1)) w24 < z5 x7 w8)))))))))))))))))))))))))))))))))))))
      (R (Value.tuple (Array.mk [Value.int IntKind.i64 0, Value.bool false])) (w8))))))))))))))))
theorem ca37 (d : Option Addr) (queue : ByteArray) (w : World) (R : Value → World → Prop) (h : W37 d queue w R) : Ca Try.prog 37 ⟨[(.pointer d), (.string queue)]⟩ w R := by
  have h1 : Try.prog.follows .mixedOrders = true := by kernel_rfl
  have h2 : Try.f37.body = some C37 := by kernel_rfl
  have h3 : (Try.f37.name == "runtime.NumGoroutine") = false := by kernel_rfl
  have h6 : Try.f37.results.toList = [.tmp 4, .tmp 5] := by kernel_rfl
  have h4 : Nat.ble 2 32 = true := by kernel_rfl
  have h5 : okCode 32 pl37 ls37 C37 0 = true := by kernel_rfl
  have e : W37 d queue w R = wpC none Try.prog 32 pl37 ls37 C37 0 (endP Try.prog [.tmp 4, .tmp 5] R) (fr0 [(.pointer d), (.string queue)]) [] w := by kernel_rfl
  exact ca_of' (P := Try.prog) (g := 37) (fn := Try.f37) (c := C37) (m := 32) (rs := [.tmp 4, .tmp 5]) (args := [(.pointer d), (.string queue)]) (pl := pl37) (ls := ls37) (w := w) (R := R) h1 Try.func37 h2 Try.ntmps37 h6 h3 h4 h5 (Eq.mp e h)

/-- (*staith/staithref17.Desk).Took -/
noncomputable def C38 : Code := (Try.f38.body).getD .skip
def pl38 : Nat → Plan
  | 16 => (.quiet 0 (.quiet 1 (.quiet 2 (.quiet 3 (.quiet 4 (.quiet 5 (.quiet 6 (.quiet 7 (.quiet 8 (.quiet 9 (.quiet 10 (.quiet 11 (.quiet 12 (.quiet 13 (.quiet 14 (.quiet 15 .done))))))))))))))))
  | 18 => (.quiet 0 (.quiet 1 (.quiet 2 (.quiet 3 (.quiet 4 (.quiet 5 (.quiet 6 (.quiet 7 (.quiet 8 (.quiet 9 (.quiet 10 (.quiet 11 (.quiet 12 (.quiet 13 (.quiet 14 (.quiet 15 (.quiet 16 (.quiet 17 (.quiet 18 (.eff 19 [5] (.quiet 20 (.eff 21 [] .done))))))))))))))))))))))
  | 20 => (.quiet 0 (.quiet 1 (.quiet 2 (.quiet 3 (.quiet 4 (.quiet 5 (.eff 6 [4] (.eff 7 [] (.quiet 8 (.quiet 9 (.eff 10 [] .done)))))))))))
  | _ => .done
def ls38 : Nat → List (Nat × LT)
  | 9 => [(33, (.one (.int .i64)))]
  | 20 => [(0, .agg [])]
  | 22 => [(11, (.one (.int .i64)))]
  | _ => []
def W38 (d : Option Addr) (client : Int) (tag : Int) (w : World) (R : Value → World → Prop) : Prop :=
  (Ca Try.prog (20) (Array.mk [Value.pointer d, Value.int IntKind.i64 client]) (w) (fun v0 => (fun w1 =>
    (∃ x2 : Int, (∃ s3 : ByteArray, (∃ x4 : Int, (∃ p5 : Option Addr, (∃ n6 : Nat, (∃ n7 : Nat, (∃ b8 : Bool, ((v0 = Value.tuple (Array.mk (List.reverse [Value.bool b8, Value.agg (Array.mk (List.reverse [Value.slice p5 n6 n7, Value.int IntKind.i64 x4, Value.string s3, Value.int IntKind.i64 x2]))]))) ∧ (atW (World.alloc w1 (Obj.cells (Array.mk [Value.int IntKind.i64 0, Value.string (ByteArray.mk #[]), Value.int IntKind.i64 0, Value.slice none 0 0]) 53 (0, 0))) (fun w9 =>
      ((∃ v10 : Value, (World.cell? w9 (Addr.add (Addr.mk (Array.size (World.heap w1)) 0 none) 0) = some v10)) ∧ ((World.frozen? w9 (Addr.add (Addr.mk (Array.size (World.heap w1)) 0 none) 0) = false) ∧ (atW (World.setCell w9 (Addr.add (Addr.mk (Array.size (World.heap w1)) 0 none) 0) (Value.int IntKind.i64 x2)) (fun w11 =>
        ((∃ v12 : Value, (World.cell? w11 (Addr.add (Addr.mk (Array.size (World.heap w1)) 0 none) 1) = some v12)) ∧ ((World.frozen? w11 (Addr.add (Addr.mk (Array.size (World.heap w1)) 0 none) 1) = false) ∧ (atW (World.setCell w11 (Addr.add (Addr.mk (Array.size (World.heap w1)) 0 none) 1) (Value.string s3)) (fun w13 =>
          ((∃ v14 : Value, (World.cell? w13 (Addr.add (Addr.mk (Array.size (World.heap w1)) 0 none) 2) = some v14)) ∧ ((World.frozen? w13 (Addr.add (Addr.mk (Array.size (World.heap w1)) 0 none) 2) = false) ∧ (atW (World.setCell w13 (Addr.add (Addr.mk (Array.size (World.heap w1)) 0 none) 2) (Value.int IntKind.i64 x4)) (fun w15 =>
            ((∃ v16 : Value, (World.cell? w15 (Addr.add (Addr.mk (Array.size (World.heap w1)) 0 none) 3) = some v16)) ∧ ((World.frozen? w15 (Addr.add (Addr.mk (Array.size (World.heap w1)) 0 none) 3) = false) ∧ (atW (World.setCell w15 (Addr.add (Addr.mk (Array.size (World.heap w1)) 0 none) 3) (Value.slice p5 n6 n7)) (fun w17 =>
              (ifK (!b8)
                (R (Value.int IntKind.i64 3) (w17))
                (∃ p18 : Option Addr, (∃ n19 : Nat, (∃ n20 : Nat, ((World.cell? w17 (Addr.add (Addr.mk (Array.size (World.heap w1)) 0 none) 3) = some (Value.slice p18 n19 n20)) ∧ (∃ x21 : Int, ((World.cell? w17 (Addr.add (Addr.mk (Array.size (World.heap w1)) 0 none) 2) = some (Value.int IntKind.i64 x21)) ∧ (ifK (decide ((↑n19 : Int) ≥ x21))
                  (R (Value.int IntKind.i64 5) (w17))
                  (onP (d) (fun a22 =>
                    (∃ p23 : Option Addr, (∃ n24 : Nat, (∃ n25 : Nat, ((World.cell? w17 (Addr.add a22 0) = some (Value.slice p23 n24 n25)) ∧ (∃ z26 : Int → World → Prop, (∃ z27 : Int → World → Nat, ((z26 (0) (w17)) ∧ (∀ (_ : Nat → Value), (∀ (x29 : Int), (∀ (w30 : World), ((z26 (x29) (w30)) → (ifK (decide (x29 < (↑n24 : Int)))
                      (∃ a31 : Addr, ((p23 = some a31) ∧ (((0 : Int) ≤ x29) ∧ (((x29 : Int) < (↑n24 : Int)) ∧ (∃ x32 : Int, ((World.cell? w30 (Addr.add (Addr.add a31 (Int.toNat x29 * 4)) 0) = some (Value.int IntKind.i64 x32)) ∧ (∃ s33 : ByteArray, ((World.cell? w30 (Addr.add (Addr.add a31 (Int.toNat x29 * 4)) 1) = some (Value.string s33)) ∧ (∃ x34 : Int, ((World.cell? w30 (Addr.add (Addr.add a31 (Int.toNat x29 * 4)) 2) = some (Value.int IntKind.i64 x34)) ∧ (∃ p35 : Option Addr, (∃ n36 : Nat, (∃ n37 : Nat, ((World.cell? w30 (Addr.add (Addr.add a31 (Int.toNat x29 * 4)) 3) = some (Value.slice p35 n36 n37)) ∧ (atW (World.alloc w30 (Obj.cells (Array.mk [Value.int IntKind.i64 0, Value.string (ByteArray.mk #[]), Value.int IntKind.i64 0, Value.slice none 0 0]) 53 (0, 0))) (fun w38 =>
                        ((∃ v39 : Value, (World.cell? w38 (Addr.add (Addr.mk (Array.size (World.heap w30)) 0 none) 0) = some v39)) ∧ ((World.frozen? w38 (Addr.add (Addr.mk (Array.size (World.heap w30)) 0 none) 0) = false) ∧ (atW (World.setCell w38 (Addr.add (Addr.mk (Array.size (World.heap w30)) 0 none) 0) (Value.int IntKind.i64 x32)) (fun w40 =>
                          ((∃ v41 : Value, (World.cell? w40 (Addr.add (Addr.mk (Array.size (World.heap w30)) 0 none) 1) = some v41)) ∧ ((World.frozen? w40 (Addr.add (Addr.mk (Array.size (World.heap w30)) 0 none) 1) = false) ∧ (atW (World.setCell w40 (Addr.add (Addr.mk (Array.size (World.heap w30)) 0 none) 1) (Value.string s33)) (fun w42 =>
                            ((∃ v43 : Value, (World.cell? w42 (Addr.add (Addr.mk (Array.size (World.heap w30)) 0 none) 2) = some v43)) ∧ ((World.frozen? w42 (Addr.add (Addr.mk (Array.size (World.heap w30)) 0 none) 2) = false) ∧ (atW (World.setCell w42 (Addr.add (Addr.mk (Array.size (World.heap w30)) 0 none) 2) (Value.int IntKind.i64 x34)) (fun w44 =>
                              ((∃ v45 : Value, (World.cell? w44 (Addr.add (Addr.mk (Array.size (World.heap w30)) 0 none) 3) = some v45)) ∧ ((World.frozen? w44 (Addr.add (Addr.mk (Array.size (World.heap w30)) 0 none) 3) = false) ∧ (atW (World.setCell w44 (Addr.add (Addr.mk (Array.size (World.heap w30)) 0 none) 3) (Value.slice p35 n36 n37)) (fun w46 =>
                                (∃ s47 : ByteArray, ((World.cell? w46 (Addr.add (Addr.mk (Array.size (World.heap w30)) 0 none) 1) = some (Value.string s47)) ∧ (∃ s48 : ByteArray, ((World.cell? w46 (Addr.add (Addr.mk (Array.size (World.heap w1)) 0 none) 1) = some (Value.string s48)) ∧ (ifK (ByteArray.toList s47 == ByteArray.toList s48)
                                  (∃ p49 : Option Addr, (∃ n50 : Nat, (∃ n51 : Nat, ((World.cell? w46 (Addr.add (Addr.mk (Array.size (World.heap w30)) 0 none) 3) = some (Value.slice p49 n50 n51)) ∧ (Ca Try.prog (50) (Array.mk [Value.slice p49 n50 n51, Value.int IntKind.u64 tag]) (w46) (fun v52 => (fun w53 =>
                                    (∃ b54 : Bool, ((v52 = Value.bool b54) ∧ (ifK (b54)
                                      (R (Value.int IntKind.i64 4) (w53))
                                      ((z26 (IntKind.wrap IntKind.i64 (x29 + 1)) (w53)) ∧ (z27 (IntKind.wrap IntKind.i64 (x29 + 1)) w53 < z27 x29 w30))))))))))))
                                  ((z26 (IntKind.wrap IntKind.i64 (x29 + 1)) (w46)) ∧ (z27 (IntKind.wrap IntKind.i64 (x29 + 1)) w46 < z27 x29 w30)))))))))))))))))))))))))))))))))))))))
                      (ifK (tag == 0)
                        (R (Value.int IntKind.i64 2) (w30))
                        (atW (World.alloc w30 (Obj.cells (Array.mk []) 27 (0, 0))) (fun w55 =>
                          (∃ p56 : Option Addr, (∃ n57 : Nat, (∃ n58 : Nat, ((World.cell? w55 (Addr.add (Addr.mk (Array.size (World.heap w1)) 0 none) 3) = some (Value.slice p56 n57 n58)) ∧ (∃ v59 : Value, (∃ w60 : World, ((Sem.run Try.prog (Builtin.append_ (Array.mk [31, 31]) 31 (Array.mk [Value.slice (some (Addr.mk (Array.size (World.heap w30)) 0 none)) 0 0, Value.slice p56 n57 n58])) w55 = Result.ok v59 w60) ∧ (∃ p61 : Option Addr, (∃ n62 : Nat, (∃ n63 : Nat, ((v59 = Value.slice p61 n62 n63) ∧ (atW (World.alloc w60 (Obj.cells (Array.mk [Value.int IntKind.u64 tag]) 27 (0, 0))) (fun w64 =>
                            (∃ v65 : Value, (∃ w66 : World, ((Sem.run Try.prog (Builtin.append_ (Array.mk [31, 31]) 31 (Array.mk [Value.slice p61 n62 n63, Value.slice (some (Addr.mk (Array.size (World.heap w60)) 0 none)) 1 1])) w64 = Result.ok v65 w66) ∧ (∃ p67 : Option Addr, (∃ n68 : Nat, (∃ n69 : Nat, ((v65 = Value.slice p67 n68 n69) ∧ ((∃ v70 : Value, (World.cell? w66 (Addr.add (Addr.add (Addr.mk (Array.size (World.heap w1)) 0 none) 3) 0) = some v70)) ∧ ((World.frozen? w66 (Addr.add (Addr.add (Addr.mk (Array.size (World.heap w1)) 0 none) 3) 0) = false) ∧ (atW (World.setCell w66 (Addr.add (Addr.add (Addr.mk (Array.size (World.heap w1)) 0 none) 3) 0) (Value.slice p67 n68 n69)) (fun w71 =>
                              (∃ z72 : World → Prop, ((∃ p73 : Option Addr, (∃ n74 : Nat, (∃ n75 : Nat, ((World.cell? w71 (Addr.add (Addr.mk (Array.size (World.heap w1)) 0 none) 3) = some (Value.slice p73 n74 n75)) ∧ (∃ z76 : Int → World → Prop, (∃ z77 : Int → World → Nat, ((z76 (IntKind.wrap IntKind.i64 ((↑n74 : Int) - 1)) (w71)) ∧ (∀ (_ : Nat → Value), (∀ (x79 : Int), (∀ (w80 : World), ((z76 (x79) (w80)) → (atW (World.drew w80) (fun w81 =>
                                (ifK (decide (x79 > 0))
                                  (∃ p82 : Option Addr, (∃ n83 : Nat, (∃ n84 : Nat, ((World.cell? w81 (Addr.add (Addr.mk (Array.size (World.heap w1)) 0 none) 3) = some (Value.slice p82 n83 n84)) ∧ (∃ a85 : Addr, ((p82 = some a85) ∧ (((0 : Int) ≤ IntKind.wrap IntKind.i64 (x79 - 1)) ∧ (((IntKind.wrap IntKind.i64 (x79 - 1) : Int) < (↑n83 : Int)) ∧ (∃ x86 : Int, ((World.cell? w81 (Addr.add a85 (Int.toNat (IntKind.wrap IntKind.i64 (x79 - 1)) * 1)) = some (Value.int IntKind.u64 x86)) ∧ (∃ p87 : Option Addr, (∃ n88 : Nat, (∃ n89 : Nat, ((World.cell? w81 (Addr.add (Addr.mk (Array.size (World.heap w1)) 0 none) 3) = some (Value.slice p87 n88 n89)) ∧ (∃ a90 : Addr, ((p87 = some a90) ∧ (((0 : Int) ≤ x79) ∧ (((x79 : Int) < (↑n88 : Int)) ∧ (∃ x91 : Int, ((World.cell? w81 (Addr.add a90 (Int.toNat x79 * 1)) = some (Value.int IntKind.u64 x91)) ∧ (ifK (decide (x86 > x91))
                                    (atW (World.drew w81) (fun w92 =>
                                      (∃ p93 : Option Addr, (∃ n94 : Nat, (∃ n95 : Nat, ((World.cell? w92 (Addr.add (Addr.mk (Array.size (World.heap w1)) 0 none) 3) = some (Value.slice p93 n94 n95)) ∧ (∃ p96 : Option Addr, (∃ n97 : Nat, (∃ n98 : Nat, ((World.cell? w92 (Addr.add (Addr.mk (Array.size (World.heap w1)) 0 none) 3) = some (Value.slice p96 n97 n98)) ∧ (∃ p99 : Option Addr, (∃ n100 : Nat, (∃ n101 : Nat, ((World.cell? w92 (Addr.add (Addr.mk (Array.size (World.heap w1)) 0 none) 3) = some (Value.slice p99 n100 n101)) ∧ (∃ a102 : Addr, ((p99 = some a102) ∧ (((0 : Int) ≤ x79) ∧ (((x79 : Int) < (↑n100 : Int)) ∧ (∃ x103 : Int, ((World.cell? w92 (Addr.add a102 (Int.toNat x79 * 1)) = some (Value.int IntKind.u64 x103)) ∧ (∃ p104 : Option Addr, (∃ n105 : Nat, (∃ n106 : Nat, ((World.cell? w92 (Addr.add (Addr.mk (Array.size (World.heap w1)) 0 none) 3) = some (Value.slice p104 n105 n106)) ∧ (∃ a107 : Addr, ((p104 = some a107) ∧ (((0 : Int) ≤ IntKind.wrap IntKind.i64 (x79 - 1)) ∧ (((IntKind.wrap IntKind.i64 (x79 - 1) : Int) < (↑n105 : Int)) ∧ (∃ x108 : Int, ((World.cell? w92 (Addr.add a107 (Int.toNat (IntKind.wrap IntKind.i64 (x79 - 1)) * 1)) = some (Value.int IntKind.u64 x108)) ∧ (∃ a109 : Addr, ((p93 = some a109) ∧ (((0 : Int) ≤ IntKind.wrap IntKind.i64 (x79 - 1)) ∧ (((IntKind.wrap IntKind.i64 (x79 - 1) : Int) < (↑n94 : Int)) ∧ ((∃ v110 : Value, (World.cell? w92 (Addr.add (Addr.add a109 (Int.toNat (IntKind.wrap IntKind.i64 (x79 - 1)) * 1)) 0) = some v110)) ∧ ((World.frozen? w92 (Addr.add (Addr.add a109 (Int.toNat (IntKind.wrap IntKind.i64 (x79 - 1)) * 1)) 0) = false) ∧ (atW (World.setCell w92 (Addr.add (Addr.add a109 (Int.toNat (IntKind.wrap IntKind.i64 (x79 - 1)) * 1)) 0) (Value.int IntKind.u64 x103)) (fun w111 =>
                                        ((World.cell? w111 (Addr.add (Addr.add (Addr.mk (Array.size (World.heap w1)) 0 none) 3) 0) = some (Value.slice p96 n97 n98)) ∧ (∃ a112 : Addr, ((p96 = some a112) ∧ (((0 : Int) ≤ x79) ∧ (((x79 : Int) < (↑n97 : Int)) ∧ ((∃ v113 : Value, (World.cell? w111 (Addr.add (Addr.add a112 (Int.toNat x79 * 1)) 0) = some v113)) ∧ ((World.frozen? w111 (Addr.add (Addr.add a112 (Int.toNat x79 * 1)) 0) = false) ∧ (atW (World.setCell w111 (Addr.add (Addr.add a112 (Int.toNat x79 * 1)) 0) (Value.int IntKind.u64 x108)) (fun w114 =>
                                          ((z76 (IntKind.wrap IntKind.i64 (x79 - 1)) (w114)) ∧ (z77 (IntKind.wrap IntKind.i64 (x79 - 1)) w114 < z77 x79 w80)))))))))))))))))))))))))))))))))))))))))))))))))
                                    (z72 (w81)))))))))))))))))))))))
                                  (z72 (w81)))))))))))))))) ∧ (∀ (_ : Nat → Value), (∀ (w116 : World), ((z72 (w116)) → (Ca Try.prog (36) (Array.mk [Value.pointer d, Value.int IntKind.i64 client]) (w116) (fun v117 => (fun w118 =>
                                (∃ x119 : Int, (∃ s120 : ByteArray, (∃ x121 : Int, (∃ p122 : Option Addr, (∃ n123 : Nat, (∃ n124 : Nat, (∃ x125 : Int, ((v117 = Value.tuple (Array.mk (List.reverse [Value.int IntKind.i64 x125, Value.agg (Array.mk (List.reverse [Value.slice p122 n123 n124, Value.int IntKind.i64 x121, Value.string s120, Value.int IntKind.i64 x119]))]))) ∧ (atW (World.drew w118) (fun w126 =>
                                  (onP (d) (fun a127 =>
                                    (∃ p128 : Option Addr, (∃ n129 : Nat, (∃ n130 : Nat, ((World.cell? w126 (Addr.add a127 0) = some (Value.slice p128 n129 n130)) ∧ (∃ x131 : Int, ((World.cell? w126 (Addr.add (Addr.mk (Array.size (World.heap w1)) 0 none) 0) = some (Value.int IntKind.i64 x131)) ∧ (∃ s132 : ByteArray, ((World.cell? w126 (Addr.add (Addr.mk (Array.size (World.heap w1)) 0 none) 1) = some (Value.string s132)) ∧ (∃ x133 : Int, ((World.cell? w126 (Addr.add (Addr.mk (Array.size (World.heap w1)) 0 none) 2) = some (Value.int IntKind.i64 x133)) ∧ (∃ p134 : Option Addr, (∃ n135 : Nat, (∃ n136 : Nat, ((World.cell? w126 (Addr.add (Addr.mk (Array.size (World.heap w1)) 0 none) 3) = some (Value.slice p134 n135 n136)) ∧ (atW (World.alloc w126 (Obj.cells (Array.mk [Value.int IntKind.i64 x131, Value.string s132, Value.int IntKind.i64 x133, Value.slice p134 n135 n136]) 53 (0, 0))) (fun w137 =>
                                      ((World.cell? w137 (Addr.add (Addr.add a127 0) 0) = some (Value.slice p128 n129 n130)) ∧ (∃ v138 : Value, (∃ w139 : World, ((Sem.run Try.prog (Builtin.append_ (Array.mk [42, 42]) 42 (Array.mk [Value.slice p128 n129 n130, Value.slice (some (Addr.mk (Array.size (World.heap w126)) 0 none)) 1 1])) w137 = Result.ok v138 w139) ∧ (∃ p140 : Option Addr, (∃ n141 : Nat, (∃ n142 : Nat, ((v138 = Value.slice p140 n141 n142) ∧ (onP (d) (fun a143 =>
                                        ((∃ v144 : Value, (World.cell? w139 (Addr.add (Addr.add a143 0) 0) = some v144)) ∧ ((World.frozen? w139 (Addr.add (Addr.add a143 0) 0) = false) ∧ (atW (World.setCell w139 (Addr.add (Addr.add a143 0) 0) (Value.slice p140 n141 n142)) (fun w145 =>
                                          (R (Value.int IntKind.i64 0) (w145))))))))))))))))))))))))))))))))))))))))))))))))))))))))))))))))))))))))))))))))))))))))))))))))))))))))))))))))))))))))))))))))))
theorem ca38 (d : Option Addr) (client : Int) (tag : Int) (w : World) (R : Value → World → Prop) (h : W38 d client tag w R) : Ca Try.prog 38 ⟨[(.pointer d), (.int .i64 client), (.int .u64 tag)]⟩ w R := by
  have h1 : Try.prog.follows .mixedOrders = true := by kernel_rfl
  have h2 : Try.f38.body = some C38 := by kernel_rfl
  have h3 : (Try.f38.name == "runtime.NumGoroutine") = false := by kernel_rfl
  have h6 : Try.f38.results.toList = [.tmp 6] := by kernel_rfl
  have h4 : Nat.ble 3 114 = true := by kernel_rfl
  have h5 : okCode 114 pl38 ls38 C38 0 = true := by kernel_rfl
  have e : W38 d client tag w R = wpC none Try.prog 114 pl38 ls38 C38 0 (endP Try.prog [.tmp 6] R) (fr0 [(.pointer d), (.int .i64 client), (.int .u64 tag)]) [] w := by kernel_rfl
  exact ca_of' (P := Try.prog) (g := 38) (fn := Try.f38) (c := C38) (m := 114) (rs := [.tmp 6]) (args := [(.pointer d), (.int .i64 client), (.int .u64 tag)]) (pl := pl38) (ls := ls38) (w := w) (R := R) h1 Try.func38 h2 Try.ntmps38 h6 h3 h4 h5 (Eq.mp e h)

/-- (*staith/staithref17.Desk).Settle -/
noncomputable def C39 : Code := (Try.f39.body).getD .skip
def pl39 : Nat → Plan := fun _ => .done
def ls39 : Nat → List (Nat × LT)
  | 11 => [(9, (.one .slice)), (37, (.one (.int .i64)))]
  | _ => []
def W39 (d : Option Addr) (client : Int) (tag : Int) (w : World) (R : Value → World → Prop) : Prop :=
  (Ca Try.prog (41) (Array.mk [Value.pointer d, Value.int IntKind.i64 client]) (w) (fun v0 => (fun w1 =>
    (∃ x2 : Int, ((v0 = Value.int IntKind.i64 x2) ∧ (ifK (decide (x2 < 0))
      (R (Value.tuple (Array.mk [Value.string (ByteArray.mk #[]), Value.int IntKind.i64 3])) (w1))
      (onP (d) (fun a3 =>
        (∃ p4 : Option Addr, (∃ n5 : Nat, (∃ n6 : Nat, ((World.cell? w1 (Addr.add a3 0) = some (Value.slice p4 n5 n6)) ∧ (∃ a7 : Addr, ((p4 = some a7) ∧ (((0 : Int) ≤ x2) ∧ (((x2 : Int) < (↑n5 : Int)) ∧ (∃ p8 : Option Addr, (∃ n9 : Nat, (∃ n10 : Nat, ((World.cell? w1 (Addr.add (Addr.add a7 (Int.toNat x2 * 4)) 3) = some (Value.slice p8 n9 n10)) ∧ (Ca Try.prog (50) (Array.mk [Value.slice p8 n9 n10, Value.int IntKind.u64 tag]) (w1) (fun v11 => (fun w12 =>
          (∃ b13 : Bool, ((v11 = Value.bool b13) ∧ (ifK (!b13)
            (R (Value.tuple (Array.mk [Value.string (ByteArray.mk #[]), Value.int IntKind.i64 10])) (w12))
            (onP (d) (fun a14 =>
              (∃ p15 : Option Addr, (∃ n16 : Nat, (∃ n17 : Nat, ((World.cell? w12 (Addr.add a14 0) = some (Value.slice p15 n16 n17)) ∧ (∃ a18 : Addr, ((p15 = some a18) ∧ (((0 : Int) ≤ x2) ∧ (((x2 : Int) < (↑n16 : Int)) ∧ (∃ p19 : Option Addr, (∃ n20 : Nat, (∃ n21 : Nat, ((World.cell? w12 (Addr.add (Addr.add a18 (Int.toNat x2 * 4)) 3) = some (Value.slice p19 n20 n21)) ∧ (∃ z22 : Option Addr → Nat → Nat → Int → World → Prop, (∃ z23 : Option Addr → Nat → Nat → Int → World → Nat, ((z22 (none) (0) (0) (0) (w12)) ∧ (∀ (_ : Nat → Value), (∀ (p25 : Option Addr), (∀ (n26 : Nat), (∀ (n27 : Nat), (∀ (x28 : Int), (∀ (w29 : World), ((z22 (p25) (n26) (n27) (x28) (w29)) → (ifK (decide (x28 < (↑n20 : Int)))
                (∃ a30 : Addr, ((p19 = some a30) ∧ (((0 : Int) ≤ x28) ∧ (((x28 : Int) < (↑n20 : Int)) ∧ (∃ x31 : Int, ((World.cell? w29 (Addr.add a30 (Int.toNat x28 * 1)) = some (Value.int IntKind.u64 x31)) ∧ (ifK (x31 != tag)
                  (atW (World.alloc w29 (Obj.cells (Array.mk [Value.int IntKind.u64 x31]) 27 (0, 0))) (fun w32 =>
                    (∃ v33 : Value, (∃ w34 : World, ((Sem.run Try.prog (Builtin.append_ (Array.mk [31, 31]) 31 (Array.mk [Value.slice p25 n26 n27, Value.slice (some (Addr.mk (Array.size (World.heap w29)) 0 none)) 1 1])) w32 = Result.ok v33 w34) ∧ (∃ p35 : Option Addr, (∃ n36 : Nat, (∃ n37 : Nat, ((v33 = Value.slice p35 n36 n37) ∧ ((z22 (p35) (n36) (n37) (IntKind.wrap IntKind.i64 (x28 + 1)) (w34)) ∧ (z23 p35 n36 n37 (IntKind.wrap IntKind.i64 (x28 + 1)) w34 < z23 p25 n26 n27 x28 w29)))))))))))
                  ((z22 (p25) (n26) (n27) (IntKind.wrap IntKind.i64 (x28 + 1)) (w29)) ∧ (z23 p25 n26 n27 (IntKind.wrap IntKind.i64 (x28 + 1)) w29 < z23 p25 n26 n27 x28 w29)))))))))
                (atW (World.alloc w29 (Obj.cells (Array.mk []) 53 (0, 0))) (fun w38 =>
                  (onP (d) (fun a39 =>
                    (∃ p40 : Option Addr, (∃ n41 : Nat, (∃ n42 : Nat, ((World.cell? w38 (Addr.add a39 0) = some (Value.slice p40 n41 n42)) ∧ (∃ v43 : Value, (∃ w44 : World, ((Sem.run Try.prog (Builtin.append_ (Array.mk [42, 42]) 42 (Array.mk [Value.slice (some (Addr.mk (Array.size (World.heap w29)) 0 none)) 0 0, Value.slice p40 n41 n42])) w38 = Result.ok v43 w44) ∧ (∃ p45 : Option Addr, (∃ n46 : Nat, (∃ n47 : Nat, ((v43 = Value.slice p45 n46 n47) ∧ (onP (d) (fun a48 =>
                      ((∃ v49 : Value, (World.cell? w44 (Addr.add (Addr.add a48 0) 0) = some v49)) ∧ ((World.frozen? w44 (Addr.add (Addr.add a48 0) 0) = false) ∧ (atW (World.setCell w44 (Addr.add (Addr.add a48 0) 0) (Value.slice p45 n46 n47)) (fun w50 =>
                        (onP (d) (fun a51 =>
                          (∃ p52 : Option Addr, (∃ n53 : Nat, (∃ n54 : Nat, ((World.cell? w50 (Addr.add a51 0) = some (Value.slice p52 n53 n54)) ∧ (∃ a55 : Addr, ((p52 = some a55) ∧ (((0 : Int) ≤ x2) ∧ (((x2 : Int) < (↑n53 : Int)) ∧ ((∃ v56 : Value, (World.cell? w50 (Addr.add (Addr.add (Addr.add a55 (Int.toNat x2 * 4)) 3) 0) = some v56)) ∧ ((World.frozen? w50 (Addr.add (Addr.add (Addr.add a55 (Int.toNat x2 * 4)) 3) 0) = false) ∧ (atW (World.setCell w50 (Addr.add (Addr.add (Addr.add a55 (Int.toNat x2 * 4)) 3) 0) (Value.slice p25 n26 n27)) (fun w57 =>
                            (onP (d) (fun a58 =>
                              (∃ p59 : Option Addr, (∃ n60 : Nat, (∃ n61 : Nat, ((World.cell? w57 (Addr.add a58 0) = some (Value.slice p59 n60 n61)) ∧ (∃ a62 : Addr, ((p59 = some a62) ∧ (((0 : Int) ≤ x2) ∧ (((x2 : Int) < (↑n60 : Int)) ∧ (∃ s63 : ByteArray, ((World.cell? w57 (Addr.add (Addr.add a62 (Int.toNat x2 * 4)) 1) = some (Value.string s63)) ∧ (R (Value.tuple (Array.mk [Value.string s63, Value.int IntKind.i64 0])) (w57))))))))))))))))))))))))))))))))))))))))))))))))))))))))))))))))))))))))))))))))))))))))))))))))))))
theorem ca39 (d : Option Addr) (client : Int) (tag : Int) (w : World) (R : Value → World → Prop) (h : W39 d client tag w R) : Ca Try.prog 39 ⟨[(.pointer d), (.int .i64 client), (.int .u64 tag)]⟩ w R := by
  have h1 : Try.prog.follows .mixedOrders = true := by kernel_rfl
  have h2 : Try.f39.body = some C39 := by kernel_rfl
  have h3 : (Try.f39.name == "runtime.NumGoroutine") = false := by kernel_rfl
  have h6 : Try.f39.results.toList = [.tmp 6, .tmp 7] := by kernel_rfl
  have h4 : Nat.ble 3 74 = true := by kernel_rfl
  have h5 : okCode 74 pl39 ls39 C39 0 = true := by kernel_rfl
  have e : W39 d client tag w R = wpC none Try.prog 74 pl39 ls39 C39 0 (endP Try.prog [.tmp 6, .tmp 7] R) (fr0 [(.pointer d), (.int .i64 client), (.int .u64 tag)]) [] w := by kernel_rfl
  exact ca_of' (P := Try.prog) (g := 39) (fn := Try.f39) (c := C39) (m := 74) (rs := [.tmp 6, .tmp 7]) (args := [(.pointer d), (.int .i64 client), (.int .u64 tag)]) (pl := pl39) (ls := ls39) (w := w) (R := R) h1 Try.func39 h2 Try.ntmps39 h6 h3 h4 h5 (Eq.mp e h)

/-- (*staith/staithref17.Desk).Clients -/
noncomputable def C18 : Code := (Try.f18.body).getD .skip
def pl18 : Nat → Plan
  | 7 => (.quiet 0 (.quiet 1 (.quiet 2 (.quiet 3 (.quiet 4 (.quiet 5 (.quiet 6 (.quiet 7 (.quiet 8 (.quiet 9 (.quiet 10 (.quiet 11 (.quiet 12 (.quiet 13 .done))))))))))))))
  | 9 => (.quiet 0 (.quiet 1 (.quiet 2 (.quiet 3 (.quiet 4 (.quiet 5 (.quiet 6 (.quiet 7 (.quiet 8 (.quiet 9 (.quiet 10 (.quiet 11 (.quiet 12 (.quiet 13 (.quiet 14 (.eff 15 [] (.quiet 16 (.eff 17 [] .done))))))))))))))))))
  | _ => .done
def ls18 : Nat → List (Nat × LT)
  | 4 => [(3, (.one .slice)), (12, (.one (.int .i64)))]
  | 7 => [(0, .agg []), (3, (.one .slice))]
  | 11 => [(6, (.one (.int .i64)))]
  | _ => []
def W18 (d : Option Addr) (w : World) (R : Value → World → Prop) : Prop :=
  (onP (d) (fun a0 =>
    (∃ p1 : Option Addr, (∃ n2 : Nat, (∃ n3 : Nat, ((World.cell? w (Addr.add a0 0) = some (Value.slice p1 n2 n3)) ∧ (∃ z4 : Option Addr → Nat → Nat → Int → World → Prop, (∃ z5 : Option Addr → Nat → Nat → Int → World → Nat, ((z4 (none) (0) (0) (0) (w)) ∧ (∀ (_ : Nat → Value), (∀ (p7 : Option Addr), (∀ (n8 : Nat), (∀ (n9 : Nat), (∀ (x10 : Int), (∀ (w11 : World), ((z4 (p7) (n8) (n9) (x10) (w11)) → (ifK (decide (x10 < (↑n2 : Int)))
      (∃ z12 : Option Addr → Nat → Nat → World → Prop, ((∃ a13 : Addr, ((p1 = some a13) ∧ (((0 : Int) ≤ x10) ∧ (((x10 : Int) < (↑n2 : Int)) ∧ (∃ x14 : Int, ((World.cell? w11 (Addr.add (Addr.add a13 (Int.toNat x10 * 4)) 0) = some (Value.int IntKind.i64 x14)) ∧ (∃ s15 : ByteArray, ((World.cell? w11 (Addr.add (Addr.add a13 (Int.toNat x10 * 4)) 1) = some (Value.string s15)) ∧ (∃ x16 : Int, ((World.cell? w11 (Addr.add (Addr.add a13 (Int.toNat x10 * 4)) 2) = some (Value.int IntKind.i64 x16)) ∧ (∃ p17 : Option Addr, (∃ n18 : Nat, (∃ n19 : Nat, ((World.cell? w11 (Addr.add (Addr.add a13 (Int.toNat x10 * 4)) 3) = some (Value.slice p17 n18 n19)) ∧ (atW (World.alloc w11 (Obj.cells (Array.mk [Value.int IntKind.i64 0, Value.string (ByteArray.mk #[]), Value.int IntKind.i64 0, Value.slice none 0 0]) 53 (0, 0))) (fun w20 =>
        ((∃ v21 : Value, (World.cell? w20 (Addr.add (Addr.mk (Array.size (World.heap w11)) 0 none) 0) = some v21)) ∧ ((World.frozen? w20 (Addr.add (Addr.mk (Array.size (World.heap w11)) 0 none) 0) = false) ∧ (atW (World.setCell w20 (Addr.add (Addr.mk (Array.size (World.heap w11)) 0 none) 0) (Value.int IntKind.i64 x14)) (fun w22 =>
          ((∃ v23 : Value, (World.cell? w22 (Addr.add (Addr.mk (Array.size (World.heap w11)) 0 none) 1) = some v23)) ∧ ((World.frozen? w22 (Addr.add (Addr.mk (Array.size (World.heap w11)) 0 none) 1) = false) ∧ (atW (World.setCell w22 (Addr.add (Addr.mk (Array.size (World.heap w11)) 0 none) 1) (Value.string s15)) (fun w24 =>
            ((∃ v25 : Value, (World.cell? w24 (Addr.add (Addr.mk (Array.size (World.heap w11)) 0 none) 2) = some v25)) ∧ ((World.frozen? w24 (Addr.add (Addr.mk (Array.size (World.heap w11)) 0 none) 2) = false) ∧ (atW (World.setCell w24 (Addr.add (Addr.mk (Array.size (World.heap w11)) 0 none) 2) (Value.int IntKind.i64 x16)) (fun w26 =>
              ((∃ v27 : Value, (World.cell? w26 (Addr.add (Addr.mk (Array.size (World.heap w11)) 0 none) 3) = some v27)) ∧ ((World.frozen? w26 (Addr.add (Addr.mk (Array.size (World.heap w11)) 0 none) 3) = false) ∧ (atW (World.setCell w26 (Addr.add (Addr.mk (Array.size (World.heap w11)) 0 none) 3) (Value.slice p17 n18 n19)) (fun w28 =>
                (∃ x29 : Int, ((World.cell? w28 (Addr.add (Addr.mk (Array.size (World.heap w11)) 0 none) 0) = some (Value.int IntKind.i64 x29)) ∧ (atW (World.alloc w28 (Obj.cells (Array.mk [Value.int IntKind.i64 x29]) 3 (0, 0))) (fun w30 =>
                  (∃ v31 : Value, (∃ w32 : World, ((Sem.run Try.prog (Builtin.append_ (Array.mk [36, 36]) 36 (Array.mk [Value.slice p7 n8 n9, Value.slice (some (Addr.mk (Array.size (World.heap w28)) 0 none)) 1 1])) w30 = Result.ok v31 w32) ∧ (∃ p33 : Option Addr, (∃ n34 : Nat, (∃ n35 : Nat, ((v31 = Value.slice p33 n34 n35) ∧ (∃ z36 : Int → World → Prop, (∃ z37 : Int → World → Nat, ((z36 (IntKind.wrap IntKind.i64 ((↑n34 : Int) - 1)) (w32)) ∧ (∀ (_ : Nat → Value), (∀ (x39 : Int), (∀ (w40 : World), ((z36 (x39) (w40)) → (atW (World.drew w40) (fun w41 =>
                    (ifK (decide (x39 > 0))
                      (∃ a42 : Addr, ((p33 = some a42) ∧ (((0 : Int) ≤ IntKind.wrap IntKind.i64 (x39 - 1)) ∧ (((IntKind.wrap IntKind.i64 (x39 - 1) : Int) < (↑n34 : Int)) ∧ (∃ x43 : Int, ((World.cell? w41 (Addr.add a42 (Int.toNat (IntKind.wrap IntKind.i64 (x39 - 1)) * 1)) = some (Value.int IntKind.i64 x43)) ∧ (∃ a44 : Addr, ((p33 = some a44) ∧ (((0 : Int) ≤ x39) ∧ (((x39 : Int) < (↑n34 : Int)) ∧ (∃ x45 : Int, ((World.cell? w41 (Addr.add a44 (Int.toNat x39 * 1)) = some (Value.int IntKind.i64 x45)) ∧ (ifK (decide (x43 > x45))
                        (atW (World.drew w41) (fun w46 =>
                          (∃ a47 : Addr, ((p33 = some a47) ∧ (((0 : Int) ≤ x39) ∧ (((x39 : Int) < (↑n34 : Int)) ∧ (∃ x48 : Int, ((World.cell? w46 (Addr.add a47 (Int.toNat x39 * 1)) = some (Value.int IntKind.i64 x48)) ∧ (∃ a49 : Addr, ((p33 = some a49) ∧ (((0 : Int) ≤ IntKind.wrap IntKind.i64 (x39 - 1)) ∧ (((IntKind.wrap IntKind.i64 (x39 - 1) : Int) < (↑n34 : Int)) ∧ (∃ x50 : Int, ((World.cell? w46 (Addr.add a49 (Int.toNat (IntKind.wrap IntKind.i64 (x39 - 1)) * 1)) = some (Value.int IntKind.i64 x50)) ∧ (∃ a51 : Addr, ((p33 = some a51) ∧ (((0 : Int) ≤ IntKind.wrap IntKind.i64 (x39 - 1)) ∧ (((IntKind.wrap IntKind.i64 (x39 - 1) : Int) < (↑n34 : Int)) ∧ ((∃ v52 : Value, (World.cell? w46 (Addr.add (Addr.add a51 (Int.toNat (IntKind.wrap IntKind.i64 (x39 - 1)) * 1)) 0) = some v52)) ∧ ((World.frozen? w46 (Addr.add (Addr.add a51 (Int.toNat (IntKind.wrap IntKind.i64 (x39 - 1)) * 1)) 0) = false) ∧ (atW (World.setCell w46 (Addr.add (Addr.add a51 (Int.toNat (IntKind.wrap IntKind.i64 (x39 - 1)) * 1)) 0) (Value.int IntKind.i64 x48)) (fun w53 =>
                            (∃ a54 : Addr, ((p33 = some a54) ∧ (((0 : Int) ≤ x39) ∧ (((x39 : Int) < (↑n34 : Int)) ∧ ((∃ v55 : Value, (World.cell? w53 (Addr.add (Addr.add a54 (Int.toNat x39 * 1)) 0) = some v55)) ∧ ((World.frozen? w53 (Addr.add (Addr.add a54 (Int.toNat x39 * 1)) 0) = false) ∧ (atW (World.setCell w53 (Addr.add (Addr.add a54 (Int.toNat x39 * 1)) 0) (Value.int IntKind.i64 x50)) (fun w56 =>
                              ((z36 (IntKind.wrap IntKind.i64 (x39 - 1)) (w56)) ∧ (z37 (IntKind.wrap IntKind.i64 (x39 - 1)) w56 < z37 x39 w40))))))))))))))))))))))))))))))))
                        (z12 (p33) (n34) (n35) (w41)))))))))))))))
                      (z12 (p33) (n34) (n35) (w41))))))))))))))))))))))))))))))))))))))))))))))))))))))) ∧ (∀ (_ : Nat → Value), (∀ (p58 : Option Addr), (∀ (n59 : Nat), (∀ (n60 : Nat), (∀ (w61 : World), ((z12 (p58) (n59) (n60) (w61)) → ((z4 (p58) (n59) (n60) (IntKind.wrap IntKind.i64 (x10 + 1)) (w61)) ∧ (z5 p58 n59 n60 (IntKind.wrap IntKind.i64 (x10 + 1)) w61 < z5 p7 n8 n9 x10 w11))))))))))
      (R (Value.slice p7 n8 n9) (w11)))))))))))))))))))
theorem ca18 (d : Option Addr) (w : World) (R : Value → World → Prop) (h : W18 d w R) : Ca Try.prog 18 ⟨[(.pointer d)]⟩ w R := by
  have h1 : Try.prog.follows .mixedOrders = true := by kernel_rfl
  have h2 : Try.f18.body = some C18 := by kernel_rfl
  have h3 : (Try.f18.name == "runtime.NumGoroutine") = false := by kernel_rfl
  have h6 : Try.f18.results.toList = [.tmp 2] := by kernel_rfl
  have h4 : Nat.ble 1 58 = true := by kernel_rfl
  have h5 : okCode 58 pl18 ls18 C18 0 = true := by kernel_rfl
  have e : W18 d w R = wpC none Try.prog 58 pl18 ls18 C18 0 (endP Try.prog [.tmp 2] R) (fr0 [(.pointer d)]) [] w := by kernel_rfl
  exact ca_of' (P := Try.prog) (g := 18) (fn := Try.f18) (c := C18) (m := 58) (rs := [.tmp 2]) (args := [(.pointer d)]) (pl := pl18) (ls := ls18) (w := w) (R := R) h1 Try.func18 h2 Try.ntmps18 h6 h3 h4 h5 (Eq.mp e h)

/-- (*staith/staithref17.Desk).Forget -/
noncomputable def C40 : Code := (Try.f40.body).getD .skip
def pl40 : Nat → Plan := fun _ => .done
def ls40 : Nat → List (Nat × LT)
  | 4 => [(5, (.one .slice)), (13, (.one (.int .i64)))]
  | _ => []
def W40 (d : Option Addr) (queue : ByteArray) (w : World) (R : Value → World → Prop) : Prop :=
  (Ca Try.prog (18) (Array.mk [Value.pointer d]) (w) (fun v0 => (fun w1 =>
    (∃ p2 : Option Addr, (∃ n3 : Nat, (∃ n4 : Nat, ((v0 = Value.slice p2 n3 n4) ∧ (∃ z5 : Option Addr → Nat → Nat → Int → World → Prop, (∃ z6 : Option Addr → Nat → Nat → Int → World → Nat, ((z5 (none) (0) (0) (0) (w1)) ∧ (∀ (_ : Nat → Value), (∀ (p8 : Option Addr), (∀ (n9 : Nat), (∀ (n10 : Nat), (∀ (x11 : Int), (∀ (w12 : World), ((z5 (p8) (n9) (n10) (x11) (w12)) → (ifK (decide (x11 < (↑n3 : Int)))
      (∃ a13 : Addr, ((p2 = some a13) ∧ (((0 : Int) ≤ x11) ∧ (((x11 : Int) < (↑n3 : Int)) ∧ (∃ x14 : Int, ((World.cell? w12 (Addr.add a13 (Int.toNat x11 * 1)) = some (Value.int IntKind.i64 x14)) ∧ (Ca Try.prog (20) (Array.mk [Value.pointer d, Value.int IntKind.i64 x14]) (w12) (fun v15 => (fun w16 =>
        (∃ x17 : Int, (∃ s18 : ByteArray, (∃ x19 : Int, (∃ p20 : Option Addr, (∃ n21 : Nat, (∃ n22 : Nat, (∃ b23 : Bool, ((v15 = Value.tuple (Array.mk (List.reverse [Value.bool b23, Value.agg (Array.mk (List.reverse [Value.slice p20 n21 n22, Value.int IntKind.i64 x19, Value.string s18, Value.int IntKind.i64 x17]))]))) ∧ (atW (World.alloc w16 (Obj.cells (Array.mk [Value.int IntKind.i64 0, Value.string (ByteArray.mk #[]), Value.int IntKind.i64 0, Value.slice none 0 0]) 53 (0, 0))) (fun w24 =>
          ((∃ v25 : Value, (World.cell? w24 (Addr.add (Addr.mk (Array.size (World.heap w16)) 0 none) 0) = some v25)) ∧ ((World.frozen? w24 (Addr.add (Addr.mk (Array.size (World.heap w16)) 0 none) 0) = false) ∧ (atW (World.setCell w24 (Addr.add (Addr.mk (Array.size (World.heap w16)) 0 none) 0) (Value.int IntKind.i64 x17)) (fun w26 =>
            ((∃ v27 : Value, (World.cell? w26 (Addr.add (Addr.mk (Array.size (World.heap w16)) 0 none) 1) = some v27)) ∧ ((World.frozen? w26 (Addr.add (Addr.mk (Array.size (World.heap w16)) 0 none) 1) = false) ∧ (atW (World.setCell w26 (Addr.add (Addr.mk (Array.size (World.heap w16)) 0 none) 1) (Value.string s18)) (fun w28 =>
              ((∃ v29 : Value, (World.cell? w28 (Addr.add (Addr.mk (Array.size (World.heap w16)) 0 none) 2) = some v29)) ∧ ((World.frozen? w28 (Addr.add (Addr.mk (Array.size (World.heap w16)) 0 none) 2) = false) ∧ (atW (World.setCell w28 (Addr.add (Addr.mk (Array.size (World.heap w16)) 0 none) 2) (Value.int IntKind.i64 x19)) (fun w30 =>
                ((∃ v31 : Value, (World.cell? w30 (Addr.add (Addr.mk (Array.size (World.heap w16)) 0 none) 3) = some v31)) ∧ ((World.frozen? w30 (Addr.add (Addr.mk (Array.size (World.heap w16)) 0 none) 3) = false) ∧ (atW (World.setCell w30 (Addr.add (Addr.mk (Array.size (World.heap w16)) 0 none) 3) (Value.slice p20 n21 n22)) (fun w32 =>
                  (∃ s33 : ByteArray, ((World.cell? w32 (Addr.add (Addr.mk (Array.size (World.heap w16)) 0 none) 1) = some (Value.string s33)) ∧ (ifK (ByteArray.toList s33 == ByteArray.toList queue)
                    (Ca Try.prog (36) (Array.mk [Value.pointer d, Value.int IntKind.i64 x14]) (w32) (fun v34 => (fun w35 =>
                      (∃ x36 : Int, (∃ s37 : ByteArray, (∃ x38 : Int, (∃ p39 : Option Addr, (∃ n40 : Nat, (∃ n41 : Nat, (∃ x42 : Int, ((v34 = Value.tuple (Array.mk (List.reverse [Value.int IntKind.i64 x42, Value.agg (Array.mk (List.reverse [Value.slice p39 n40 n41, Value.int IntKind.i64 x38, Value.string s37, Value.int IntKind.i64 x36]))]))) ∧ (atW (World.alloc w35 (Obj.cells (Array.mk [Value.int IntKind.i64 x14]) 3 (0, 0))) (fun w43 =>
                        (∃ v44 : Value, (∃ w45 : World, ((Sem.run Try.prog (Builtin.append_ (Array.mk [36, 36]) 36 (Array.mk [Value.slice p8 n9 n10, Value.slice (some (Addr.mk (Array.size (World.heap w35)) 0 none)) 1 1])) w43 = Result.ok v44 w45) ∧ (∃ p46 : Option Addr, (∃ n47 : Nat, (∃ n48 : Nat, ((v44 = Value.slice p46 n47 n48) ∧ ((z5 (p46) (n47) (n48) (IntKind.wrap IntKind.i64 (x11 + 1)) (w45)) ∧ (z6 p46 n47 n48 (IntKind.wrap IntKind.i64 (x11 + 1)) w45 < z6 p8 n9 n10 x11 w12))))))))))))))))))))))
                    ((z5 (p8) (n9) (n10) (IntKind.wrap IntKind.i64 (x11 + 1)) (w32)) ∧ (z6 p8 n9 n10 (IntKind.wrap IntKind.i64 (x11 + 1)) w32 < z6 p8 n9 n10 x11 w12))))))))))))))))))))))))))))))))))))))))
      (R (Value.slice p8 n9 n10) (w12))))))))))))))))))))
theorem ca40 (d : Option Addr) (queue : ByteArray) (w : World) (R : Value → World → Prop) (h : W40 d queue w R) : Ca Try.prog 40 ⟨[(.pointer d), (.string queue)]⟩ w R := by
  have h1 : Try.prog.follows .mixedOrders = true := by kernel_rfl
  have h2 : Try.f40.body = some C40 := by kernel_rfl
  have h3 : (Try.f40.name == "runtime.NumGoroutine") = false := by kernel_rfl
  have h6 : Try.f40.results.toList = [.tmp 4] := by kernel_rfl
  have h4 : Nat.ble 2 36 = true := by kernel_rfl
  have h5 : okCode 36 pl40 ls40 C40 0 = true := by kernel_rfl
  have e : W40 d queue w R = wpC none Try.prog 36 pl40 ls40 C40 0 (endP Try.prog [.tmp 4] R) (fr0 [(.pointer d), (.string queue)]) [] w := by kernel_rfl
  exact ca_of' (P := Try.prog) (g := 40) (fn := Try.f40) (c := C40) (m := 36) (rs := [.tmp 4]) (args := [(.pointer d), (.string queue)]) (pl := pl40) (ls := ls40) (w := w) (R := R) h1 Try.func40 h2 Try.ntmps40 h6 h3 h4 h5 (Eq.mp e h)

/-- staith/staithref17.has -/
noncomputable def C50 : Code := (Try.f50.body).getD .skip
def pl50 : Nat → Plan := fun _ => .done
def ls50 : Nat → List (Nat × LT)
  | 3 => [(9, (.one (.int .i64)))]
  | _ => []
def W50 (la : Option Addr) (ll : Nat) (_lc : Nat) (tag : Int) (w : World) (R : Value → World → Prop) : Prop :=
  (∃ z0 : Int → World → Prop, (∃ z1 : Int → World → Nat, ((z0 (0) (w)) ∧ (∀ (_ : Nat → Value), (∀ (x3 : Int), (∀ (w4 : World), ((z0 (x3) (w4)) → (ifK (decide (x3 < (↑ll : Int)))
    (∃ a5 : Addr, ((la = some a5) ∧ (((0 : Int) ≤ x3) ∧ (((x3 : Int) < (↑ll : Int)) ∧ (∃ x6 : Int, ((World.cell? w4 (Addr.add a5 (Int.toNat x3 * 1)) = some (Value.int IntKind.u64 x6)) ∧ (ifK (x6 == tag)
      (R (Value.bool true) (w4))
      ((z0 (IntKind.wrap IntKind.i64 (x3 + 1)) (w4)) ∧ (z1 (IntKind.wrap IntKind.i64 (x3 + 1)) w4 < z1 x3 w4)))))))))
    (R (Value.bool false) (w4))))))))))
theorem ca50 (la : Option Addr) (ll : Nat) (lc : Nat) (tag : Int) (w : World) (R : Value → World → Prop) (h : W50 la ll lc tag w R) : Ca Try.prog 50 ⟨[(.slice la ll lc), (.int .u64 tag)]⟩ w R := by
  have h1 : Try.prog.follows .mixedOrders = true := by kernel_rfl
  have h2 : Try.f50.body = some C50 := by kernel_rfl
  have h3 : (Try.f50.name == "runtime.NumGoroutine") = false := by kernel_rfl
  have h6 : Try.f50.results.toList = [.tmp 4] := by kernel_rfl
  have h4 : Nat.ble 2 17 = true := by kernel_rfl
  have h5 : okCode 17 pl50 ls50 C50 0 = true := by kernel_rfl
  have e : W50 la ll lc tag w R = wpC none Try.prog 17 pl50 ls50 C50 0 (endP Try.prog [.tmp 4] R) (fr0 [(.slice la ll lc), (.int .u64 tag)]) [] w := by kernel_rfl
  exact ca_of' (P := Try.prog) (g := 50) (fn := Try.f50) (c := C50) (m := 17) (rs := [.tmp 4]) (args := [(.slice la ll lc), (.int .u64 tag)]) (pl := pl50) (ls := ls50) (w := w) (R := R) h1 Try.func50 h2 Try.ntmps50 h6 h3 h4 h5 (Eq.mp e h)

/-- staith/staithref05.Name -/
noncomputable def C49 : Code := (Try.f49.body).getD .skip
def pl49 : Nat → Plan := fun _ => .done
def ls49 : Nat → List (Nat × LT) := fun _ => []
def W49 (s : ByteArray) (w : World) (R : Value → World → Prop) : Prop :=
  (ifK (decide ((↑(ByteArray.size s) : Int) ≤ 20))
    (Ca Try.prog (65) (Array.mk [Value.string s]) (w) (fun v0 => (fun w1 =>
      (∃ b2 : Bool, ((v0 = Value.bool b2) ∧ (R (Value.bool b2) (w1)))))))
    (R (Value.bool false) (w)))
theorem ca49 (s : ByteArray) (w : World) (R : Value → World → Prop) (h : W49 s w R) : Ca Try.prog 49 ⟨[(.string s)]⟩ w R := by
  have h1 : Try.prog.follows .mixedOrders = true := by kernel_rfl
  have h2 : Try.f49.body = some C49 := by kernel_rfl
  have h3 : (Try.f49.name == "runtime.NumGoroutine") = false := by kernel_rfl
  have h6 : Try.f49.results.toList = [.tmp 2] := by kernel_rfl
  have h4 : Nat.ble 1 10 = true := by kernel_rfl
  have h5 : okCode 10 pl49 ls49 C49 0 = true := by kernel_rfl
  have e : W49 s w R = wpC none Try.prog 10 pl49 ls49 C49 0 (endP Try.prog [.tmp 2] R) (fr0 [(.string s)]) [] w := by kernel_rfl
  exact ca_of' (P := Try.prog) (g := 49) (fn := Try.f49) (c := C49) (m := 10) (rs := [.tmp 2]) (args := [(.string s)]) (pl := pl49) (ls := ls49) (w := w) (R := R) h1 Try.func49 h2 Try.ntmps49 h6 h3 h4 h5 (Eq.mp e h)

/-- staith/staithref05.letters -/
noncomputable def C65 : Code := (Try.f65.body).getD .skip
def pl65 : Nat → Plan := fun _ => .done
def ls65 : Nat → List (Nat × LT)
  | 3 => [(3, (.one (.int .i64)))]
  | 8 => [(0, .agg []), (36, (.one .bool))]
  | _ => []
def W65 (s : ByteArray) (w : World) (R : Value → World → Prop) : Prop :=
  (∃ z0 : Int → World → Prop, (∃ z1 : Int → World → Nat, ((z0 (0) (w)) ∧ (∀ (_ : Nat → Value), (∀ (x3 : Int), (∀ (w4 : World), ((z0 (x3) (w4)) → (ifK (decide (x3 < (↑(ByteArray.size s) : Int)))
    (((0 : Int) ≤ x3) ∧ (((x3 : Int) < (↑(ByteArray.size s) : Int)) ∧ (∃ z5 : Bool → World → Prop, ((ifK (decide (byteAt s (Int.toNat x3) ≥ 97))
      (ifK (decide (byteAt s (Int.toNat x3) ≤ 122))
        (z5 (!true) (w4))
        (ifK (decide (byteAt s (Int.toNat x3) ≥ 48))
          (ifK (decide (byteAt s (Int.toNat x3) ≤ 57))
            (z5 (!true) (w4))
            (ifK (byteAt s (Int.toNat x3) == 45)
              (z5 (!true) (w4))
              (z5 (!byteAt s (Int.toNat x3) == 95) (w4))))
          (ifK (byteAt s (Int.toNat x3) == 45)
            (z5 (!true) (w4))
            (z5 (!byteAt s (Int.toNat x3) == 95) (w4)))))
      (ifK (decide (byteAt s (Int.toNat x3) ≥ 48))
        (ifK (decide (byteAt s (Int.toNat x3) ≤ 57))
          (z5 (!true) (w4))
          (ifK (byteAt s (Int.toNat x3) == 45)
            (z5 (!true) (w4))
            (z5 (!byteAt s (Int.toNat x3) == 95) (w4))))
        (ifK (byteAt s (Int.toNat x3) == 45)
          (z5 (!true) (w4))
          (z5 (!byteAt s (Int.toNat x3) == 95) (w4))))) ∧ (∀ (_ : Nat → Value), (∀ (b7 : Bool), (∀ (w8 : World), ((z5 (b7) (w8)) → (ifK (b7)
      (R (Value.bool false) (w8))
      ((z0 (IntKind.wrap IntKind.i64 (x3 + 1)) (w8)) ∧ (z1 (IntKind.wrap IntKind.i64 (x3 + 1)) w8 < z1 x3 w4)))))))))))
    (R (Value.bool (decide ((↑(ByteArray.size s) : Int) > 0))) (w4))))))))))
theorem ca65 (s : ByteArray) (w : World) (R : Value → World → Prop) (h : W65 s w R) : Ca Try.prog 65 ⟨[(.string s)]⟩ w R := by
  have h1 : Try.prog.follows .mixedOrders = true := by kernel_rfl
  have h2 : Try.f65.body = some C65 := by kernel_rfl
  have h3 : (Try.f65.name == "runtime.NumGoroutine") = false := by kernel_rfl
  have h6 : Try.f65.results.toList = [.tmp 2] := by kernel_rfl
  have h4 : Nat.ble 1 40 = true := by kernel_rfl
  have h5 : okCode 40 pl65 ls65 C65 0 = true := by kernel_rfl
  have e : W65 s w R = wpC none Try.prog 40 pl65 ls65 C65 0 (endP Try.prog [.tmp 2] R) (fr0 [(.string s)]) [] w := by kernel_rfl
  exact ca_of' (P := Try.prog) (g := 65) (fn := Try.f65) (c := C65) (m := 40) (rs := [.tmp 2]) (args := [(.string s)]) (pl := pl65) (ls := ls65) (w := w) (R := R) h1 Try.func65 h2 Try.ntmps65 h6 h3 h4 h5 (Eq.mp e h)
end Go.Proofs.Ytmnbnjkbbhjocaa

/- Contracts of the reference's functions: what a name is; a desk and where a client stands. -/
namespace Go.Proofs.Ytmnbnjkbbhjocaa
open Go Go.Proofs.Ytmnbnjkbbhjocaa.St

theorem byteAt_eq {s : ByteArray} {i : Nat} (h : i < s.size) : byteAt s i = ((s[i]'h).toNat : Int) := by
  have h' : i < s.data.size := h
  simp only [byteAt, Array.getElem?_eq_getElem h', Option.getD_some]
  rfl
theorem byteArray_toList (s : ByteArray) : s.toList = s.data.toList := by
  have h : ∀ (n : Nat) (i : Nat) (r : List UInt8), s.size - i = n → ByteArray.toList.loop s i r = r.reverse ++ s.data.toList.drop i := by
    intro n
    induction n with
    | zero =>
      intro i r hi
      unfold ByteArray.toList.loop
      have : ¬ i < s.size := by omega
      simp only [this, if_false]
      rw [List.drop_of_length_le (by have : s.size = s.data.size := rfl; simp; omega)]
      simp
    | succ n ih =>
      intro i r hi
      unfold ByteArray.toList.loop
      have hlt : i < s.size := by omega
      simp only [hlt, if_true]
      rw [ih (i + 1) _ (by omega)]
      have hlt' : i < s.data.toList.length := by have : s.size = s.data.size := rfl; simp; omega
      rw [List.drop_eq_getElem_cons hlt']
      have : s.get! i = s.data.toList[i] := by
        have hlt2 : i < s.data.size := by simpa using hlt'
        rw [Array.getElem_toList]
        show s.data[i]! = _
        rw [getElem!_pos s.data i hlt2]
      rw [this]
      simp
  have := h (s.size - 0) 0 [] rfl
  simpa [ByteArray.toList] using this
theorem plainB_eq (s : ByteArray) : plainB s = (lettersB s && decide (s.size > 0)) := by
  unfold plainB
  congr 1
  rw [byteArray_toList, byteArray_toList]
  have : s.size = s.data.toList.length := Array.length_toList.symm
  rw [this]
  cases s.data.toList with
  | nil => rfl
  | cons x r => exact (decide_eq_true (Nat.succ_pos _)).symm

theorem letters_ok (s : ByteArray) (w : World) (hs : s.size < 4611686018427387904) (R : Value → World → Prop) (h : R (.bool (plainB s)) w) : Ca Try.prog 65 #[.string s] w R := by
  refine ca65 s w R ?_
  refine ⟨fun x w' => ∃ i : Nat, x = i ∧ i ≤ s.size ∧ w' = w ∧ ∀ (k : Nat) (hk : k < s.size), k < i → letter (s[k]'hk).toNat = true, fun x _ => ((s.size : Int) - x).toNat,
    ⟨0, rfl, Nat.zero_le _, rfl, fun k _ hk => by omega⟩, ?_⟩
  rintro _ _ _ ⟨i, rfl, hi, rfl, hall⟩
  rename_i w
  refine ifK_dec (fun hlt => ?_) (fun hge => ?_)
  · have hlt' : i < s.size := by omega
    refine ⟨by omega, hlt, fun b w' => b = !(letter (s[i]'hlt').toNat) ∧ w' = w, ?_, ?_⟩
    · rw [Int.toNat_natCast, byteAt_eq hlt']
      generalize (s[i]'hlt').toNat = c
      repeat' first
        | refine ifK_dec (fun _ => ?_) (fun _ => ?_)
        | refine ifK_eq (fun _ => ?_) (fun _ => ?_)
      all_goals refine ⟨?_, rfl⟩
      all_goals rw [Bool.eq_iff_iff]
      all_goals simp [letter]
      all_goals omega
    · rintro _ b _ ⟨rfl, rfl⟩
      refine ifK_not (fun hf => ?_) (fun ht => ?_)
      · have : plainB s = false := by
          rw [plainB]
          have : lettersB s = false := by
            cases hc : lettersB s with
            | false => rfl
            | true => rw [lettersB_at hc hlt'] at hf; cases hf
          rw [this]; rfl
        rwa [this] at h
      · have e1 : IntKind.i64.wrap ((i : Int) + 1) = ((i + 1 : Nat) : Int) := (by first | (simp only [IntKind.wrap_i64]; omega) | omega)
        rw [e1]
        refine ⟨⟨i + 1, rfl, hlt', rfl, fun k hk hki => ?_⟩, by simp only; omega⟩
        by_cases e : k = i
        · subst e; exact ht
        · exact hall k hk (by omega)
  · have : plainB s = decide ((s.size : Int) > 0) := by
      rw [plainB_eq, lettersB_of fun k hk => hall k hk (by omega)]
      simp
    rwa [this] at h
theorem nameR_ok (s : ByteArray) (w : World) (R : Value → World → Prop) (h : R (.bool (nameB s)) w) : Ca Try.prog 49 #[.string s] w R := by
  refine ca49 s w R ?_
  refine ifK_dec (fun hle => ?_) (fun hgt => ?_)
  · refine letters_ok s w (by omega) _ ⟨_, rfl, ?_⟩
    have : nameB s = plainB s := by rw [nameB]; simp [hle]
    rwa [this] at h
  · have : nameB s = false := by rw [nameB]; simp [hgt]
    rwa [this] at h

/-! ### The reference's desk -/
/-- One, as it lies. -/
structure Raw where
  client : Int
  queue : ByteArray
  most : Int
  ta : Option Addr
  tl : Nat
  tc : Nat
def rawL : Lay Raw where
  cs x := [.int .i64 x.client, .string x.queue, .int .i64 x.most, .slice x.ta x.tl x.tc]
  s := 4
  pos := by decide
  len _ := rfl
  one x v hv := by simp at hv; rcases hv with rfl | rfl | rfl | rfl <;> rfl

/-- x lies as y says. -/
structure RawAt (w : World) (F : Nat → Prop) (x : Raw) (y : One) : Prop where
  client : x.client = y.client
  queue : x.queue = y.queue
  most : x.most = y.most
  tags : Ints .u64 27 w x.ta x.tl x.tc y.tags
  fp : ∀ k, rowB x.ta k → F k
theorem RawAt.mod {S F G : Nat → Prop} {w w' : World} {x : Raw} {y : One} (h : RawAt w F x y) (hm : Mod S w w') (hs : ∀ k, rowB x.ta k → ¬ S k) (hg : ∀ k, rowB x.ta k → G k) : RawAt w' G x y :=
  ⟨h.client, h.queue, h.most, h.tags.mod hm hs, hg⟩

/-- At d lies a reference's desk, in the blocks F: its row in T, its tags' rows elsewhere. -/
def RD (w : World) (d : Nat) (F : Nat → Prop) (r : List One) : Prop :=
  ∃ a l c xs, w.heap[d]? = some (.cells #[.slice a l c] 44 (0, 0)) ∧ Row rawL 53 w a l c xs ∧ AllAt (RawAt w fun k => F k ∧ k ≠ d ∧ ¬ rowB a k) xs r ∧ F d ∧ (∀ k, rowB a k → F k ∧ k ≠ d)

theorem RD.mod {S F : Nat → Prop} {w w' : World} {d : Nat} {r : List One} (h : RD w d F r) (hm : Mod S w w') (hs : ∀ k, F k → ¬ S k) : RD w' d F r := by
  obtain ⟨a, l, c, xs, hd, hr, hx, hF, ha⟩ := h
  refine ⟨a, l, c, xs, hm.at hd (hs d hF), hr.mod hm fun k hk => hs k (ha k hk).1, ?_, hF, ha⟩
  exact hx.imp fun _ _ hxy => hxy.mod hm (fun k hk => hs k (hxy.fp k hk).1) hxy.fp
theorem RD.no {F : Nat → Prop} {w w' : World} {d : Nat} {r : List One} (h : RD w d F r) (hm : Mod no w w') : RD w' d F r := h.mod hm fun _ _ => id
theorem RD.mono {F G : Nat → Prop} {w : World} {d : Nat} {r : List One} (h : RD w d F r) (hg : ∀ k, F k → G k) : RD w d G r := by
  obtain ⟨a, l, c, xs, hd, hr, hx, hF, ha⟩ := h
  exact ⟨a, l, c, xs, hd, hr, hx.imp fun _ _ hxy => { hxy with fp := fun k hk => ⟨hg k (hxy.fp k hk).1, (hxy.fp k hk).2⟩ }, hg d hF, fun k hk => ⟨hg k (ha k hk).1, (ha k hk).2⟩⟩

/-- Where a client stands; below 0: nowhere. -/
def fidx (r : List One) (c : Int) : Int := match r.findIdx? (·.client == c) with
  | some i => (i : Int)
  | none => -1

theorem find_r (d : Nat) (F : Nat → Prop) (r : List One) (client : Int) (w : World) (hd : RD w d F r) (R : Value → World → Prop)
    (h : ∀ w', Mod no w w' → R (.int .i64 (fidx r client)) w') : Ca Try.prog 41 #[.pointer (some ⟨d, 0, none⟩), .int .i64 client] w R := by
  obtain ⟨a, l, c, xs, hc, hr, hx, hF, ha⟩ := hd
  obtain ⟨hlen, hat⟩ := hx
  obtain ⟨hl, hlc, hcm⟩ := hr.len
  refine ca41 _ client w R ?_
  refine ⟨a, l, c, by rw [cl1 hc]; rfl, fun x w' => ∃ i : Nat, x = i ∧ i ≤ l ∧ Mod no w w' ∧ ∀ (k : Nat) (hk : k < r.length), k < i → (r[k].client == client) = false, fun x _ => ((l : Int) - x).toNat,
    ⟨0, rfl, Nat.zero_le _, Mod.refl _ _, fun k _ hk => by omega⟩, ?_⟩
  rintro _ _ w1 ⟨i, rfl, hi, m1, hno⟩
  refine ifK_dec (fun hlt => ?_) (fun hge => ?_)
  · have hlt' : i < xs.length := by omega
    have hlr : i < r.length := by omega
    have hxi := hat i hlt' hlr
    obtain ⟨g, rfl, hg⟩ := (hr.no m1).getS hlt' (s := 4) rfl
    have hi4 : Int.toNat (i : Int) * 4 = i * 4 := by simp
    refine ⟨_, rfl, by omega, hlt, _, hg 0 _ rfl, _, hg 1 _ rfl, _, hg 2 _ rfl, _, _, _, hg 3 _ rfl, ?_⟩
    intro w2 e2
    have m2 : Mod no w1 w2 := by subst e2; exact Mod.alloc _ _
    have b2 : w2.heap[w1.heap.size]? = some (.cells #[.int .i64 0, .string (ByteArray.mk #[]), .int .i64 0, .slice none 0 0] 53 (0, 0)) := by subst e2; exact new_at _ _
    clear e2
    refine fillC_ok (vs := rawL.cs xs[i]) b2 rfl fun w3 b3 m3 _ => ?_
    have m3' : Mod no w w3 := (m1.trans m2).trans' m3 fun k hk hS => by
      cases hS
      have := m1.size
      omega
    refine ⟨xs[i].client, by rw [cl1 b3]; rfl, ifK_eq (fun he => ?_) (fun hne => ?_)⟩
    · have hf : fidx r client = (i : Int) := by
        have : r.findIdx? (·.client == client) = some i := by
          rw [List.findIdx?_eq_some_iff_getElem]
          refine ⟨hlr, by rw [← hxi.client, he]; simp, fun k hk => ?_⟩
          rw [hno k (by omega) hk]
          simp
        rw [fidx, this]
      have := h w3 m3'
      rwa [hf] at this
    · have e1 : IntKind.i64.wrap ((i : Int) + 1) = ((i + 1 : Nat) : Int) := by rw [wrap64 (by omega) (by omega)]; rfl
      rw [e1]
      refine ⟨⟨i + 1, rfl, by omega, m3', fun k hk hki => ?_⟩, by simp only; omega⟩
      by_cases e : k = i
      · subst e; rw [← hxi.client]; simpa using hne
      · exact hno k hk (by omega)
  · have hf : fidx r client = -1 := by
      have : r.findIdx? (·.client == client) = none := by
        rw [List.findIdx?_eq_none_iff]
        intro x hx
        obtain ⟨k, hk, rfl⟩ := List.getElem_of_mem hx
        exact hno k hk (by omega)
      rw [fidx, this]
    have := h w1 m1
    rwa [hf] at this
end Go.Proofs.Ytmnbnjkbbhjocaa

/- Contracts of the reference's functions: Find, Add. -/
namespace Go.Proofs.Ytmnbnjkbbhjocaa
open Go Go.Proofs.Ytmnbnjkbbhjocaa.St

theorem rowOne : laidOk Try.prog 42 53 rawL.s = true := by kernel_rfl

theorem fidx_some {r : List One} {c : Int} {i : Nat} (h : r.findIdx? (·.client == c) = some i) : fidx r c = i ∧ ∃ hi : i < r.length, r[i].client = c := by
  refine ⟨by rw [fidx, h], ?_⟩
  obtain ⟨hi, h1, _⟩ := List.findIdx?_eq_some_iff_getElem.1 h
  exact ⟨hi, by simpa using h1⟩

theorem find_fidx (r : List One) (client : Int) : (r.find? (·.client == client)).isSome = decide (fidx r client ≥ 0) := by
  cases hf : r.findIdx? (·.client == client) with
  | none =>
    have : r.find? (·.client == client) = none := List.find?_eq_none.2 fun x hx => by
      have := List.findIdx?_eq_none_iff.1 hf x hx
      simpa using this
    rw [fidx, hf, this]
    rfl
  | some i =>
    obtain ⟨_, hi, hcl⟩ := fidx_some hf
    have : (r.find? (·.client == client)).isSome = true := List.find?_isSome.2 ⟨r[i], List.getElem_mem hi, by simp [hcl]⟩
    rw [this, fidx, hf]
    simp

theorem findR_ok (d : Nat) (F : Nat → Prop) (r : List One) (client : Int) (w : World) (hd : RD w d F r) (R : Value → World → Prop)
    (h0 : r.findIdx? (·.client == client) = none → ∀ w', Mod no w w' → R (.tuple #[.agg #[.int .i64 0, .string (ByteArray.mk #[]), .int .i64 0, .slice none 0 0], .bool false]) w')
    (h1 : ∀ i (hi : i < r.length), r.findIdx? (·.client == client) = some i → ∀ w' ta tl tc, Mod no w w' → Ints .u64 27 w' ta tl tc r[i].tags → (∀ k, rowB ta k → F k) →
      R (.tuple #[.agg #[.int .i64 r[i].client, .string r[i].queue, .int .i64 r[i].most, .slice ta tl tc], .bool true]) w') :
    Ca Try.prog 20 #[.pointer (some ⟨d, 0, none⟩), .int .i64 client] w R := by
  refine ca20 _ client w R ?_
  intro w1 e1
  have m1 : Mod no w w1 := by subst e1; exact Mod.alloc _ _
  have b1 : w1.heap[w.heap.size]? = some (.cells #[.int .i64 0, .string (ByteArray.mk #[]), .int .i64 0, .slice none 0 0] 53 (0, 0)) := by subst e1; exact new_at _ _
  clear e1
  refine find_r d F r client w1 (hd.no m1) _ fun w2 m2 => ⟨_, rfl, ?_⟩
  have b2 := m2.at' b1
  have m02 := m1.trans m2
  have new : ∀ {w' : World}, Mod (on w.heap.size) w2 w' → Mod no w w' := fun hm => m02.trans' hm fun k hk hS => by cases hS; exact absurd hk (Nat.lt_irrefl _)
  refine ifK_dec (fun hlt => ?_) (fun hge => ?_)
  · have hn : r.findIdx? (·.client == client) = none := by
      cases hf : r.findIdx? (·.client == client) with
      | none => rfl
      | some i => rw [(fidx_some hf).1] at hlt; omega
    refine fillC_ok (vs := [.int .i64 0, .string (ByteArray.mk #[]), .int .i64 0, .slice none 0 0]) b2 rfl fun w3 b3 m3 _ => ?_
    refine ⟨0, by rw [cl1 b3]; rfl, _, by rw [cl1 b3]; rfl, 0, by rw [cl1 b3]; rfl, none, 0, 0, by rw [cl1 b3]; rfl, ?_⟩
    exact h0 hn w3 (new m3)
  · obtain ⟨i, hf⟩ : ∃ i, r.findIdx? (·.client == client) = some i := by
      cases hf : r.findIdx? (·.client == client) with
      | none => rw [fidx, hf] at hge; exact absurd (by decide) hge
      | some i => exact ⟨i, rfl⟩
    obtain ⟨hfi, hir, hcl⟩ := fidx_some hf
    rw [hfi]
    obtain ⟨a, l, c, xs, hc0, hr0, ⟨hlen, hat⟩, hF, ha⟩ := hd
    have hc := m02.at' hc0
    have hr := hr0.no m02
    have hlt' : i < xs.length := by omega
    have hxi := hat i hlt' hir
    have hil : i < l := by have := hr.len.1; omega
    obtain ⟨g, rfl, hg⟩ := hr.getS hlt' (s := 4) rfl
    refine ⟨_, l, c, by rw [cl1 hc]; rfl, _, rfl, by omega, by omega, _, hg 0 _ rfl, _, hg 1 _ rfl, _, hg 2 _ rfl, _, _, _, hg 3 _ rfl, ?_⟩
    refine fillC_ok (vs := rawL.cs xs[i]) b2 rfl fun w3 b3 m3 _ => ?_
    refine ⟨xs[i].client, by rw [cl1 b3]; rfl, xs[i].queue, by rw [cl1 b3]; rfl, xs[i].most, by rw [cl1 b3]; rfl, xs[i].ta, xs[i].tl, xs[i].tc, by rw [cl1 b3]; rfl, ?_⟩
    rw [hxi.client, hxi.queue, hxi.most]
    refine h1 i hir hf w3 _ _ _ (new m3) (hxi.tags.mod (new m3) fun k hk hS => hS) fun k hk => (hxi.fp k hk).1

/-- What a desk lies in is there. -/
theorem RD.tight {w : World} {d : Nat} {F : Nat → Prop} {r : List One} (h : RD w d F r) : RD w d (fun k => F k ∧ k < w.heap.size) r := by
  obtain ⟨a, l, c, xs, hd, hr, hx, hF, ha⟩ := h
  exact ⟨a, l, c, xs, hd, hr, hx.imp fun _ _ hxy => { hxy with fp := fun k hk => ⟨⟨(hxy.fp k hk).1, hxy.tags.blk k hk⟩, (hxy.fp k hk).2⟩ }, ⟨hF, lt_of_heap hd⟩, fun k hk => ⟨⟨(ha k hk).1, hr.lt k hk⟩, (ha k hk).2⟩⟩
/-- A desk whose row was laid anew. -/
theorem RD.renew {w w' : World} {d : Nat} {F : Nat → Prop} {a' : Option Addr} {l' c' : Nat} {xs' : List Raw} {r' : List One} (hF : F d)
    (hd' : w'.heap[d]? = some (.cells #[.slice a' l' c'] 44 (0, 0))) (hr' : Row rawL 53 w' a' l' c' xs')
    (hx' : AllAt (RawAt w' fun k => (F k ∨ w.heap.size ≤ k) ∧ k ≠ d ∧ ¬ rowB a' k) xs' r') (ha' : ∀ k, rowB a' k → (F k ∨ w.heap.size ≤ k) ∧ k ≠ d) : RD w' d (fun k => F k ∨ w.heap.size ≤ k) r' :=
  ⟨a', l', c', xs', hd', hr', hx', .inl hF, ha'⟩

theorem addR_ok (d : Nat) (F : Nat → Prop) (r : List One) (client : Int) (queue : ByteArray) (most : Int) (w : World) (hd : RD w d F r) (R : Value → World → Prop)
    (h : ∀ w', RD w' d (fun k => F k ∨ w.heap.size ≤ k) (addL r client queue most) → Mod (on d) w w' → R (.int .i64 (addE r client queue most)) w') :
    Ca Try.prog 35 #[.pointer (some ⟨d, 0, none⟩), .int .i64 client, .string queue, .int .i64 most] w R := by
  have same : ∀ w' e, Mod no w w' → addE r client queue most = e → e ≠ 0 → R (.int .i64 e) w' := by
    intro w' e hm he hne
    have h' := h w' (by rw [addL, he, if_neg hne]; exact (hd.no hm).mono fun k hk => .inl hk) hm.of_no
    rwa [he] at h'
  refine ca35 _ client queue most w R ?_
  refine ifK_dec (fun h1 => same _ _ (Mod.refl _ _) (by simp [addE, h1]) (by decide)) (fun h1 => ?_)
  refine ifK_dec (fun h2 => same _ _ (Mod.refl _ _) (by simp [addE, h1, h2]) (by decide)) (fun h2 => ?_)
  refine nameR_ok queue w _ ⟨_, rfl, ?_⟩
  have e3 : most < 1 ∨ most > 100 ∨ (nameB queue = false) → addE r client queue most = 2 := by
    intro h
    rw [addE]
    simp only [h1, h2, decide_false, Bool.false_eq_true, if_false]
    by_cases h4 : most < 1
    · simp [h4]
    · by_cases h5 : most > 100
      · simp [h4, h5]
      · have : nameB queue = false := by
          rcases h with h | h | h
          · exact absurd h h4
          · exact absurd h h5
          · exact h
        simp [h4, h5, this]
  refine ifK_not (fun hn => same _ _ (Mod.refl _ _) (e3 (.inr (.inr hn))) (by decide)) (fun hn => ?_)
  refine ifK_dec (fun h4 => same _ _ (Mod.refl _ _) (e3 (.inl h4)) (by decide)) (fun h4 => ?_)
  refine ifK_dec (fun h5 => same _ _ (Mod.refl _ _) (e3 (.inr (.inl h5))) (by decide)) (fun h5 => ?_)
  have e6 : addE r client queue most = if (r.find? (·.client == client)).isSome then 4 else if decide ((r.length : Int) ≥ 32) then 5 else 0 := by
    rw [addE]
    simp [h1, h2, h4, h5, hn]
  refine find_r d F r client w hd _ fun w4 m4 => ⟨_, rfl, ?_⟩
  have hfi := find_fidx r client
  rw [hfi] at e6
  refine ifK_dec (fun h6 => same _ _ m4 (by rw [e6]; simp [h6]) (by decide)) (fun h6 => ?_)
  have hdl := hd
  obtain ⟨a, l, c, xs, hc, hr, ⟨hlen, hat⟩, hF, ha⟩ := hd
  obtain ⟨hxl, hlc, hcm⟩ := hr.len
  have hc4 := m4.at' hc
  refine ⟨a, l, c, by rw [cl1 hc4]; rfl, ifK_dec (fun h7 => same _ _ m4 (by rw [e6]; simp [h6]; omega) (by decide)) (fun h7 => ?_)⟩
  have e7 : addE r client queue most = 0 := by rw [e6]; simp [h6]; omega
  have hL : addL r client queue most = r ++ [⟨client, queue, most, []⟩] := by rw [addL, e7, if_pos rfl]
  intro w10 e10
  have m10 : Mod no w w10 := by subst e10; exact m4.trans (Mod.alloc _ _)
  have b10 : w10.heap[w4.heap.size]? = some (.cells #[] 53 (0, 0)) := by subst e10; exact new_at _ _
  clear e10
  have hc10 := m10.at' hc
  have hr10 := hr.no m10
  refine ⟨a, l, c, by rw [cl1 hc10]; rfl, ?_⟩
  have hal := hr10.all
  have hs4 := m4.size
  obtain ⟨a1, c1, w16, hrun, hr16, m16, hn16⟩ := (Row.lit rawL b10 [] (by simp) (by simp)).push (P := Try.prog) (ty := 42) rowOne (cc := c) hxl hal.1 hal.2 (by simp; omega)
  simp only [List.length_nil, Nat.zero_add, List.nil_append] at hrun hr16
  refine ⟨_, w16, hrun, _, _, _, rfl, ?_⟩
  have m16' : Mod no w w16 := m10.new m16 fun k hk => by simp [rowB] at hk; omega
  have hnew1 : ∀ k, rowB a1 k → w.heap.size ≤ k := fun k hk => by
    rcases hn16 k hk with h | h
    · simp [rowB] at h; omega
    · have := m10.size; omega
  intro w20 e20
  have m20 : Mod no w16 w20 := by subst e20; exact Mod.alloc _ _
  have b20 : w20.heap[w16.heap.size]? = some (.cells #[.int .i64 client, .string queue, .int .i64 most, .slice none 0 0] 53 (0, 0)) := by subst e20; exact new_at _ _
  clear e20
  obtain ⟨a2, c2, w22, hrun, hr22, m22, hn22⟩ := (hr16.no m20).push (P := Try.prog) (ty := 42) rowOne (b := some ⟨w16.heap.size, 0, none⟩) (m := 1) (cc := 1) (ys := [⟨client, queue, most, none, 0, 0⟩]) rfl
    (fun ad had j v hj => by cases had; rw [cl1 b20]; simpa [rawL] using hj) (fun h => by cases h) (by omega)
  refine ⟨_, w22, hrun, _, _, _, rfl, ?_⟩
  have m22' : Mod no w w22 := (m16'.trans m20).new m22 hnew1
  have hnew2 : ∀ k, rowB a2 k → w.heap.size ≤ k := fun k hk => by
    rcases hn22 k hk with h | h
    · exact hnew1 k h
    · have := (m16'.trans m20).size; omega
  have hc22 := m22'.at' hc
  have hdlt := lt_of_heap hc
  refine ⟨⟨_, by rw [cl2 hc22]; rfl⟩, fz2 hc22 _ _, ?_⟩
  intro w28 e28
  have m28 : Mod (on d) w22 w28 := by subst e28; exact Mod.set2 _ _ _ _ _
  have b28 : w28.heap[d]? = some (.cells #[.slice a2 (l + 1) c2] 44 (0, 0)) := by subst e28; exact set2 hc22 0 0 _
  clear e28
  have h' := h w28 ?_ (m22'.no_trans m28)
  · rwa [e7] at h'
  · rw [hL]
    refine RD.renew hF b28 (hr22.mod m28 fun k hk hS => by cases hS; have := hnew2 _ hk; omega) ?_ fun k hk => ⟨.inr (hnew2 k hk), fun e => by subst e; have := hnew2 _ hk; omega⟩
    refine AllAt.append ?_ (.one ⟨rfl, rfl, rfl, ⟨by simp, .inl ⟨rfl, rfl⟩⟩, fun k hk => by simp [rowB] at hk⟩)
    refine ⟨hlen, fun i h1 h2 => ?_⟩
    have hxi := hat i h1 h2
    refine hxi.mod (m22'.no_trans m28) (fun k hk hS => by cases hS; exact (hxi.fp _ hk).2.1 rfl) fun k hk => ⟨.inl (hxi.fp k hk).1, (hxi.fp k hk).2.1, fun hk2 => ?_⟩
    have h8 := hnew2 k hk2
    have h9 := row_len hxi.tags
    have : k < w.heap.size := hxi.tags.blk k hk
    omega
end Go.Proofs.Ytmnbnjkbbhjocaa

/- Contracts of the reference's functions: Drop. -/
namespace Go.Proofs.Ytmnbnjkbbhjocaa
open Go Go.Proofs.Ytmnbnjkbbhjocaa.St

def zeroOne : Value := .agg #[.int .i64 0, .string (ByteArray.mk #[]), .int .i64 0, .slice none 0 0]
def aggOne (x : One) (ta : Option Addr) (tl tc : Nat) : Value := .agg #[.int .i64 x.client, .string x.queue, .int .i64 x.most, .slice ta tl tc]

theorem dropR_ok (d : Nat) (F : Nat → Prop) (r : List One) (client : Int) (w : World) (hd : RD w d F r) (hN : r.length < 1099511627776) (R : Value → World → Prop)
    (h0 : r.findIdx? (·.client == client) = none → ∀ w', Mod no w w' → R (.tuple #[zeroOne, .int .i64 3]) w')
    (h1 : ∀ i (hi : i < r.length), r.findIdx? (·.client == client) = some i → ∀ w' ta tl tc, Mod (on d) w w' → RD w' d (fun k => F k ∨ w.heap.size ≤ k) (r.take i ++ r.drop (i + 1)) → Ints .u64 27 w' ta tl tc r[i].tags → (∀ k, rowB ta k → F k ∧ k ≠ d) →
      R (.tuple #[aggOne r[i] ta tl tc, .int .i64 0]) w') :
    Ca Try.prog 36 #[.pointer (some ⟨d, 0, none⟩), .int .i64 client] w R := by
  refine ca36 _ client w R ?_
  intro w1 e1
  have m1 : Mod no w w1 := by subst e1; exact Mod.alloc _ _
  have b1 : w1.heap[w.heap.size]? = some (.cells #[.int .i64 0, .string (ByteArray.mk #[]), .int .i64 0, .slice none 0 0] 53 (0, 0)) := by subst e1; exact new_at _ _
  clear e1
  refine find_r d F r client w1 (hd.no m1) _ fun w2 m2 => ⟨_, rfl, ?_⟩
  have b2 := m2.at' b1
  have m02 := m1.trans m2
  refine ifK_dec (fun hlt => ?_) (fun hge => ?_)
  · have hn : r.findIdx? (·.client == client) = none := by
      cases hf : r.findIdx? (·.client == client) with
      | none => rfl
      | some i => rw [(fidx_some hf).1] at hlt; omega
    refine fillC_ok (vs := [.int .i64 0, .string (ByteArray.mk #[]), .int .i64 0, .slice none 0 0]) b2 rfl fun w3 b3 m3 _ => ?_
    refine ⟨0, by rw [cl1 b3]; rfl, _, by rw [cl1 b3]; rfl, 0, by rw [cl1 b3]; rfl, none, 0, 0, by rw [cl1 b3]; rfl, ?_⟩
    exact h0 hn w3 (m02.trans' m3 fun k hk hS => by cases hS; exact absurd hk (Nat.lt_irrefl _))
  obtain ⟨i, hf⟩ : ∃ i, r.findIdx? (·.client == client) = some i := by
    cases hf : r.findIdx? (·.client == client) with
    | none => rw [fidx, hf] at hge; exact absurd (by decide) hge
    | some i => exact ⟨i, rfl⟩
  obtain ⟨hfi, hir, hcl⟩ := fidx_some hf
  rw [hfi]
  clear hge hfi
  obtain ⟨a, l, c, xs, hc, hr, ⟨hlen, hat⟩, hF, ha⟩ := hd
  obtain ⟨hxl, hlc, hcm⟩ := hr.len
  have hlt' : i < xs.length := by omega
  have hxi := hat i hlt' hir
  have hil : i < l := by omega
  have hdlt := lt_of_heap hc
  have hc2 := m02.at' hc
  obtain ⟨g, rfl, hg⟩ := (hr.no m02).getS hlt' (s := 4) rfl
  refine ⟨_, l, c, by rw [cl1 hc2]; rfl, _, rfl, by omega, by omega, _, hg 0 _ rfl, _, hg 1 _ rfl, _, hg 2 _ rfl, _, _, _, hg 3 _ rfl, ?_⟩
  clear hg
  intro w29 e29
  have m29a : Mod no w2 w29 := by subst e29; exact Mod.alloc _ _
  have m29 : Mod no w w29 := m02.trans m29a
  have b29 : w29.heap[w2.heap.size]? = some (.cells #[.int .i64 0, .string (ByteArray.mk #[]), .int .i64 0, .slice none 0 0] 53 (0, 0)) := by subst e29; exact new_at _ _
  clear e29
  have s2 := m02.size
  refine fillC_ok (vs := rawL.cs xs[i]) b29 rfl fun w37 b37 m37 s37 => ?_
  have m37' : Mod no w w37 := m29.new m37 fun k hk => by cases hk; exact s2
  have r37 : w37.heap[w.heap.size]? = some (.cells #[.int .i64 0, .string (ByteArray.mk #[]), .int .i64 0, .slice none 0 0] 53 (0, 0)) := m37.at (m29a.at' b2) fun hS => by
    have h5 : w.heap.size = w2.heap.size := hS
    have h6 := lt_of_heap b2
    omega
  intro w38 e38
  have m38 : Mod no w37 w38 := by subst e38; exact Mod.drew _
  clear e38
  have hc38 := m38.at' (m37'.at' hc)
  have e1 : IntKind.i64.wrap ((i : Int) + 1) = ((i + 1 : Nat) : Int) := by rw [wrap64 (by omega) (by omega)]; rfl
  rw [e1]
  refine ⟨_, l, c, by rw [cl1 hc38]; rfl, Int.le_refl _, by omega, by omega, _, l, c, by rw [cl1 hc38]; rfl, by omega, by omega, by omega, ?_⟩
  simp only [Int.toNat_natCast]
  intro w47 e47
  have m47 : Mod no w37 w47 := by subst e47; exact m38.trans (Mod.alloc _ _)
  have b47 : w47.heap[w38.heap.size]? = some (.cells #[] 53 (0, 0)) := by subst e47; exact new_at _ _
  clear e47
  have m47' := m37'.trans m47
  have hc47 := m47'.at' hc
  have hr47 := hr.no m47'
  refine ⟨by rw [cl2 hc47]; rfl, by rw [cl2 hc47]; rfl, ?_⟩
  have s38 : w.heap.size ≤ w38.heap.size := (m37'.trans m38).size
  have hh := hr47.head (k := i) (by omega)
  obtain ⟨a1, c1, w49, hrun, hr49, m49, hn49⟩ := (Row.lit rawL b47 [] (by simp) (by simp)).push (P := Try.prog) (ty := 42) rowOne (m := i - 0) (cc := c - 0) hh.2.2 hh.1 hh.2.1 (by simp; omega)
  simp only [List.length_nil, Nat.zero_add, List.nil_append, Nat.sub_zero] at hrun hr49
  refine ⟨_, w49, hrun, _, _, _, rfl, ?_⟩
  have m49n : Mod no w37 w49 := m47.new m49 fun k hk => by simp [rowB] at hk; have := m38.size; omega
  have m49' := m37'.trans m49n
  have hc49 := m49'.at' hc
  have hr49o := hr.no m49'
  have hnew1 : ∀ k, rowB a1 k → w37.heap.size ≤ k := fun k hk => by
    have := m38.size
    rcases hn49 k hk with h | h
    · simp [rowB] at h; omega
    · have := m47.size; omega
  refine ⟨by rw [cl2 hc49]; rfl, ?_⟩
  have ht := hr49o.tail (k := i + 1) (by omega) (s := 4) rfl
  obtain ⟨a2, c2, w54, hrun, hr54, m54, hn54⟩ := hr49.push (P := Try.prog) (ty := 42) rowOne (m := l - (i + 1)) (cc := c - (i + 1)) ht.2.2 ht.1 ht.2.1 (by omega)
  refine ⟨_, w54, hrun, _, _, _, rfl, ?_⟩
  have m54n : Mod no w37 w54 := m49n.new m54 hnew1
  have m54' := m37'.trans m54n
  have hnew2 : ∀ k, rowB a2 k → w37.heap.size ≤ k := fun k hk => by
    rcases hn54 k hk with h | h
    · exact hnew1 k h
    · have := m49n.size; omega
  have hc54 := m54'.at' hc
  refine ⟨⟨_, by rw [cl2 hc54]; rfl⟩, fz2 hc54 _ _, ?_⟩
  intro w60 e60
  have m60 : Mod (on d) w54 w60 := by subst e60; exact Mod.set2 _ _ _ _ _
  have b60 : w60.heap[d]? = some (.cells #[.slice a2 (i + (l - (i + 1))) c2] 44 (0, 0)) := by subst e60; exact set2 hc54 0 0 _
  clear e60
  have hd2 : d ≠ w2.heap.size := by have := lt_of_heap hc2; omega
  have x60 := m60.at (m54n.at' b37) fun e => hd2 (by cases e; rfl)
  have r60 := m60.at (m54n.at' r37) fun e => by cases e; exact Nat.lt_irrefl _ hdlt
  refine ⟨xs[i].client, by rw [cl1 x60]; rfl, xs[i].queue, by rw [cl1 x60]; rfl, xs[i].most, by rw [cl1 x60]; rfl, xs[i].ta, xs[i].tl, xs[i].tc, by rw [cl1 x60]; rfl, ?_⟩
  refine fillC_ok (vs := rawL.cs xs[i]) r60 rfl fun w74 b74 m74 s74 => ?_
  refine ⟨xs[i].client, by rw [cl1 b74]; rfl, xs[i].queue, by rw [cl1 b74]; rfl, xs[i].most, by rw [cl1 b74]; rfl, xs[i].ta, xs[i].tl, xs[i].tc, by rw [cl1 b74]; rfl, ?_⟩
  have mAll : Mod (on d) w w74 := (m54'.no_trans m60).trans' m74 fun k hk hS => by cases hS; exact absurd hk (Nat.lt_irrefl _)
  have s37' := m37'.size
  have hsz : w.heap.size < w37.heap.size := lt_of_heap r37
  rw [hxi.client, hxi.queue, hxi.most]
  refine h1 i hir hf w74 _ _ _ mAll ?_ (hxi.tags.mod mAll fun k hk hS => by cases hS; exact (hxi.fp _ hk).2.1 rfl) fun k hk => ⟨(hxi.fp k hk).1, (hxi.fp k hk).2.1⟩
  have hd74 : w74.heap[d]? = some (.cells #[.slice a2 (i + (l - (i + 1))) c2] 44 (0, 0)) := m74.at b60 fun e => by cases e; exact Nat.lt_irrefl _ hdlt
  refine RD.renew hF hd74 ((hr54.mod m60 fun k hk hS => by cases hS; have := hnew2 _ hk; omega).mod m74 fun k hk hS => by cases hS; have := hnew2 _ hk; omega) ?_ fun k hk => ⟨.inr (by have := hnew2 k hk; omega), fun e => by subst e; have := hnew2 _ hk; omega⟩
  have old : AllAt (RawAt w74 fun k => (F k ∨ w.heap.size ≤ k) ∧ k ≠ d ∧ ¬ rowB a2 k) xs r := by
    refine ⟨hlen, fun j h1 h2 => ?_⟩
    have hxj := hat j h1 h2
    refine hxj.mod mAll (fun k hk hS => by cases hS; exact (hxj.fp _ hk).2.1 rfl) fun k hk => ⟨.inl (hxj.fp k hk).1, (hxj.fp k hk).2.1, fun hk2 => ?_⟩
    have h8 := hnew2 k hk2
    have := hxj.tags.blk k hk
    omega
  exact (old.take i).append (old.drop (i + 1))
end Go.Proofs.Ytmnbnjkbbhjocaa

/- Contracts of the reference's functions: Next, has, Clients. -/
namespace Go.Proofs.Ytmnbnjkbbhjocaa
open Go Go.Proofs.Ytmnbnjkbbhjocaa.St

/-- One of a row is copied into a place of its own. -/
theorem copyOne {w : World} {a : Option Addr} {l c : Nat} {xs : List Raw} (hr : Row rawL 53 w a l c xs) {x : Int} (i : Nat) (hx : x = i) (hi : i < xs.length) {K : World → Prop}
    (hk : ∀ w', w'.heap[w.heap.size]? = some (.cells (rawL.cs xs[i]).toArray 53 (0, 0)) → Mod no w w' → K w') :
    ∃ ad : Addr, a = some ad ∧ (0 : Int) ≤ x ∧ x < (↑l : Int) ∧ ∃ x0 : Int, w.cell? (Addr.add (Addr.add ad (Int.toNat x * 4)) 0) = some (.int .i64 x0) ∧
      ∃ s1 : ByteArray, w.cell? (Addr.add (Addr.add ad (Int.toNat x * 4)) 1) = some (.string s1) ∧ ∃ x2 : Int, w.cell? (Addr.add (Addr.add ad (Int.toNat x * 4)) 2) = some (.int .i64 x2) ∧
      ∃ (p : Option Addr) (n m : Nat), w.cell? (Addr.add (Addr.add ad (Int.toNat x * 4)) 3) = some (.slice p n m) ∧
      atW (w.alloc (.cells ⟨[.int .i64 0, .string ⟨#[]⟩, .int .i64 0, .slice none 0 0]⟩ 53 (0, 0))) fun w1 => fillC w.heap.size [.int .i64 x0, .string s1, .int .i64 x2, .slice p n m] 0 w1 K := by
  subst hx
  obtain ⟨g, rfl, hg⟩ := hr.getS hi (s := 4) rfl
  have hl := hr.len
  refine ⟨_, rfl, by omega, by omega, _, hg 0 _ rfl, _, hg 1 _ rfl, _, hg 2 _ rfl, _, _, _, hg 3 _ rfl, ?_⟩
  intro w2 e2
  have m2 : Mod no w w2 := by subst e2; exact Mod.alloc _ _
  have b2 : w2.heap[w.heap.size]? = some (.cells #[.int .i64 0, .string (ByteArray.mk #[]), .int .i64 0, .slice none 0 0] 53 (0, 0)) := by subst e2; exact new_at _ _
  clear e2
  refine fillC_ok (vs := rawL.cs xs[i]) b2 rfl fun w3 b3 m3 _ => hk w3 b3 (m2.new m3 fun k hk => by cases hk; exact Nat.le_refl _)

theorem nextR_ok (d : Nat) (F : Nat → Prop) (r : List One) (queue : ByteArray) (w : World) (hd : RD w d F r) (R : Value → World → Prop)
    (h : ∀ w', Mod no w w' → R (.tuple #[.int .i64 (nextC r queue), .bool (nextB r queue)]) w') :
    Ca Try.prog 37 #[.pointer (some ⟨d, 0, none⟩), .string queue] w R := by
  obtain ⟨a, l, c, xs, hc, hr, ⟨hlen, hat⟩, hF, ha⟩ := hd
  obtain ⟨hl, hlc, hcm⟩ := hr.len
  refine ca37 _ queue w R ?_
  refine ⟨a, l, c, by rw [cl1 hc]; rfl, fun x w' => ∃ i : Nat, x = i ∧ i ≤ l ∧ Mod no w w' ∧ ∀ (k : Nat) (hk : k < r.length), k < i → roomO queue r[k] = false, fun x _ => ((l : Int) - x).toNat,
    ⟨0, rfl, Nat.zero_le _, Mod.refl _ _, fun k _ hk => by omega⟩, ?_⟩
  rintro _ _ w1 ⟨i, rfl, hi, m1, hno⟩
  refine ifK_dec (fun hlt => ?_) (fun hge => ?_)
  · have hlt' : i < xs.length := by omega
    have hlr : i < r.length := by omega
    have hxi := hat i hlt' hlr
    refine copyOne (hr.no m1) i rfl hlt' fun w3 b3 m3 => ?_
    have m3' := m1.trans m3
    have e1 : IntKind.i64.wrap ((i : Int) + 1) = ((i + 1 : Nat) : Int) := by rw [wrap64 (by omega) (by omega)]; rfl
    have next : roomO queue r[i] = false → (∃ i' : Nat, ((i + 1 : Nat) : Int) = i' ∧ i' ≤ l ∧ Mod no w w3 ∧ ∀ (k : Nat) (hk : k < r.length), k < i' → roomO queue r[k] = false) ∧ ((l : Int) - ((i + 1 : Nat) : Int)).toNat < ((l : Int) - (i : Int)).toNat := by
      intro hf
      refine ⟨⟨i + 1, rfl, by omega, m3', fun k hk hki => ?_⟩, by clear e1; omega⟩
      by_cases e : k = i
      · subst e; exact hf
      · exact hno k hk (by omega)
    rw [e1]
    clear e1
    have htl := hxi.tags.len.1
    refine ⟨xs[i].queue, by rw [cl1 b3]; rfl, ifK_of (fun hq => ?_) (fun hq => ?_)⟩
    · rw [hxi.queue] at hq
      refine ⟨xs[i].ta, xs[i].tl, xs[i].tc, by rw [cl1 b3]; rfl, xs[i].most, by rw [cl1 b3]; rfl, ifK_dec (fun hm => ?_) (fun hm => ?_)⟩
      · refine ⟨xs[i].client, by rw [cl1 b3]; rfl, ?_⟩
        have hroom : roomO queue r[i] = true := by
          rw [roomO, hq, htl, ← hxi.most]
          simpa using hm
        have hf : r.find? (roomO queue) = some r[i] := by
          rw [List.find?_eq_some_iff_getElem]
          exact ⟨hroom, i, hlr, rfl, fun j hj => by rw [hno j (by omega) hj]; rfl⟩
        have h' := h w3 m3'
        rw [nextC, nextB, hf] at h'
        rw [hxi.client]
        exact h'
      · refine next ?_
        rw [roomO, htl, ← hxi.most]
        simp only [Bool.and_eq_false_iff]
        exact .inr (decide_eq_false hm)
    · refine next ?_
      rw [roomO, ← hxi.queue, hq]
      rfl
  · have hf : r.find? (roomO queue) = none := by
      rw [List.find?_eq_none]
      intro x hx
      obtain ⟨k, hk, rfl⟩ := List.getElem_of_mem hx
      rw [hno k hk (by omega)]
      simp
    have h' := h w1 m1
    rw [nextC, nextB, hf] at h'
    exact h'

theorem has_ok (a : Option Addr) (l c : Nat) (ys : List Int) (tag : Int) (w : World) (hy : Ints .u64 27 w a l c ys) (R : Value → World → Prop) (h : R (.bool (ys.contains tag)) w) :
    Ca Try.prog 50 #[.slice a l c, .int .u64 tag] w R := by
  obtain ⟨hl, hlc, hcm⟩ := hy.len
  refine ca50 a l c tag w R ?_
  refine ⟨fun x w' => ∃ i : Nat, x = i ∧ i ≤ l ∧ w' = w ∧ ∀ k, k < i → at0 ys k ≠ tag, fun x _ => ((l : Int) - x).toNat, ⟨0, rfl, Nat.zero_le _, rfl, fun k hk => by omega⟩, ?_⟩
  rintro _ _ _ ⟨i, rfl, hi, rfl, hno⟩
  rename_i w
  refine ifK_dec (fun hlt => ?_) (fun hge => ?_)
  · refine hy.rd i rfl (by omega) (ifK_eq (fun he => ?_) (fun hne => ?_))
    · have : ys.contains tag = true := by
        rw [List.contains_iff_mem, ← he, at0_eq (by omega)]
        exact List.getElem_mem _
      rwa [this] at h
    · have e1 : IntKind.i64.wrap ((i : Int) + 1) = ((i + 1 : Nat) : Int) := by rw [wrap64 (by omega) (by omega)]; rfl
      rw [e1]
      clear e1
      refine ⟨⟨i + 1, rfl, by omega, rfl, fun k hk => ?_⟩, by simp only; clear hno hne h; omega⟩
      by_cases e : k = i
      · subst e; exact hne
      · exact hno k (by omega)
  · have : ys.contains tag = false := by
      cases hc : ys.contains tag with
      | false => rfl
      | true =>
        rw [List.contains_iff_mem] at hc
        obtain ⟨k, hk, he⟩ := List.getElem_of_mem hc
        exact absurd (by rw [at0_eq hk]; exact he) (hno k (by omega))
    rwa [this] at h
end Go.Proofs.Ytmnbnjkbbhjocaa

/- Rows of one-cell elements: what is appended. It names no program. -/
namespace Go.Proofs.Ytmnbnjkbbhjocaa.St
open Go

section
variable {α : Type} {val : α → Value} {e : TypeId} {w w' : World} {a : Option Addr} {l c : Nat} {xs : List α}
/-- An element is one word. -/
def oneL (val : α → Value) (h : ∀ x, (val x).oneCell' = true) : Lay α where
  cs x := [val x]
  s := 1
  pos := by decide
  len _ := rfl
  one x v hv := by simp at hv; subst hv; exact h x
theorem oneL_cs (val : α → Value) (h : ∀ x, (val x).oneCell' = true) (xs : List α) : xs.flatMap (oneL val h).cs = xs.map val := by
  induction xs with
  | nil => rfl
  | cons x r ih => rw [List.flatMap_cons, ih]; rfl
theorem Els.row (hv : ∀ x, (val x).oneCell' = true) (h : Els val e w a l c xs) : Row (oneL val hv) e w a l c xs := by
  rw [Row, oneL_cs]; exact h
theorem Els.of_row {hv : ∀ x, (val x).oneCell' = true} (h : Row (oneL val hv) e w a l c xs) : Els val e w a l c xs := by
  rw [Row, oneL_cs] at h; exact h
theorem Els.nil (e : TypeId) (w : World) : Els val e w none 0 0 [] := ⟨by simp, .inl ⟨rfl, rfl⟩⟩
theorem Els.lit (hv : ∀ x, (val x).oneCell' = true) {k : Nat} {cur : Array Value} (hg : w.heap[k]? = some (.cells cur e (0, 0))) (xs : List α) (h : cur.toList = xs.map val) (hn : xs.length ≤ maxLen) : Els val e w (some ⟨k, 0, none⟩) xs.length xs.length xs :=
  Els.of_row (hv := hv) (Row.lit _ hg xs (by rw [oneL_cs]; exact h) hn)
theorem Els.all (hv : ∀ x, (val x).oneCell' = true) (h : Els val e w a l c xs) : (∀ ad, a = some ad → ∀ j v, (xs.map val)[j]? = some v → w.cell? (ad.add j) = some v) ∧ (a = none → l = 0 ∧ c = 0) := by
  have := (h.row hv).all
  rw [oneL_cs] at this
  exact this
theorem Els.push {P : Program} {t ty : TypeId} (hv : ∀ x, (val x).oneCell' = true) (ho : laidOk P t e 1 = true) (h : Els val e w a l c xs) {b : Option Addr} {m cc : Nat} {ys : List α} (hm : ys.length = m)
    (hb : ∀ ad, b = some ad → ∀ j v, (ys.map val)[j]? = some v → w.cell? (ad.add j) = some v) (hb0 : b = none → m = 0 ∧ cc = 0) (hn : l + m ≤ 1099511627776) :
    ∃ a' c' w', (Builtin.append_ #[t, t] ty #[.slice a l c, .slice b m cc]).run P w = .ok (.slice a' (l + m) c') w' ∧ Els val e w' a' (l + m) c' (xs ++ ys) ∧
      Mod (rowB a) w w' ∧ (∀ k, rowB a' k → rowB a k ∨ w.heap.size ≤ k) := by
  obtain ⟨a', c', w', h1, h2, h3, h4⟩ := (h.row hv).push (P := P) (ty := ty) ho hm (by rw [oneL_cs]; exact hb) hb0 hn
  exact ⟨a', c', w', h1, Els.of_row h2, h3, h4⟩
/-- append(row, x). -/
theorem Els.push1 {P : Program} {t ty : TypeId} (hv : ∀ x, (val x).oneCell' = true) (ho : laidOk P t e 1 = true) (h : Els val e w a l c xs) {k : Nat} {x : α} {e' : TypeId} (hk : w.heap[k]? = some (.cells #[val x] e' (0, 0))) (hn : l + 1 ≤ 1099511627776) :
    ∃ a' c' w', (Builtin.append_ #[t, t] ty #[.slice a l c, .slice (some ⟨k, 0, none⟩) 1 1]).run P w = .ok (.slice a' (l + 1) c') w' ∧ Els val e w' a' (l + 1) c' (xs ++ [x]) ∧
      Mod (rowB a) w w' ∧ (∀ k, rowB a' k → rowB a k ∨ w.heap.size ≤ k) :=
  h.push hv ho (ys := [x]) rfl (fun ad had j v hj => by cases had; rw [cl1 hk]; simpa using hj) (fun h => by cases h) hn
end
theorem swapL_comm {α : Type} [Inhabited α] {xs : List α} {i j : Nat} (h : i ≠ j) : swapL xs i j = swapL xs j i := by
  unfold swapL
  exact List.set_comm _ _ h
end Go.Proofs.Ytmnbnjkbbhjocaa.St

/- Contracts of the reference's functions: Clients. -/
namespace Go.Proofs.Ytmnbnjkbbhjocaa
open Go Go.Proofs.Ytmnbnjkbbhjocaa.St

theorem wPred {i : Nat} (h : i < 4611686018427387904) (h0 : 0 < i) : IntKind.i64.wrap ((i : Int) - 1) = ((i - 1 : Nat) : Int) := by rw [wrap64 (by omega) (by omega)]; omega
theorem wSucc {i : Nat} (h : i < 4611686018427387904) : IntKind.i64.wrap ((i : Int) + 1) = ((i + 1 : Nat) : Int) := by rw [wrap64 (by omega) (by omega)]; rfl
theorem rowInt : laidOk Try.prog 36 3 1 = true := by kernel_rfl
theorem oneInt (k : IntKind) : ∀ x : Int, (Value.int k x).oneCell' = true := fun _ => rfl

theorem clientsR_ok (d : Nat) (F : Nat → Prop) (r : List One) (w : World) (hd : RD w d F r) (hN : r.length < 1099511627776) (R : Value → World → Prop)
    (h : ∀ w' a n c ys, Ints .i64 3 w' a n c ys → ys.Perm (r.map (·.client)) → Srt ys 0 n → Mod no w w' → (∀ k, rowB a k → w.heap.size ≤ k) → R (.slice a n c) w') :
    Ca Try.prog 18 #[.pointer (some ⟨d, 0, none⟩)] w R := by
  obtain ⟨a, l, c, xs, hc, hr, ⟨hlen, hat⟩, hF, ha⟩ := hd
  obtain ⟨hl, hlc, hcm⟩ := hr.len
  refine ca18 _ w R ?_
  refine ⟨a, l, c, by rw [cl1 hc]; rfl, fun p n m x w' => ∃ (i : Nat) (ys : List Int), x = i ∧ i ≤ l ∧ n = i ∧ Ints .i64 3 w' p n m ys ∧ ys.Perm ((r.take i).map (·.client)) ∧ Srt ys 0 n ∧ Mod no w w' ∧ (∀ k, rowB p k → w.heap.size ≤ k), fun _ _ _ x _ => ((l : Int) - x).toNat,
    ⟨0, [], rfl, Nat.zero_le _, rfl, Els.nil _ _, .refl _, Srt.nil _ _ _ (Nat.zero_le _), Mod.refl _ _, fun k hk => by simp [rowB] at hk⟩, ?_⟩
  rintro _ p n m _ w1 ⟨i, ys, rfl, hi, rfl, hys, hperm, hsrt, m1, hnew⟩
  rename_i n
  refine ifK_dec (fun hlt => ?_) (fun hge => ?_)
  · have hlt' : n < xs.length := by omega
    have hlr : n < r.length := by omega
    have hxi := hat n hlt' hlr
    refine ⟨fun p n' m w' => ∃ ys : List Int, n' = n + 1 ∧ Ints .i64 3 w' p n' m ys ∧ ys.Perm ((r.take (n + 1)).map (·.client)) ∧ Srt ys 0 n' ∧ Mod no w w' ∧ (∀ k, rowB p k → w.heap.size ≤ k), ?_, ?_⟩
    · refine copyOne (hr.no m1) n rfl hlt' fun w3 b3 m3 => ?_
      refine ⟨xs[n].client, by rw [cl1 b3]; rfl, ?_⟩
      intro w4 e4
      have m4 : Mod no w3 w4 := by subst e4; exact Mod.alloc _ _
      have b4 : w4.heap[w3.heap.size]? = some (.cells #[.int .i64 xs[n].client] 3 (0, 0)) := by subst e4; exact new_at _ _
      clear e4
      have m14 := m3.trans m4
      obtain ⟨p', c', w5, hrun, h5, m5, hn5⟩ := (hys.no m14).push1 (P := Try.prog) (ty := 36) (oneInt _) rowInt b4 (by omega)
      refine ⟨_, w5, hrun, _, _, _, rfl, ?_⟩
      have m5' : Mod no w w5 := (m1.trans m14).new m5 hnew
      have hnew5 : ∀ k, rowB p' k → w.heap.size ≤ k := fun k hk => by
        rcases hn5 k hk with h | h
        · exact hnew k h
        · have := (m1.trans m14).size; omega
      have hperm5 : (ys ++ [xs[n].client]).Perm ((r.take (n + 1)).map (·.client)) := by
        rw [List.take_succ_eq_append_getElem hlr, List.map_append]
        refine List.Perm.append hperm ?_
        rw [hxi.client]
        exact .refl _
      have hyl := hys.len.1
      have hins : Ins (ys ++ [xs[n].client]) 0 n n := by
        refine Ins.start fun p q h1 h2 h3 => ?_
        have := hsrt p q h1 h2 h3
        rw [at0_eq (by omega), at0_eq (by omega)] at this
        rw [at0_eq (by simp; omega), at0_eq (by simp; omega), List.getElem_append_left (by omega), List.getElem_append_left (by omega)]
        exact this
      clear hyl
      refine ⟨fun x w' => ∃ (j : Nat) (zs : List Int), x = j ∧ j ≤ n ∧ Ints .i64 3 w' p' (n + 1) c' zs ∧ zs.Perm ((r.take (n + 1)).map (·.client)) ∧ Ins zs 0 n j ∧ Mod no w w', fun x _ => x.toNat,
        ⟨n, _, by rw [wPred (i := n + 1) (by omega) (by omega)]; rfl, Nat.le_refl _, h5, hperm5, hins, m5'⟩, ?_⟩
      rintro _ _ w6 ⟨j, zs, rfl, hj, h6, hperm6, hins6, m6⟩ w7 e7
      have m7 : Mod no w6 w7 := by subst e7; exact Mod.drew _
      clear e7
      have m67 := m6.trans m7
      refine ifK_dec (fun hj0 => ?_) (fun hj0 => ⟨zs, rfl, h6.no m7, hperm6, hins6.done (.inl (by omega)), m67, hnew5⟩)
      have hj0 : 0 < j := by omega
      rw [wPred (i := j) (by omega) hj0]
      refine (h6.no m7).rd (j - 1) rfl (by omega) ((h6.no m7).rd j rfl (by omega) (ifK_dec (fun hgt => ?_) (fun hle => ⟨zs, rfl, h6.no m7, hperm6, hins6.done (.inr (by clear hins6; omega)), m67, hnew5⟩)))
      intro w8 e8
      have m8 : Mod no w7 w8 := by subst e8; exact Mod.drew _
      clear e8
      refine ((h6.no m7).no m8).swp (j - 1) j rfl rfl (by omega) (by omega) fun w9 h9 m9 => ?_
      have hlz := h6.lt (i := n) (by omega)
      rw [swapL_comm (by omega)] at h9
      exact ⟨⟨j - 1, _, rfl, by omega, h9, (swapL_perm (by omega) (by omega)).trans hperm6, hins6.step (by omega) hj0 hj hgt, (m67.trans m8).new m9 hnew5⟩, by simp only; omega⟩
    · rintro _ p' _ c' w10 ⟨us, rfl, h10, hperm10, hsrt10, m10, hnew10⟩
      rw [wSucc (i := n) (by omega)]
      exact ⟨⟨n + 1, us, rfl, by omega, rfl, h10, hperm10, hsrt10, m10, hnew10⟩, by simp only; omega⟩
  · have : n = r.length := by omega
    rw [List.take_of_length_le (by omega)] at hperm
    exact h w1 p n m ys hys hperm hsrt m1 hnew
end Go.Proofs.Ytmnbnjkbbhjocaa

/- Contracts of the reference's functions: Settle. -/
namespace Go.Proofs.Ytmnbnjkbbhjocaa
open Go Go.Proofs.Ytmnbnjkbbhjocaa.St

theorem rowTag : laidOk Try.prog 31 27 1 = true := by kernel_rfl

theorem settleR_ok (d : Nat) (F : Nat → Prop) (r : List One) (client tag : Int) (w : World) (hd : RD w d F r) (hN : r.length < 1099511627776) (hT : ∀ x ∈ r, x.tags.length < 1099511627776) (R : Value → World → Prop)
    (h0 : r.findIdx? (·.client == client) = none → ∀ w', Mod no w w' → R (.tuple #[.string (ByteArray.mk #[]), .int .i64 3]) w')
    (h2 : ∀ i (hi : i < r.length), r.findIdx? (·.client == client) = some i → r[i].tags.contains tag = false → ∀ w', Mod no w w' → R (.tuple #[.string (ByteArray.mk #[]), .int .i64 10]) w')
    (h1 : ∀ i (hi : i < r.length), r.findIdx? (·.client == client) = some i → r[i].tags.contains tag = true → ∀ w', Mod (on d) w w' → RD w' d (fun k => F k ∨ w.heap.size ≤ k) (r.set i { r[i] with tags := r[i].tags.filter (· != tag) }) →
      R (.tuple #[.string r[i].queue, .int .i64 0]) w') :
    Ca Try.prog 39 #[.pointer (some ⟨d, 0, none⟩), .int .i64 client, .int .u64 tag] w R := by
  refine ca39 _ client tag w R ?_
  refine find_r d F r client w hd _ fun w1 m1 => ⟨_, rfl, ?_⟩
  refine ifK_dec (fun hlt => ?_) (fun hge => ?_)
  · have hn : r.findIdx? (·.client == client) = none := by
      cases hf : r.findIdx? (·.client == client) with
      | none => rfl
      | some i => rw [(fidx_some hf).1] at hlt; omega
    exact h0 hn w1 m1
  obtain ⟨i, hf⟩ : ∃ i, r.findIdx? (·.client == client) = some i := by
    cases hf : r.findIdx? (·.client == client) with
    | none => rw [fidx, hf] at hge; exact absurd (by decide) hge
    | some i => exact ⟨i, rfl⟩
  obtain ⟨hfi, hir, hcl⟩ := fidx_some hf
  rw [hfi]
  clear hge hfi
  obtain ⟨a, l, c, xs, hc, hr, ⟨hlen, hat⟩, hF, ha⟩ := hd
  obtain ⟨hxl, hlc, hcm⟩ := hr.len
  have hlt' : i < xs.length := by omega
  have hxi := hat i hlt' hir
  have hil : i < l := by omega
  have hdlt := lt_of_heap hc
  have hc1 := m1.at' hc
  obtain ⟨g, rfl, hg⟩ := (hr.no m1).getS hlt' (s := 4) rfl
  refine ⟨_, l, c, by rw [cl1 hc1]; rfl, _, rfl, by omega, by omega, _, _, _, hg 3 _ rfl, ?_⟩
  have htags1 := hxi.tags.no m1
  have htl := hxi.tags.len
  refine has_ok _ _ _ _ tag w1 htags1 _ ⟨_, rfl, ifK_not (fun hb => h2 i hir hf hb w1 m1) (fun hb => ?_)⟩
  refine ⟨_, l, c, by rw [cl1 hc1]; rfl, _, rfl, by omega, by omega, _, _, _, hg 3 _ rfl, ?_⟩
  clear hg
  have hTi := hT r[i] (List.getElem_mem hir)
  refine ⟨fun p n m x w' => ∃ (j : Nat) (ys : List Int), x = j ∧ j ≤ xs[i].tl ∧ Ints .u64 27 w' p n m ys ∧ ys = (r[i].tags.take j).filter (· != tag) ∧ Mod no w w' ∧ (∀ k, rowB p k → w.heap.size ≤ k), fun _ _ _ x _ => ((xs[i].tl : Int) - x).toNat,
    ⟨0, [], rfl, Nat.zero_le _, Els.nil _ _, rfl, m1, fun k hk => by simp [rowB] at hk⟩, ?_⟩
  rintro _ p n m _ w2 ⟨j, ys, rfl, hj, hys, hfil, m2, hnew⟩
  have htags2 := hxi.tags.no m2
  refine ifK_dec (fun hjl => ?_) (fun hjl => ?_)
  · have hjl : j < xs[i].tl := by omega
    refine htags2.rd j rfl hjl ?_
    rw [wSucc (i := j) (by omega)]
    have hjt : j < r[i].tags.length := by omega
    refine ifK_of (fun hne => ?_) (fun heq => ?_)
    · intro w3 e3
      have m3 : Mod no w2 w3 := by subst e3; exact Mod.alloc _ _
      have b3 : w3.heap[w2.heap.size]? = some (.cells #[.int .u64 (at0 r[i].tags j)] 27 (0, 0)) := by subst e3; exact new_at _ _
      clear e3
      have hyl := hys.len.1
      have hyn : ys.length ≤ r[i].tags.length := by
        rw [hfil]
        exact Nat.le_trans (List.length_filter_le _ _) (by rw [List.length_take]; exact Nat.min_le_right _ _)
      obtain ⟨p', c', w4, hrun, h4, m4, hn4⟩ := (hys.no m3).push1 (P := Try.prog) (ty := 31) (oneInt _) rowTag b3 (by omega)
      refine ⟨_, w4, hrun, _, _, _, rfl, ⟨j + 1, _, rfl, by omega, h4, ?_, (m2.trans m3).new m4 hnew, fun k hk => ?_⟩, by simp only; omega⟩
      · rw [at0_eq hjt] at hne ⊢
        rw [hfil, List.take_succ_eq_append_getElem hjt, List.filter_append, List.filter_cons, if_pos hne, List.filter_nil]
      · rcases hn4 k hk with h | h
        · exact hnew k h
        · have := (m2.trans m3).size; omega
    · refine ⟨⟨j + 1, ys, rfl, by omega, hys, ?_, m2, hnew⟩, by simp only; omega⟩
      rw [hfil, List.take_succ_eq_append_getElem hjt, List.filter_append]
      rw [at0_eq hjt] at heq
      rw [List.filter_cons, if_neg (by rw [heq]; decide), List.filter_nil, List.append_nil]
  · have hjl : j = r[i].tags.length := by omega
    rw [hjl, List.take_length] at hfil
    intro w5 e5
    have m5 : Mod no w2 w5 := by subst e5; exact Mod.alloc _ _
    have b5 : w5.heap[w2.heap.size]? = some (.cells #[] 53 (0, 0)) := by subst e5; exact new_at _ _
    clear e5
    have m5' := m2.trans m5
    have hc5 := m5'.at' hc
    have hr5 := hr.no m5'
    refine ⟨_, l, c, by rw [cl1 hc5]; rfl, ?_⟩
    obtain ⟨a1, c1, w6, hrun, hr6, m6, hn6⟩ := (Row.lit rawL b5 [] (by simp) (by simp)).push (P := Try.prog) (ty := 42) rowOne hxl hr5.all.1 hr5.all.2 (by simp; omega)
    simp only [List.length_nil, Nat.zero_add, List.nil_append] at hrun hr6
    refine ⟨_, w6, hrun, _, _, _, rfl, ?_⟩
    have hs2 := m2.size
    have m6n : Mod no w2 w6 := m5.new m6 fun k hk => by simp [rowB] at hk; omega
    have m6' := m2.trans m6n
    have hnew1 : ∀ k, rowB a1 k → w2.heap.size ≤ k := fun k hk => by
      rcases hn6 k hk with h | h
      · simp [rowB] at h; omega
      · have := m5.size; omega
    have hc6 := m6'.at' hc
    refine ⟨⟨_, by rw [cl2 hc6]; rfl⟩, fz2 hc6 _ _, ?_⟩
    intro w7 e7
    have m7 : Mod (on d) w6 w7 := by subst e7; exact Mod.set2 _ _ _ _ _
    have b7 : w7.heap[d]? = some (.cells #[.slice a1 l c1] 44 (0, 0)) := by subst e7; exact set2 hc6 0 0 _
    clear e7
    have hr7 : Row rawL 53 w7 a1 l c1 xs := hr6.mod m7 fun k hk hS => by cases hS; have := hnew1 _ hk; omega
    obtain ⟨g1, rfl, ⟨u, hu⟩, hfz, m8, hr8⟩ := hr7.put hlt' (j := 3) (s := 4) rfl (by decide) (.slice p n m) { xs[i] with ta := p, tl := n, tc := m } rfl
    have hg1 : w2.heap.size ≤ g1 := hnew1 g1 (by simp [rowB])
    refine ⟨_, l, c1, by rw [cl1 b7]; rfl, _, rfl, by omega, by omega, ⟨u, hu⟩, hfz, ?_⟩
    intro w8 e8
    have e8 : w8 = w7.setCell (Addr.add (Addr.add (Addr.add ⟨g1, 0, none⟩ (i * 4)) 3) 0) (.slice p n m) := e8
    rw [← e8] at m8 hr8
    clear e8
    have b8 : w8.heap[d]? = some (.cells #[.slice (some ⟨g1, 0, none⟩) l c1] 44 (0, 0)) := m8.at b7 fun e => by cases e; omega
    obtain ⟨g1', hg1', hg⟩ := hr8.getS (i := i) (by simpa using hlt') (s := 4) rfl
    cases hg1'
    have hset : (xs.set i { xs[i] with ta := p, tl := n, tc := m })[i]'(by simpa using hlt') = { xs[i] with ta := p, tl := n, tc := m } := by simp
    rw [hset] at hg
    refine ⟨_, l, c1, by rw [cl1 b8]; rfl, _, rfl, by omega, by omega, _, hg 1 _ rfl, ?_⟩
    have mAll : Mod (on d) w w8 := (m6'.no_trans m7).trans' m8 fun k hk hS => by cases hS; omega
    show R (.tuple #[.string xs[i].queue, .int .i64 0]) w8
    rw [hxi.queue]
    refine h1 i hir hf hb w8 mAll ?_
    refine RD.renew hF b8 hr8 ?_ fun k hk => ⟨.inr (by simp [rowB] at hk; omega), fun e => by subst e; simp [rowB] at hk; omega⟩
    have old : AllAt (RawAt w8 fun k => (F k ∨ w.heap.size ≤ k) ∧ k ≠ d ∧ ¬ rowB (some ⟨g1, 0, none⟩) k) xs r := by
      refine ⟨hlen, fun j h1 h2 => ?_⟩
      have hxj := hat j h1 h2
      refine hxj.mod mAll (fun k hk hS => by cases hS; exact (hxj.fp _ hk).2.1 rfl) fun k hk => ⟨.inl (hxj.fp k hk).1, (hxj.fp k hk).2.1, fun hk2 => ?_⟩
      have := hxj.tags.blk k hk
      simp [rowB] at hk2
      omega
    have hyb := hys.blk
    refine old.set i ⟨hxi.client, hxi.queue, hxi.most, ?_, fun k hk => ⟨.inr (hnew k hk), fun e => by subst e; have := hnew _ hk; omega, fun hk2 => ?_⟩⟩
    · rw [← hfil]
      exact ((hys.no m6n).mod m7 fun k hk hS => by cases hS; have := hnew _ hk; omega).mod m8 fun k hk hS => by cases hS; have := hyb _ hk; omega
    · simp [rowB] at hk2
      have := hyb k hk
      omega
end Go.Proofs.Ytmnbnjkbbhjocaa

/- Contracts of the reference's functions: Took. -/
namespace Go.Proofs.Ytmnbnjkbbhjocaa
open Go Go.Proofs.Ytmnbnjkbbhjocaa.St

theorem find_at {r : List One} {client : Int} {i : Nat} (hir : i < r.length) (hf : r.findIdx? (·.client == client) = some i) : r.find? (·.client == client) = some r[i] := by
  obtain ⟨hi, h1, h2⟩ := List.findIdx?_eq_some_iff_getElem.1 hf
  rw [List.find?_eq_some_iff_getElem]
  exact ⟨h1, i, hi, rfl, fun j hj => by simpa using h2 j hj⟩
theorem find_none {r : List One} {client : Int} (hf : r.findIdx? (·.client == client) = none) : r.find? (·.client == client) = none := by
  rw [List.find?_eq_none]
  intro x hx
  have := List.findIdx?_eq_none_iff.1 hf x hx
  simp [this]

theorem tookR_ok (d : Nat) (F : Nat → Prop) (r : List One) (client tag : Int) (w : World) (hd : RD w d F r) (hN : r.length < 549755813888) (hT : ∀ x ∈ r, x.tags.length < 549755813888 ∧ Srt x.tags 0 x.tags.length) (R : Value → World → Prop)
    (h0 : tookE r client tag ≠ 0 → ∀ w', Mod no w w' → R (.int .i64 (tookE r client tag)) w')
    (h1 : ∀ i (hi : i < r.length), r.findIdx? (·.client == client) = some i → tookE r client tag = 0 → ∀ w' ts, ts.Perm (r[i].tags ++ [tag]) → Srt ts 0 ts.length → Mod F w w' →
      RD w' d (fun k => F k ∨ w.heap.size ≤ k) (r.take i ++ r.drop (i + 1) ++ [{ r[i] with tags := ts }]) → R (.int .i64 0) w') :
    Ca Try.prog 38 #[.pointer (some ⟨d, 0, none⟩), .int .i64 client, .int .u64 tag] w R := by
  have err : ∀ e w', tookE r client tag = e → e ≠ 0 → Mod no w w' → R (.int .i64 e) w' := fun e w' he hne hm => by
    have := h0 (by rw [he]; exact hne) w' hm
    rwa [he] at this
  refine ca38 _ client tag w R ?_
  refine findR_ok d F r client w hd _ (fun hn w1 m1 => ?_) (fun i hir hf w1 ta tl tc m1 htags hta => ?_)
  · refine ⟨_, _, _, _, _, _, false, rfl, ?_⟩
    intro w2 e2
    have m2 : Mod no w1 w2 := by subst e2; exact Mod.alloc _ _
    have b2 : w2.heap[w1.heap.size]? = some (.cells #[.int .i64 0, .string (ByteArray.mk #[]), .int .i64 0, .slice none 0 0] 53 (0, 0)) := by subst e2; exact new_at _ _
    clear e2
    refine fillC_ok (vs := [.int .i64 0, .string (ByteArray.mk #[]), .int .i64 0, .slice none 0 0]) b2 rfl fun w3 b3 m3 _ => ?_
    refine err 3 w3 (by rw [tookE, find_none hn]) (by decide) (m1.trans (m2.new m3 fun k hk => by cases hk; exact Nat.le_refl _))
  have hf' := find_at hir hf
  refine ⟨_, _, _, _, _, _, true, rfl, ?_⟩
  intro w2 e2
  have m2 : Mod no w1 w2 := by subst e2; exact Mod.alloc _ _
  have b2 : w2.heap[w1.heap.size]? = some (.cells #[.int .i64 0, .string (ByteArray.mk #[]), .int .i64 0, .slice none 0 0] 53 (0, 0)) := by subst e2; exact new_at _ _
  clear e2
  have htags2 := htags.no m2
  have hB0 := m1.size
  have htlt : ∀ k, rowB ta k → k < w1.heap.size := htags.blk
  refine fillC_ok (vs := [.int .i64 r[i].client, .string r[i].queue, .int .i64 r[i].most, .slice ta tl tc]) b2 rfl fun w3 b3 m3 _ => ?_
  have m3' : Mod no w w3 := m1.trans (m2.new m3 fun k hk => by cases hk; exact Nat.le_refl _)
  have htags3 : Ints .u64 27 w3 ta tl tc r[i].tags := htags2.mod m3 fun k hk hS => by cases hS; exact Nat.lt_irrefl _ (htlt _ hk)
  have hB3 := lt_of_heap b3
  generalize w1.heap.size = B at b3 hB0 hB3 htlt
  clear m3 htags2 b2 m2 htags m1
  have htl := htags3.len.1
  refine ⟨ta, tl, tc, by rw [cl1 b3]; rfl, r[i].most, by rw [cl1 b3]; rfl, ifK_dec (fun hm => err 5 w3 (by rw [tookE, hf']; simp only; rw [if_pos (by rw [htl]; exact decide_eq_true hm)]) (by decide) m3') (fun hm => ?_)⟩
  have hm : ¬ ((r[i].tags.length : Int) ≥ r[i].most) := by rw [htl]; exact hm
  have hd0 := hd
  obtain ⟨a, l, c, xs, hc, hr, ⟨hlen, hat⟩, hF, ha⟩ := hd
  obtain ⟨hxl, hlc, hcm⟩ := hr.len
  have hdlt := lt_of_heap hc
  have hc3 := m3'.at' hc
  -- does another one of the queue hold it?
  refine ⟨a, l, c, by rw [cl1 hc3]; rfl, fun x w' => ∃ j : Nat, x = j ∧ j ≤ l ∧ Mod no w3 w' ∧ ∀ (k : Nat) (hk : k < r.length), k < j → holdsB r[i].queue tag r[k] = false, fun x _ => ((l : Int) - x).toNat,
    ⟨0, rfl, Nat.zero_le _, Mod.refl _ _, fun k _ hk => by omega⟩, ?_⟩
  rintro _ _ w4 ⟨j, rfl, hj, m4, hno⟩
  have m4' := m3'.trans m4
  refine ifK_dec (fun hlt => ?_) (fun hge => ?_)
  · have hlt' : j < xs.length := by omega
    have hlr : j < r.length := by omega
    have hxj := hat j hlt' hlr
    refine copyOne (hr.no m4') j rfl hlt' fun w5 b5 m5 => ?_
    have m35 := m4.trans m5
    have next : holdsB r[i].queue tag r[j] = false → (∃ j' : Nat, ((j + 1 : Nat) : Int) = j' ∧ j' ≤ l ∧ Mod no w3 w5 ∧ ∀ (k : Nat) (hk : k < r.length), k < j' → holdsB r[i].queue tag r[k] = false) ∧ ((l : Int) - ((j + 1 : Nat) : Int)).toNat < ((l : Int) - (j : Int)).toNat := by
      intro hfl
      refine ⟨⟨j + 1, rfl, by omega, m35, fun k hk hki => ?_⟩, by omega⟩
      by_cases e : k = j
      · subst e; exact hfl
      · exact hno k hk (by omega)
    rw [wSucc (i := j) (by omega)]
    refine ⟨xs[j].queue, by rw [cl1 b5]; rfl, r[i].queue, by rw [cl1 (m35.at' b3)]; rfl, ifK_of (fun hq => ?_) (fun hq => ?_)⟩
    · refine ⟨xs[j].ta, xs[j].tl, xs[j].tc, by rw [cl1 b5]; rfl, ?_⟩
      refine has_ok _ _ _ _ tag w5 (hxj.tags.no (m3'.trans m35)) _ ⟨_, rfl, ifK_of (fun hb => ?_) (fun hb => next ?_)⟩
      · refine err 4 w5 ?_ (by decide) (m3'.trans m35)
        have : (r.find? (holdsB r[i].queue tag)).isSome = true := List.find?_isSome.2 ⟨r[j], List.getElem_mem hlr, by rw [holdsB, ← hxj.queue, hq, hb]; rfl⟩
        rw [tookE, hf']
        simp only
        rw [if_neg (by simpa using hm), if_pos this]
      · rw [holdsB, hb, Bool.and_false]
    · exact next (by rw [holdsB, ← hxj.queue, hq, Bool.false_and])
  have hnone : (r.find? (holdsB r[i].queue tag)).isSome = false := by
    have : r.find? (holdsB r[i].queue tag) = none := by
      rw [List.find?_eq_none]
      intro x hx
      obtain ⟨k, hk, rfl⟩ := List.getElem_of_mem hx
      rw [hno k hk (by omega)]
      decide
    rw [this]; rfl
  have hE : tookE r client tag = if tag == 0 then 2 else 0 := by
    rw [tookE, hf']
    simp only
    rw [if_neg (by simpa using hm), if_neg (by rw [hnone]; decide)]
  refine ifK_of (fun h => err 2 w4 (by rw [hE, if_pos h]) (by decide) m4') (fun h => ?_)
  have hE : tookE r client tag = 0 := by rw [hE, if_neg (by rw [h]; decide)]
  -- the tags, one more
  have hTi := hT r[i] (List.getElem_mem hir)
  have b4 := m4.at' b3
  intro w5 e5
  have m5 : Mod no w4 w5 := by subst e5; exact Mod.alloc _ _
  have c5 : w5.heap[w4.heap.size]? = some (.cells #[] 27 (0, 0)) := by subst e5; exact new_at _ _
  clear e5
  have b5 := m5.at' b4
  have htags5 := (htags3.no m4).no m5
  refine ⟨ta, tl, tc, by rw [cl1 b5]; rfl, ?_⟩
  have hal := htags5.all (oneInt _)
  obtain ⟨p1, c1, w6, hrun, h6, m6, hn6⟩ := (Els.lit (oneInt .u64) c5 [] (by simp) (by simp)).push (P := Try.prog) (ty := 31) (cc := tc) (oneInt _) rowTag htl hal.1 hal.2 (by simp; omega)
  simp only [List.length_nil, Nat.zero_add, List.nil_append] at hrun h6
  refine ⟨_, w6, hrun, _, _, _, rfl, ?_⟩
  have hs4 := m4'.size
  have m6n : Mod no w4 w6 := m5.new m6 fun k hk => by simp [rowB] at hk; omega
  have hn6' : ∀ k, rowB p1 k → w4.heap.size ≤ k := fun k hk => by
    rcases hn6 k hk with h | h
    · simp [rowB] at h; omega
    · have := m5.size; omega
  intro w7 e7
  have m7 : Mod no w6 w7 := by subst e7; exact Mod.alloc _ _
  have c7 : w7.heap[w6.heap.size]? = some (.cells #[.int .u64 tag] 27 (0, 0)) := by subst e7; exact new_at _ _
  clear e7
  obtain ⟨p2, c2, w8, hrun, h8, m8, hn8⟩ := (h6.no m7).push1 (P := Try.prog) (ty := 31) (oneInt _) rowTag c7 (by omega)
  refine ⟨_, w8, hrun, _, _, _, rfl, ?_⟩
  have m8n : Mod no w4 w8 := (m6n.trans m7).new m8 hn6'
  have hn8' : ∀ k, rowB p2 k → w4.heap.size ≤ k := fun k hk => by
    rcases hn8 k hk with h | h
    · exact hn6' k h
    · have := (m6n.trans m7).size; omega
  have b8 := m8n.at' b4
  have hB4 := lt_of_heap b4
  refine ⟨⟨_, by rw [cl2 b8]; rfl⟩, fz2 b8 _ _, ?_⟩
  intro w9 e9
  have m9 : Mod (on B) w8 w9 := by subst e9; exact Mod.set2 _ _ _ _ _
  have b9 : w9.heap[B]? = some (.cells #[.int .i64 r[i].client, .string r[i].queue, .int .i64 r[i].most, .slice p2 (tl + 1) c2] 53 (0, 0)) := by subst e9; exact set2 b8 3 0 _
  clear e9
  have m9' : Mod no w w9 := (m4'.trans m8n).trans' m9 fun k hk hS => by cases hS; omega
  have h9 : Ints .u64 27 w9 p2 (tl + 1) c2 (r[i].tags ++ [tag]) := h8.mod m9 fun k hk hS => by cases hS; have := hn8' _ hk; omega
  have hins : Ins (r[i].tags ++ [tag]) 0 tl tl := by
    refine Ins.start fun p q h1 h2 h3 => ?_
    have := hTi.2 p q h1 h2 (by omega)
    rw [at0_eq (by omega), at0_eq (by omega)] at this
    rw [at0_eq (by simp; omega), at0_eq (by simp; omega), List.getElem_append_left (by omega), List.getElem_append_left (by omega)]
    exact this
  refine ⟨fun w' => ∃ zs : List Int, zs.Perm (r[i].tags ++ [tag]) ∧ Srt zs 0 (tl + 1) ∧ Ints .u64 27 w' p2 (tl + 1) c2 zs ∧ w'.heap[B]? = some (.cells #[.int .i64 r[i].client, .string r[i].queue, .int .i64 r[i].most, .slice p2 (tl + 1) c2] 53 (0, 0)) ∧ Mod no w w', ?_, ?_⟩
  · refine ⟨p2, tl + 1, c2, by rw [cl1 b9]; rfl, ?_⟩
    refine ⟨fun x w' => ∃ (j : Nat) (zs : List Int), x = j ∧ j ≤ tl ∧ zs.Perm (r[i].tags ++ [tag]) ∧ Ins zs 0 tl j ∧ Ints .u64 27 w' p2 (tl + 1) c2 zs ∧ w'.heap[B]? = some (.cells #[.int .i64 r[i].client, .string r[i].queue, .int .i64 r[i].most, .slice p2 (tl + 1) c2] 53 (0, 0)) ∧ Mod no w w', fun x _ => x.toNat,
      ⟨tl, _, by rw [wPred (i := tl + 1) (by omega) (by omega)]; rfl, Nat.le_refl _, .refl _, hins, h9, b9, m9'⟩, ?_⟩
    rintro _ _ w10 ⟨j, zs, rfl, hj, hperm, hins, h10, b10, m10⟩ w11 e11
    have m11 : Mod no w10 w11 := by subst e11; exact Mod.drew _
    clear e11
    have h11 := h10.no m11
    have b11 := m11.at' b10
    have m11' := m10.trans m11
    refine ifK_dec (fun hj0 => ?_) (fun hj0 => ⟨zs, hperm, hins.done (.inl (by omega)), h11, b11, m11'⟩)
    have hj0 : 0 < j := by omega
    rw [wPred (i := j) (by omega) hj0]
    refine ⟨p2, tl + 1, c2, by rw [cl1 b11]; rfl, h11.rd (j - 1) rfl (by omega) ⟨p2, tl + 1, c2, by rw [cl1 b11]; rfl, h11.rd j rfl (by omega) (ifK_dec (fun hgt => ?_) (fun hle => ⟨zs, hperm, hins.done (.inr (by clear hins; omega)), h11, b11, m11'⟩))⟩⟩
    intro w12 e12
    have m12 : Mod no w11 w12 := by subst e12; exact Mod.drew _
    clear e12
    have h12 := h11.no m12
    have b12 := m12.at' b11
    have hBp : ∀ k, rowB p2 k → B ≠ k := fun k hk e => by have := hn8' k hk; omega
    refine ⟨p2, tl + 1, c2, by rw [cl1 b12]; rfl, p2, tl + 1, c2, by rw [cl1 b12]; rfl, p2, tl + 1, c2, by rw [cl1 b12]; rfl, h12.rd j rfl (by omega) ⟨p2, tl + 1, c2, by rw [cl1 b12]; rfl, h12.rd (j - 1) rfl (by omega) (h12.wr (j - 1) rfl (by omega) _ fun w13 m13 h13 => ?_)⟩⟩
    have b13 := m13.at b12 fun hS => hBp _ hS rfl
    refine ⟨by rw [cl2 b13]; rfl, h13.wr j rfl (by omega) _ fun w14 m14 h14 => ?_⟩
    have b14 := m14.at b13 fun hS => hBp _ hS rfl
    have hlz := h12.lt (i := tl) (by omega)
    have esw : (zs.set (j - 1) (at0 zs j)).set j (at0 zs (j - 1)) = swapL zs j (j - 1) := (swapL_comm (xs := zs) (i := j - 1) (j := j) (by omega))
    rw [esw] at h14
    clear esw
    refine ⟨⟨j - 1, _, rfl, by omega, (swapL_perm (by omega) (by omega)).trans hperm, hins.step (by omega) hj0 hj hgt, h14, b14, (m11'.trans m12).new (m13.trans m14) fun k hk => by have := hn8' k hk; omega⟩, by simp only; omega⟩
  -- it goes to the line's end
  rintro _ w15 ⟨zs, hperm, hsrt, h15, b15, m15⟩
  have hdt := (hd0.tight.no m15)
  have hn15 := h15.blk
  refine dropR_ok d _ r client w15 hdt (by omega) _ (fun hn => absurd (hn.symm.trans hf) (by simp)) (fun i' hi' hf2 w16 ta' tl' tc' m16 hd16 _ _ => ?_)
  have : i' = i := by
    rw [hf] at hf2
    exact (Option.some.inj hf2).symm
  subst this
  refine ⟨_, _, _, _, _, _, _, rfl, ?_⟩
  intro w17 e17
  have m17 : Mod no w16 w17 := by subst e17; exact Mod.drew _
  clear e17
  obtain ⟨a7, l7, c7, xs7, hc7, hr7, hx7, hF7, ha7⟩ := hd16.no m17
  have hBd : B ≠ d := by omega
  have b17 := m17.at' (m16.at b15 hBd)
  have hs15 := m15.size
  have hs16 := m16.size
  have hs17 := m17.size
  have hl7 := hr7.len
  have hlen7 := hx7.len
  refine ⟨a7, l7, c7, by rw [cl1 hc7]; rfl, r[i'].client, by rw [cl1 b17]; rfl, r[i'].queue, by rw [cl1 b17]; rfl, r[i'].most, by rw [cl1 b17]; rfl, p2, tl + 1, c2, by rw [cl1 b17]; rfl, ?_⟩
  intro w18 e18
  have m18 : Mod no w17 w18 := by subst e18; exact Mod.alloc _ _
  have b18 : w18.heap[w17.heap.size]? = some (.cells #[.int .i64 r[i'].client, .string r[i'].queue, .int .i64 r[i'].most, .slice p2 (tl + 1) c2] 53 (0, 0)) := by subst e18; exact new_at _ _
  clear e18
  have hc18 := m18.at' hc7
  refine ⟨by rw [cl2 hc18]; rfl, ?_⟩
  have hl7n : l7 < 549755813888 := by
    have : (r.take i' ++ r.drop (i' + 1)).length ≤ r.length := by simp; omega
    omega
  obtain ⟨a8, c8, w19, hrun, hr19, m19, hn19⟩ := (hr7.no m18).push (P := Try.prog) (ty := 42) rowOne (b := some ⟨w17.heap.size, 0, none⟩) (m := 1) (cc := 1) (ys := [⟨r[i'].client, r[i'].queue, r[i'].most, p2, tl + 1, c2⟩]) rfl
    (fun ad had j v hj => by cases had; rw [cl1 b18]; simpa [rawL] using hj) (fun h => by cases h) (by omega)
  refine ⟨_, w19, hrun, _, _, _, rfl, ?_⟩
  have hc19 := m19.at hc18 fun hS => (ha7 d hS).2 rfl
  refine ⟨⟨_, by rw [cl2 hc19]; rfl⟩, fz2 hc19 _ _, ?_⟩
  intro w20 e20
  have m20 : Mod (on d) w19 w20 := by subst e20; exact Mod.set2 _ _ _ _ _
  have b20 : w20.heap[d]? = some (.cells #[.slice a8 (l7 + 1) c8] 44 (0, 0)) := by subst e20; exact set2 hc19 0 0 _
  clear e20
  have hzl := h15.len.1
  have mAll : Mod F w w20 := by
    have m1 : Mod (on d) w w16 := m15.no_trans m16
    have m2 : Mod F w w18 := ((m1.trans_no m17).trans_no m18).mono fun k _ hk => by cases hk; exact hF
    have m3 : Mod F w w19 := m2.trans' m19 fun k hk hS => by
      rcases (ha7 k hS).1 with h | h
      · exact h.1
      · omega
    exact m3.trans (m20.mono fun k _ hk => by cases hk; exact hF)
  refine h1 i' hir hf hE w20 zs hperm (by rw [hzl]; exact hsrt) mAll ?_
  have ha8 : ∀ k, rowB a8 k → rowB a7 k ∨ w18.heap.size ≤ k := hn19
  have hs18 := m18.size
  have hdw : d < w18.heap.size := by omega
  refine RD.renew hF b20 (hr19.mod m20 fun k hk hS => ?_) ?_ fun k hk => ⟨?_, fun e => ?_⟩
  · cases hS
    rcases ha8 _ hk with h | h
    · exact (ha7 _ h).2 rfl
    · omega
  · refine AllAt.append ?_ (.one ⟨rfl, rfl, rfl, ?_, fun k hk => ⟨.inr ?_, fun e => ?_, fun hk2 => ?_⟩⟩)
    · refine ⟨hx7.len, fun q h1 h2 => ?_⟩
      have hxq := hx7.get q h1 h2
      have hblk := hxq.tags.blk
      have mU : Mod (fun k => rowB a7 k ∨ k = d) w17 w20 := (m18.of_no.trans (m19.mono fun k _ h => .inl h)).trans (m20.mono fun k _ h => .inr h)
      refine hxq.mod mU (fun k hk hS => ?_) fun k hk => ⟨?_, (hxq.fp k hk).2.1, fun hk2 => ?_⟩
      · rcases hS with h | h
        · exact (hxq.fp k hk).2.2 h
        · exact (hxq.fp k hk).2.1 h
      · rcases (hxq.fp k hk).1 with h | h
        · exact .inl h.1
        · exact .inr (by omega)
      · rcases ha8 k hk2 with h | h
        · exact (hxq.fp k hk).2.2 h
        · have := hblk k hk; omega
    · refine (((h15.mod m16 fun k hk hS => ?_).no m17).no m18 |>.mod m19 fun k hk hS => ?_).mod m20 fun k hk hS => ?_
      · cases hS; have := hn8' _ hk; omega
      · rcases (ha7 k hS).1 with h | h
        · have := hn8' k hk; omega
        · have := hn15 k hk; omega
      · cases hS; have := hn8' _ hk; omega
    · have := hn8' k hk; omega
    · subst e; have := hn8' _ hk; omega
    · rcases ha8 k hk2 with h | h
      · rcases (ha7 k h).1 with h | h
        · have := hn8' k hk; omega
        · have := hn15 k hk; omega
      · have := hn15 k hk; omega
  · rcases ha8 k hk with h | h
    · rcases (ha7 k h).1 with h | h
      · exact .inl h.1
      · exact .inr (by omega)
    · exact .inr (by omega)
  · subst e
    rcases ha8 _ hk with h | h
    · exact (ha7 _ h).2 rfl
    · omega
end Go.Proofs.Ytmnbnjkbbhjocaa

/- The formulas of functions, printed by a program of mine (gen.py) out of the translation. -/
namespace Go.Proofs.Ytmnbnjkbbhjocaa
open Go Go.Proofs.Ytmnbnjkbbhjocaa.St
set_option maxRecDepth 100000

/-- staith/staithlaw17.act -/
noncomputable def C16 : Code := (Try.f16.body).getD .skip
def pl16 : Nat → Plan
  | 3 => (.quiet 0 (.quiet 1 (.quiet 2 (.quiet 3 (.quiet 4 (.quiet 5 (.quiet 6 (.quiet 8 (.quiet 9 (.quiet 10 (.quiet 11 (.quiet 12 (.quiet 13 (.quiet 14 (.eff 7 [10, 12, 14] (.eff 15 [] (.quiet 16 (.quiet 17 .done))))))))))))))))))
  | 14 => (.quiet 0 (.quiet 1 (.quiet 2 (.quiet 3 (.quiet 4 (.quiet 5 (.quiet 6 (.quiet 7 (.quiet 9 (.quiet 10 (.quiet 11 (.quiet 12 (.eff 8 [12] (.eff 13 [] (.quiet 14 (.quiet 15 (.quiet 16 .done)))))))))))))))))
  | 16 => (.quiet 0 (.quiet 1 (.quiet 2 (.quiet 3 (.quiet 4 (.quiet 6 (.quiet 7 (.quiet 8 (.quiet 9 (.quiet 10 (.eff 5 [8, 10] (.eff 11 [] (.quiet 12 (.quiet 13 .done))))))))))))))
  | 22 => (.quiet 0 (.quiet 1 (.quiet 2 (.quiet 4 (.quiet 5 (.quiet 6 (.eff 3 [6] (.eff 7 [] (.eff 8 [] (.quiet 9 .done))))))))))
  | _ => .done
def ls16 : Nat → List (Nat × LT) := fun _ => []
def W16 (d : Option Addr) (r : Option Addr) (a0_ : Int) (a1_ : Int) (a2_ : ByteArray) (a3_ : Int) (a4_ : Int) (w : World) (R : Value → World → Prop) : Prop :=
  (atW (World.alloc w (Obj.cells (Array.mk [Value.int IntKind.i64 a0_, Value.int IntKind.i64 a1_, Value.string a2_, Value.int IntKind.i64 a3_, Value.int IntKind.u64 a4_]) 47 (0, 0))) (fun w0 =>
    (∃ x1 : Int, ((World.cell? w0 (Addr.add (Addr.mk (Array.size (World.heap w)) 0 none) 0) = some (Value.int IntKind.i64 x1)) ∧ (ifK (x1 == 0)
      (atW (World.drew w0) (fun w2 =>
        (∃ x3 : Int, ((World.cell? w2 (Addr.add (Addr.mk (Array.size (World.heap w)) 0 none) 1) = some (Value.int IntKind.i64 x3)) ∧ (∃ s4 : ByteArray, ((World.cell? w2 (Addr.add (Addr.mk (Array.size (World.heap w)) 0 none) 2) = some (Value.string s4)) ∧ (∃ x5 : Int, ((World.cell? w2 (Addr.add (Addr.mk (Array.size (World.heap w)) 0 none) 3) = some (Value.int IntKind.i64 x5)) ∧ (∃ x6 : Int, ((World.cell? w2 (Addr.add (Addr.mk (Array.size (World.heap w)) 0 none) 1) = some (Value.int IntKind.i64 x6)) ∧ (∃ s7 : ByteArray, ((World.cell? w2 (Addr.add (Addr.mk (Array.size (World.heap w)) 0 none) 2) = some (Value.string s7)) ∧ (∃ x8 : Int, ((World.cell? w2 (Addr.add (Addr.mk (Array.size (World.heap w)) 0 none) 3) = some (Value.int IntKind.i64 x8)) ∧ (Ca Try.prog (9) (Array.mk [Value.pointer d, Value.int IntKind.i64 x3, Value.string s4, Value.int IntKind.i64 x5]) (w2) (fun v9 => (fun w10 =>
          (∃ x11 : Int, ((v9 = Value.int IntKind.i64 x11) ∧ ((World.cell? w10 (Addr.add (Addr.add (Addr.mk (Array.size (World.heap w)) 0 none) 1) 0) = some (Value.int IntKind.i64 x6)) ∧ ((World.cell? w10 (Addr.add (Addr.add (Addr.mk (Array.size (World.heap w)) 0 none) 2) 0) = some (Value.string s7)) ∧ ((World.cell? w10 (Addr.add (Addr.add (Addr.mk (Array.size (World.heap w)) 0 none) 3) 0) = some (Value.int IntKind.i64 x8)) ∧ (Ca Try.prog (35) (Array.mk [Value.pointer r, Value.int IntKind.i64 x6, Value.string s7, Value.int IntKind.i64 x8]) (w10) (fun v12 => (fun w13 =>
            (∃ x14 : Int, ((v12 = Value.int IntKind.i64 x14) ∧ (R (Value.bool (x11 == x14)) (w13)))))))))))))))))))))))))))))
      (ifK (x1 == 1)
        (∃ x15 : Int, ((World.cell? w0 (Addr.add (Addr.mk (Array.size (World.heap w)) 0 none) 1) = some (Value.int IntKind.i64 x15)) ∧ (Ca Try.prog (12) (Array.mk [Value.pointer d, Value.int IntKind.i64 x15]) (w0) (fun v16 => (fun w17 =>
          (∃ s18 : ByteArray, (∃ p19 : Option Addr, (∃ n20 : Nat, (∃ n21 : Nat, (∃ x22 : Int, ((v16 = Value.tuple (Array.mk (List.reverse [Value.int IntKind.i64 x22, Value.agg (Array.mk (List.reverse [Value.slice p19 n20 n21, Value.string s18]))]))) ∧ (atW (World.alloc w17 (Obj.cells (Array.mk [Value.string (ByteArray.mk #[]), Value.slice none 0 0]) 33 (0, 0))) (fun w23 =>
            ((∃ v24 : Value, (World.cell? w23 (Addr.add (Addr.mk (Array.size (World.heap w17)) 0 none) 0) = some v24)) ∧ ((World.frozen? w23 (Addr.add (Addr.mk (Array.size (World.heap w17)) 0 none) 0) = false) ∧ (atW (World.setCell w23 (Addr.add (Addr.mk (Array.size (World.heap w17)) 0 none) 0) (Value.string s18)) (fun w25 =>
              ((∃ v26 : Value, (World.cell? w25 (Addr.add (Addr.mk (Array.size (World.heap w17)) 0 none) 1) = some v26)) ∧ ((World.frozen? w25 (Addr.add (Addr.mk (Array.size (World.heap w17)) 0 none) 1) = false) ∧ (atW (World.setCell w25 (Addr.add (Addr.mk (Array.size (World.heap w17)) 0 none) 1) (Value.slice p19 n20 n21)) (fun w27 =>
                (∃ x28 : Int, ((World.cell? w27 (Addr.add (Addr.mk (Array.size (World.heap w)) 0 none) 1) = some (Value.int IntKind.i64 x28)) ∧ (Ca Try.prog (36) (Array.mk [Value.pointer r, Value.int IntKind.i64 x28]) (w27) (fun v29 => (fun w30 =>
                  (∃ x31 : Int, (∃ s32 : ByteArray, (∃ x33 : Int, (∃ p34 : Option Addr, (∃ n35 : Nat, (∃ n36 : Nat, (∃ x37 : Int, ((v29 = Value.tuple (Array.mk (List.reverse [Value.int IntKind.i64 x37, Value.agg (Array.mk (List.reverse [Value.slice p34 n35 n36, Value.int IntKind.i64 x33, Value.string s32, Value.int IntKind.i64 x31]))]))) ∧ (atW (World.alloc w30 (Obj.cells (Array.mk [Value.int IntKind.i64 0, Value.string (ByteArray.mk #[]), Value.int IntKind.i64 0, Value.slice none 0 0]) 53 (0, 0))) (fun w38 =>
                    ((∃ v39 : Value, (World.cell? w38 (Addr.add (Addr.mk (Array.size (World.heap w30)) 0 none) 0) = some v39)) ∧ ((World.frozen? w38 (Addr.add (Addr.mk (Array.size (World.heap w30)) 0 none) 0) = false) ∧ (atW (World.setCell w38 (Addr.add (Addr.mk (Array.size (World.heap w30)) 0 none) 0) (Value.int IntKind.i64 x31)) (fun w40 =>
                      ((∃ v41 : Value, (World.cell? w40 (Addr.add (Addr.mk (Array.size (World.heap w30)) 0 none) 1) = some v41)) ∧ ((World.frozen? w40 (Addr.add (Addr.mk (Array.size (World.heap w30)) 0 none) 1) = false) ∧ (atW (World.setCell w40 (Addr.add (Addr.mk (Array.size (World.heap w30)) 0 none) 1) (Value.string s32)) (fun w42 =>
                        ((∃ v43 : Value, (World.cell? w42 (Addr.add (Addr.mk (Array.size (World.heap w30)) 0 none) 2) = some v43)) ∧ ((World.frozen? w42 (Addr.add (Addr.mk (Array.size (World.heap w30)) 0 none) 2) = false) ∧ (atW (World.setCell w42 (Addr.add (Addr.mk (Array.size (World.heap w30)) 0 none) 2) (Value.int IntKind.i64 x33)) (fun w44 =>
                          ((∃ v45 : Value, (World.cell? w44 (Addr.add (Addr.mk (Array.size (World.heap w30)) 0 none) 3) = some v45)) ∧ ((World.frozen? w44 (Addr.add (Addr.mk (Array.size (World.heap w30)) 0 none) 3) = false) ∧ (atW (World.setCell w44 (Addr.add (Addr.mk (Array.size (World.heap w30)) 0 none) 3) (Value.slice p34 n35 n36)) (fun w46 =>
                            (∃ s47 : ByteArray, ((World.cell? w46 (Addr.add (Addr.mk (Array.size (World.heap w17)) 0 none) 0) = some (Value.string s47)) ∧ (∃ s48 : ByteArray, ((World.cell? w46 (Addr.add (Addr.mk (Array.size (World.heap w30)) 0 none) 1) = some (Value.string s48)) ∧ (ifK (ByteArray.toList s47 == ByteArray.toList s48)
                              (∃ p49 : Option Addr, (∃ n50 : Nat, (∃ n51 : Nat, ((World.cell? w46 (Addr.add (Addr.mk (Array.size (World.heap w17)) 0 none) 1) = some (Value.slice p49 n50 n51)) ∧ (∃ p52 : Option Addr, (∃ n53 : Nat, (∃ n54 : Nat, ((World.cell? w46 (Addr.add (Addr.mk (Array.size (World.heap w30)) 0 none) 3) = some (Value.slice p52 n53 n54)) ∧ (Ca Try.prog (21) (Array.mk [Value.slice p49 n50 n51, Value.slice p52 n53 n54]) (w46) (fun v55 => (fun w56 =>
                                (∃ b57 : Bool, ((v55 = Value.bool b57) ∧ (ifK (b57)
                                  (R (Value.bool (x22 == x37)) (w56))
                                  (R (Value.bool false) (w56))))))))))))))))
                              (R (Value.bool false) (w46)))))))))))))))))))))))))))))))))))))))))))))))))))))))))))
        (ifK (x1 == 2)
          (∃ s58 : ByteArray, ((World.cell? w0 (Addr.add (Addr.mk (Array.size (World.heap w)) 0 none) 2) = some (Value.string s58)) ∧ (Ca Try.prog (10) (Array.mk [Value.pointer d, Value.string s58]) (w0) (fun v59 => (fun w60 =>
            (∃ x61 : Int, (∃ b62 : Bool, ((v59 = Value.tuple (Array.mk (List.reverse [Value.bool b62, Value.int IntKind.i64 x61]))) ∧ (∃ s63 : ByteArray, ((World.cell? w60 (Addr.add (Addr.mk (Array.size (World.heap w)) 0 none) 2) = some (Value.string s63)) ∧ (Ca Try.prog (37) (Array.mk [Value.pointer r, Value.string s63]) (w60) (fun v64 => (fun w65 =>
              (∃ x66 : Int, (∃ b67 : Bool, ((v64 = Value.tuple (Array.mk (List.reverse [Value.bool b67, Value.int IntKind.i64 x66]))) ∧ (ifK (x61 != x66)
                (R (Value.bool false) (w65))
                (ifK (!b62 == b67)
                  (R (Value.bool false) (w65))
                  (atW (World.drew w65) (fun w68 =>
                    (∃ x69 : Int, ((World.cell? w68 (Addr.add (Addr.mk (Array.size (World.heap w)) 0 none) 0) = some (Value.int IntKind.i64 x69)) ∧ (ifK (x69 == 2)
                      (R (Value.bool true) (w68))
                      (∃ x70 : Int, ((World.cell? w68 (Addr.add (Addr.mk (Array.size (World.heap w)) 0 none) 4) = some (Value.int IntKind.u64 x70)) ∧ (∃ x71 : Int, ((World.cell? w68 (Addr.add (Addr.mk (Array.size (World.heap w)) 0 none) 4) = some (Value.int IntKind.u64 x71)) ∧ (Ca Try.prog (11) (Array.mk [Value.pointer d, Value.int IntKind.i64 x61, Value.int IntKind.u64 x70]) (w68) (fun v72 => (fun w73 =>
                        (∃ x74 : Int, ((v72 = Value.int IntKind.i64 x74) ∧ ((World.cell? w73 (Addr.add (Addr.add (Addr.mk (Array.size (World.heap w)) 0 none) 4) 0) = some (Value.int IntKind.u64 x71)) ∧ (Ca Try.prog (38) (Array.mk [Value.pointer r, Value.int IntKind.i64 x61, Value.int IntKind.u64 x71]) (w73) (fun v75 => (fun w76 =>
                          (∃ x77 : Int, ((v75 = Value.int IntKind.i64 x77) ∧ (R (Value.bool (x74 == x77)) (w76))))))))))))))))))))))))))))))))))))))))
          (ifK (x1 == 6)
            (∃ s78 : ByteArray, ((World.cell? w0 (Addr.add (Addr.mk (Array.size (World.heap w)) 0 none) 2) = some (Value.string s78)) ∧ (Ca Try.prog (10) (Array.mk [Value.pointer d, Value.string s78]) (w0) (fun v79 => (fun w80 =>
              (∃ x81 : Int, (∃ b82 : Bool, ((v79 = Value.tuple (Array.mk (List.reverse [Value.bool b82, Value.int IntKind.i64 x81]))) ∧ (∃ s83 : ByteArray, ((World.cell? w80 (Addr.add (Addr.mk (Array.size (World.heap w)) 0 none) 2) = some (Value.string s83)) ∧ (Ca Try.prog (37) (Array.mk [Value.pointer r, Value.string s83]) (w80) (fun v84 => (fun w85 =>
                (∃ x86 : Int, (∃ b87 : Bool, ((v84 = Value.tuple (Array.mk (List.reverse [Value.bool b87, Value.int IntKind.i64 x86]))) ∧ (ifK (x81 != x86)
                  (R (Value.bool false) (w85))
                  (ifK (!b82 == b87)
                    (R (Value.bool false) (w85))
                    (atW (World.drew w85) (fun w88 =>
                      (∃ x89 : Int, ((World.cell? w88 (Addr.add (Addr.mk (Array.size (World.heap w)) 0 none) 0) = some (Value.int IntKind.i64 x89)) ∧ (ifK (x89 == 2)
                        (R (Value.bool true) (w88))
                        (∃ x90 : Int, ((World.cell? w88 (Addr.add (Addr.mk (Array.size (World.heap w)) 0 none) 4) = some (Value.int IntKind.u64 x90)) ∧ (∃ x91 : Int, ((World.cell? w88 (Addr.add (Addr.mk (Array.size (World.heap w)) 0 none) 4) = some (Value.int IntKind.u64 x91)) ∧ (Ca Try.prog (11) (Array.mk [Value.pointer d, Value.int IntKind.i64 x81, Value.int IntKind.u64 x90]) (w88) (fun v92 => (fun w93 =>
                          (∃ x94 : Int, ((v92 = Value.int IntKind.i64 x94) ∧ ((World.cell? w93 (Addr.add (Addr.add (Addr.mk (Array.size (World.heap w)) 0 none) 4) 0) = some (Value.int IntKind.u64 x91)) ∧ (Ca Try.prog (38) (Array.mk [Value.pointer r, Value.int IntKind.i64 x81, Value.int IntKind.u64 x91]) (w93) (fun v95 => (fun w96 =>
                            (∃ x97 : Int, ((v95 = Value.int IntKind.i64 x97) ∧ (R (Value.bool (x94 == x97)) (w96))))))))))))))))))))))))))))))))))))))))
            (ifK (x1 == 3)
              (atW (World.drew w0) (fun w98 =>
                (∃ x99 : Int, ((World.cell? w98 (Addr.add (Addr.mk (Array.size (World.heap w)) 0 none) 1) = some (Value.int IntKind.i64 x99)) ∧ (∃ x100 : Int, ((World.cell? w98 (Addr.add (Addr.mk (Array.size (World.heap w)) 0 none) 4) = some (Value.int IntKind.u64 x100)) ∧ (∃ x101 : Int, ((World.cell? w98 (Addr.add (Addr.mk (Array.size (World.heap w)) 0 none) 1) = some (Value.int IntKind.i64 x101)) ∧ (∃ x102 : Int, ((World.cell? w98 (Addr.add (Addr.mk (Array.size (World.heap w)) 0 none) 4) = some (Value.int IntKind.u64 x102)) ∧ (Ca Try.prog (11) (Array.mk [Value.pointer d, Value.int IntKind.i64 x99, Value.int IntKind.u64 x100]) (w98) (fun v103 => (fun w104 =>
                  (∃ x105 : Int, ((v103 = Value.int IntKind.i64 x105) ∧ ((World.cell? w104 (Addr.add (Addr.add (Addr.mk (Array.size (World.heap w)) 0 none) 1) 0) = some (Value.int IntKind.i64 x101)) ∧ ((World.cell? w104 (Addr.add (Addr.add (Addr.mk (Array.size (World.heap w)) 0 none) 4) 0) = some (Value.int IntKind.u64 x102)) ∧ (Ca Try.prog (38) (Array.mk [Value.pointer r, Value.int IntKind.i64 x101, Value.int IntKind.u64 x102]) (w104) (fun v106 => (fun w107 =>
                    (∃ x108 : Int, ((v106 = Value.int IntKind.i64 x108) ∧ (R (Value.bool (x105 == x108)) (w107))))))))))))))))))))))))
              (ifK (x1 == 4)
                (∃ x109 : Int, ((World.cell? w0 (Addr.add (Addr.mk (Array.size (World.heap w)) 0 none) 1) = some (Value.int IntKind.i64 x109)) ∧ (∃ x110 : Int, ((World.cell? w0 (Addr.add (Addr.mk (Array.size (World.heap w)) 0 none) 4) = some (Value.int IntKind.u64 x110)) ∧ (Ca Try.prog (22) (Array.mk [Value.pointer d, Value.int IntKind.i64 x109, Value.int IntKind.u64 x110]) (w0) (fun v111 => (fun w112 =>
                  (∃ s113 : ByteArray, (∃ x114 : Int, ((v111 = Value.tuple (Array.mk (List.reverse [Value.int IntKind.i64 x114, Value.string s113]))) ∧ (∃ x115 : Int, ((World.cell? w112 (Addr.add (Addr.mk (Array.size (World.heap w)) 0 none) 1) = some (Value.int IntKind.i64 x115)) ∧ (∃ x116 : Int, ((World.cell? w112 (Addr.add (Addr.mk (Array.size (World.heap w)) 0 none) 4) = some (Value.int IntKind.u64 x116)) ∧ (Ca Try.prog (39) (Array.mk [Value.pointer r, Value.int IntKind.i64 x115, Value.int IntKind.u64 x116]) (w112) (fun v117 => (fun w118 =>
                    (∃ s119 : ByteArray, (∃ x120 : Int, ((v117 = Value.tuple (Array.mk (List.reverse [Value.int IntKind.i64 x120, Value.string s119]))) ∧ (ifK (ByteArray.toList s113 == ByteArray.toList s119)
                      (R (Value.bool (x114 == x120)) (w118))
                      (R (Value.bool false) (w118)))))))))))))))))))))))
                (ifK (x1 == 5)
                  (atW (World.drew w0) (fun w121 =>
                    (∃ s122 : ByteArray, ((World.cell? w121 (Addr.add (Addr.mk (Array.size (World.heap w)) 0 none) 2) = some (Value.string s122)) ∧ (∃ s123 : ByteArray, ((World.cell? w121 (Addr.add (Addr.mk (Array.size (World.heap w)) 0 none) 2) = some (Value.string s123)) ∧ (Ca Try.prog (23) (Array.mk [Value.pointer d, Value.string s122]) (w121) (fun v124 => (fun w125 =>
                      (∃ p126 : Option Addr, (∃ n127 : Nat, (∃ n128 : Nat, ((v124 = Value.slice p126 n127 n128) ∧ ((World.cell? w125 (Addr.add (Addr.add (Addr.mk (Array.size (World.heap w)) 0 none) 2) 0) = some (Value.string s123)) ∧ (Ca Try.prog (40) (Array.mk [Value.pointer r, Value.string s123]) (w125) (fun v129 => (fun w130 =>
                        (∃ p131 : Option Addr, (∃ n132 : Nat, (∃ n133 : Nat, ((v129 = Value.slice p131 n132 n133) ∧ (Ca Try.prog (17) (Array.mk [Value.slice p126 n127 n128, Value.slice p131 n132 n133]) (w130) (fun v134 => (fun w135 =>
                          (∃ b136 : Bool, ((v134 = Value.bool b136) ∧ (R (Value.bool b136) (w135))))))))))))))))))))))))))))
                  (R (Value.bool true) (w0)))))))))))))
theorem ca16 (d : Option Addr) (r : Option Addr) (a0_ : Int) (a1_ : Int) (a2_ : ByteArray) (a3_ : Int) (a4_ : Int) (w : World) (R : Value → World → Prop) (h : W16 d r a0_ a1_ a2_ a3_ a4_ w R) : Ca Try.prog 16 ⟨[(.pointer d), (.pointer r), (.agg ⟨[(.int .i64 a0_), (.int .i64 a1_), (.string a2_), (.int .i64 a3_), (.int .u64 a4_)]⟩)]⟩ w R := by
  have h1 : Try.prog.follows .mixedOrders = true := by kernel_rfl
  have h2 : Try.f16.body = some C16 := by kernel_rfl
  have h3 : (Try.f16.name == "runtime.NumGoroutine") = false := by kernel_rfl
  have h6 : Try.f16.results.toList = [.tmp 6] := by kernel_rfl
  have h4 : Nat.ble 3 168 = true := by kernel_rfl
  have h5 : okCode 168 pl16 ls16 C16 0 = true := by kernel_rfl
  have e : W16 d r a0_ a1_ a2_ a3_ a4_ w R = wpC none Try.prog 168 pl16 ls16 C16 0 (endP Try.prog [.tmp 6] R) (fr0 [(.pointer d), (.pointer r), (.agg ⟨[(.int .i64 a0_), (.int .i64 a1_), (.string a2_), (.int .i64 a3_), (.int .u64 a4_)]⟩)]) [] w := by kernel_rfl
  exact ca_of' (P := Try.prog) (g := 16) (fn := Try.f16) (c := C16) (m := 168) (rs := [.tmp 6]) (args := [(.pointer d), (.pointer r), (.agg ⟨[(.int .i64 a0_), (.int .i64 a1_), (.string a2_), (.int .i64 a3_), (.int .u64 a4_)]⟩)]) (pl := pl16) (ls := ls16) (w := w) (R := R) h1 Try.func16 h2 Try.ntmps16 h6 h3 h4 h5 (Eq.mp e h)

/-- staith/staithlaw17.tags -/
noncomputable def C21 : Code := (Try.f21.body).getD .skip
def pl21 : Nat → Plan
  | 6 => (.quiet 0 (.quiet 1 (.quiet 2 (.quiet 3 (.quiet 4 (.quiet 5 (.quiet 6 (.quiet 7 (.quiet 8 .done)))))))))
  | _ => .done
def ls21 : Nat → List (Nat × LT)
  | 6 => [(13, (.one (.int .i64)))]
  | _ => []
def W21 (a_a : Option Addr) (a_l : Nat) (_a_c : Nat) (ba : Option Addr) (bl : Nat) (_bc : Nat) (w : World) (R : Value → World → Prop) : Prop :=
  (ifK ((↑a_l : Int) != (↑bl : Int))
    (R (Value.bool false) (w))
    (∃ z0 : Int → World → Prop, (∃ z1 : Int → World → Nat, ((z0 (0) (w)) ∧ (∀ (_ : Nat → Value), (∀ (x3 : Int), (∀ (w4 : World), ((z0 (x3) (w4)) → (ifK (decide (x3 < (↑a_l : Int)))
      (atW (World.drew w4) (fun w5 =>
        (∃ a6 : Addr, ((a_a = some a6) ∧ (((0 : Int) ≤ x3) ∧ (((x3 : Int) < (↑a_l : Int)) ∧ (∃ x7 : Int, ((World.cell? w5 (Addr.add a6 (Int.toNat x3 * 1)) = some (Value.int IntKind.u64 x7)) ∧ (∃ a8 : Addr, ((ba = some a8) ∧ (((0 : Int) ≤ x3) ∧ (((x3 : Int) < (↑bl : Int)) ∧ (∃ x9 : Int, ((World.cell? w5 (Addr.add a8 (Int.toNat x3 * 1)) = some (Value.int IntKind.u64 x9)) ∧ (ifK (x7 != x9)
          (R (Value.bool false) (w5))
          ((z0 (IntKind.wrap IntKind.i64 (x3 + 1)) (w5)) ∧ (z1 (IntKind.wrap IntKind.i64 (x3 + 1)) w5 < z1 x3 w4)))))))))))))))))
      (R (Value.bool true) (w4)))))))))))
theorem ca21 (a_a : Option Addr) (a_l : Nat) (a_c : Nat) (ba : Option Addr) (bl : Nat) (bc : Nat) (w : World) (R : Value → World → Prop) (h : W21 a_a a_l a_c ba bl bc w R) : Ca Try.prog 21 ⟨[(.slice a_a a_l a_c), (.slice ba bl bc)]⟩ w R := by
  have h1 : Try.prog.follows .mixedOrders = true := by kernel_rfl
  have h2 : Try.f21.body = some C21 := by kernel_rfl
  have h3 : (Try.f21.name == "runtime.NumGoroutine") = false := by kernel_rfl
  have h6 : Try.f21.results.toList = [.tmp 4] := by kernel_rfl
  have h4 : Nat.ble 2 26 = true := by kernel_rfl
  have h5 : okCode 26 pl21 ls21 C21 0 = true := by kernel_rfl
  have e : W21 a_a a_l a_c ba bl bc w R = wpC none Try.prog 26 pl21 ls21 C21 0 (endP Try.prog [.tmp 4] R) (fr0 [(.slice a_a a_l a_c), (.slice ba bl bc)]) [] w := by kernel_rfl
  exact ca_of' (P := Try.prog) (g := 21) (fn := Try.f21) (c := C21) (m := 26) (rs := [.tmp 4]) (args := [(.slice a_a a_l a_c), (.slice ba bl bc)]) (pl := pl21) (ls := ls21) (w := w) (R := R) h1 Try.func21 h2 Try.ntmps21 h6 h3 h4 h5 (Eq.mp e h)

/-- staith/staithref01.Ints -/
noncomputable def C17 : Code := (Try.f17.body).getD .skip
def pl17 : Nat → Plan
  | 6 => (.quiet 0 (.quiet 1 (.quiet 2 (.quiet 3 (.quiet 4 (.quiet 5 (.quiet 6 (.quiet 7 (.quiet 8 .done)))))))))
  | _ => .done
def ls17 : Nat → List (Nat × LT)
  | 6 => [(13, (.one (.int .i64)))]
  | _ => []
def W17 (a_a : Option Addr) (a_l : Nat) (_a_c : Nat) (ba : Option Addr) (bl : Nat) (_bc : Nat) (w : World) (R : Value → World → Prop) : Prop :=
  (ifK ((↑a_l : Int) != (↑bl : Int))
    (R (Value.bool false) (w))
    (∃ z0 : Int → World → Prop, (∃ z1 : Int → World → Nat, ((z0 (0) (w)) ∧ (∀ (_ : Nat → Value), (∀ (x3 : Int), (∀ (w4 : World), ((z0 (x3) (w4)) → (ifK (decide (x3 < (↑a_l : Int)))
      (atW (World.drew w4) (fun w5 =>
        (∃ a6 : Addr, ((a_a = some a6) ∧ (((0 : Int) ≤ x3) ∧ (((x3 : Int) < (↑a_l : Int)) ∧ (∃ x7 : Int, ((World.cell? w5 (Addr.add a6 (Int.toNat x3 * 1)) = some (Value.int IntKind.i64 x7)) ∧ (∃ a8 : Addr, ((ba = some a8) ∧ (((0 : Int) ≤ x3) ∧ (((x3 : Int) < (↑bl : Int)) ∧ (∃ x9 : Int, ((World.cell? w5 (Addr.add a8 (Int.toNat x3 * 1)) = some (Value.int IntKind.i64 x9)) ∧ (ifK (x7 != x9)
          (R (Value.bool false) (w5))
          ((z0 (IntKind.wrap IntKind.i64 (x3 + 1)) (w5)) ∧ (z1 (IntKind.wrap IntKind.i64 (x3 + 1)) w5 < z1 x3 w4)))))))))))))))))
      (R (Value.bool true) (w4)))))))))))
theorem ca17 (a_a : Option Addr) (a_l : Nat) (a_c : Nat) (ba : Option Addr) (bl : Nat) (bc : Nat) (w : World) (R : Value → World → Prop) (h : W17 a_a a_l a_c ba bl bc w R) : Ca Try.prog 17 ⟨[(.slice a_a a_l a_c), (.slice ba bl bc)]⟩ w R := by
  have h1 : Try.prog.follows .mixedOrders = true := by kernel_rfl
  have h2 : Try.f17.body = some C17 := by kernel_rfl
  have h3 : (Try.f17.name == "runtime.NumGoroutine") = false := by kernel_rfl
  have h6 : Try.f17.results.toList = [.tmp 4] := by kernel_rfl
  have h4 : Nat.ble 2 26 = true := by kernel_rfl
  have h5 : okCode 26 pl17 ls17 C17 0 = true := by kernel_rfl
  have e : W17 a_a a_l a_c ba bl bc w R = wpC none Try.prog 26 pl17 ls17 C17 0 (endP Try.prog [.tmp 4] R) (fr0 [(.slice a_a a_l a_c), (.slice ba bl bc)]) [] w := by kernel_rfl
  exact ca_of' (P := Try.prog) (g := 17) (fn := Try.f17) (c := C17) (m := 26) (rs := [.tmp 4]) (args := [(.slice a_a a_l a_c), (.slice ba bl bc)]) (pl := pl17) (ls := ls17) (w := w) (R := R) h1 Try.func17 h2 Try.ntmps17 h6 h3 h4 h5 (Eq.mp e h)

/-- staith/staithlaw17.light -/
noncomputable def C15 : Code := (Try.f15.body).getD .skip
def pl15 : Nat → Plan := fun _ => .done
def ls15 : Nat → List (Nat × LT)
  | 4 => [(3, (.one (.int .i64))), (8, (.one (.int .i64)))]
  | _ => []
def W15 (actsa : Option Addr) (actsl : Nat) (_actsc : Nat) (w : World) (R : Value → World → Prop) : Prop :=
  (∃ z0 : Int → Int → World → Prop, (∃ z1 : Int → Int → World → Nat, ((z0 (0) (0) (w)) ∧ (∀ (_ : Nat → Value), (∀ (x3 : Int), (∀ (x4 : Int), (∀ (w5 : World), ((z0 (x3) (x4) (w5)) → (ifK (decide (x4 < (↑actsl : Int)))
    (∃ a6 : Addr, ((actsa = some a6) ∧ (((0 : Int) ≤ x4) ∧ (((x4 : Int) < (↑actsl : Int)) ∧ (∃ x7 : Int, ((World.cell? w5 (Addr.add (Addr.add a6 (Int.toNat x4 * 5)) 0) = some (Value.int IntKind.i64 x7)) ∧ (∃ x8 : Int, ((World.cell? w5 (Addr.add (Addr.add a6 (Int.toNat x4 * 5)) 1) = some (Value.int IntKind.i64 x8)) ∧ (∃ s9 : ByteArray, ((World.cell? w5 (Addr.add (Addr.add a6 (Int.toNat x4 * 5)) 2) = some (Value.string s9)) ∧ (∃ x10 : Int, ((World.cell? w5 (Addr.add (Addr.add a6 (Int.toNat x4 * 5)) 3) = some (Value.int IntKind.i64 x10)) ∧ (∃ x11 : Int, ((World.cell? w5 (Addr.add (Addr.add a6 (Int.toNat x4 * 5)) 4) = some (Value.int IntKind.u64 x11)) ∧ (atW (World.alloc w5 (Obj.cells (Array.mk [Value.int IntKind.i64 0, Value.int IntKind.i64 0, Value.string (ByteArray.mk #[]), Value.int IntKind.i64 0, Value.int IntKind.u64 0]) 47 (0, 0))) (fun w12 =>
      ((∃ v13 : Value, (World.cell? w12 (Addr.add (Addr.mk (Array.size (World.heap w5)) 0 none) 0) = some v13)) ∧ ((World.frozen? w12 (Addr.add (Addr.mk (Array.size (World.heap w5)) 0 none) 0) = false) ∧ (atW (World.setCell w12 (Addr.add (Addr.mk (Array.size (World.heap w5)) 0 none) 0) (Value.int IntKind.i64 x7)) (fun w14 =>
        ((∃ v15 : Value, (World.cell? w14 (Addr.add (Addr.mk (Array.size (World.heap w5)) 0 none) 1) = some v15)) ∧ ((World.frozen? w14 (Addr.add (Addr.mk (Array.size (World.heap w5)) 0 none) 1) = false) ∧ (atW (World.setCell w14 (Addr.add (Addr.mk (Array.size (World.heap w5)) 0 none) 1) (Value.int IntKind.i64 x8)) (fun w16 =>
          ((∃ v17 : Value, (World.cell? w16 (Addr.add (Addr.mk (Array.size (World.heap w5)) 0 none) 2) = some v17)) ∧ ((World.frozen? w16 (Addr.add (Addr.mk (Array.size (World.heap w5)) 0 none) 2) = false) ∧ (atW (World.setCell w16 (Addr.add (Addr.mk (Array.size (World.heap w5)) 0 none) 2) (Value.string s9)) (fun w18 =>
            ((∃ v19 : Value, (World.cell? w18 (Addr.add (Addr.mk (Array.size (World.heap w5)) 0 none) 3) = some v19)) ∧ ((World.frozen? w18 (Addr.add (Addr.mk (Array.size (World.heap w5)) 0 none) 3) = false) ∧ (atW (World.setCell w18 (Addr.add (Addr.mk (Array.size (World.heap w5)) 0 none) 3) (Value.int IntKind.i64 x10)) (fun w20 =>
              ((∃ v21 : Value, (World.cell? w20 (Addr.add (Addr.mk (Array.size (World.heap w5)) 0 none) 4) = some v21)) ∧ ((World.frozen? w20 (Addr.add (Addr.mk (Array.size (World.heap w5)) 0 none) 4) = false) ∧ (atW (World.setCell w20 (Addr.add (Addr.mk (Array.size (World.heap w5)) 0 none) 4) (Value.int IntKind.u64 x11)) (fun w22 =>
                (∃ s23 : ByteArray, ((World.cell? w22 (Addr.add (Addr.mk (Array.size (World.heap w5)) 0 none) 2) = some (Value.string s23)) ∧ (((50 : Int) ≠ 0) ∧ (ifK (decide (IntKind.wrap IntKind.i64 (x3 + IntKind.wrap IntKind.i64 (1 + IntKind.wrap IntKind.i64 (Int.tdiv (↑(ByteArray.size s23) : Int) 50))) > 250))
                  (R (Value.bool false) (w22))
                  ((z0 (IntKind.wrap IntKind.i64 (x3 + IntKind.wrap IntKind.i64 (1 + IntKind.wrap IntKind.i64 (Int.tdiv (↑(ByteArray.size s23) : Int) 50)))) (IntKind.wrap IntKind.i64 (x4 + 1)) (w22)) ∧ (z1 (IntKind.wrap IntKind.i64 (x3 + IntKind.wrap IntKind.i64 (1 + IntKind.wrap IntKind.i64 (Int.tdiv (↑(ByteArray.size s23) : Int) 50)))) (IntKind.wrap IntKind.i64 (x4 + 1)) w22 < z1 x3 x4 w5))))))))))))))))))))))))))))))))))))))))))
    (R (Value.bool true) (w5)))))))))))
theorem ca15 (actsa : Option Addr) (actsl : Nat) (actsc : Nat) (w : World) (R : Value → World → Prop) (h : W15 actsa actsl actsc w R) : Ca Try.prog 15 ⟨[(.slice actsa actsl actsc)]⟩ w R := by
  have h1 : Try.prog.follows .mixedOrders = true := by kernel_rfl
  have h2 : Try.f15.body = some C15 := by kernel_rfl
  have h3 : (Try.f15.name == "runtime.NumGoroutine") = false := by kernel_rfl
  have h6 : Try.f15.results.toList = [.tmp 2] := by kernel_rfl
  have h4 : Nat.ble 1 22 = true := by kernel_rfl
  have h5 : okCode 22 pl15 ls15 C15 0 = true := by kernel_rfl
  have e : W15 actsa actsl actsc w R = wpC none Try.prog 22 pl15 ls15 C15 0 (endP Try.prog [.tmp 2] R) (fr0 [(.slice actsa actsl actsc)]) [] w := by kernel_rfl
  exact ca_of' (P := Try.prog) (g := 15) (fn := Try.f15) (c := C15) (m := 22) (rs := [.tmp 2]) (args := [(.slice actsa actsl actsc)]) (pl := pl15) (ls := ls15) (w := w) (R := R) h1 Try.func15 h2 Try.ntmps15 h6 h3 h4 h5 (Eq.mp e h)
end Go.Proofs.Ytmnbnjkbbhjocaa

/- Contracts of the program's consumer functions: Hold, Forget. -/
namespace Go.Proofs.Ytmnbnjkbbhjocaa
open Go Go.Proofs.Ytmnbnjkbbhjocaa.St

theorem hold_ok (d : Nat) (F : Nat → Prop) (l : List One) (client : Int) (w : World) (hd : Dk w d F l) (hs : ∀ x ∈ l, x.tags.length < 1099511627776) (R : Value → World → Prop)
    (h0 : l.find? (·.client == client) = none → ∀ w', Mod no w w' → R (.tuple #[.agg #[.string (ByteArray.mk #[]), .slice none 0 0], .bool false]) w')
    (h1 : ∀ x, l.find? (·.client == client) = some x → ∀ w' a n c ys, Mod no w w' → Ints .u64 27 w' a n c ys → ys.Perm x.tags → Srt ys 0 n → (∀ k, rowB a k → w.heap.size ≤ k) → R (.tuple #[.agg #[.string x.queue, .slice a n c], .bool true]) w') :
    Ca Try.prog 19 #[.pointer (some ⟨d, 0, none⟩), .int .i64 client] w R := by
  obtain ⟨row, ws, hda, hl, hF⟩ := hd
  refine ca19 _ client w R ?_
  intro w1 e1
  have m1 : Mod no w w1 := by subst e1; exact Mod.alloc _ _
  have b1 : w1.heap[w.heap.size]? = some (.cells #[.string (ByteArray.mk #[]), .slice none 0 0] 33 (0, 0)) := by subst e1; exact new_at _ _
  clear e1
  refine of_ok d row ws client w1 (hda.no m1) _ fun w2 m2 => ⟨_, rfl, ?_⟩
  have m02 := m1.trans m2
  have b2 := m2.at' b1
  have hfo : (ws.find? (·.client == client)).map Wish.one = l.find? (·.client == client) := by rw [← hl]; exact find_one ws (·.client == client)
  cases hf : ws.find? (·.client == client) with
  | none =>
    rw [hf] at hfo
    refine (ifK_of (fun _ => ?_) (fun h => by cases h) : ifK (Option.isNone (wptr none)) _ _)
    refine fillC_ok (vs := [.string (ByteArray.mk #[]), .slice none 0 0]) b2 rfl fun w3 b3 m3 _ => ?_
    refine ⟨_, by rw [cl1 b3]; rfl, none, 0, 0, by rw [cl1 b3]; rfl, ?_⟩
    exact h0 hfo.symm w3 (m02.trans' m3 fun k hk hS => by cases hS; exact absurd hk (Nat.lt_irrefl _))
  | some x =>
    rw [hf] at hfo
    have hxw : x ∈ ws := List.mem_of_find?_eq_some hf
    have hxl : x.one ∈ l := by rw [← hl]; exact List.mem_map.2 ⟨x, hxw, rfl⟩
    refine (ifK_of (fun h => by cases h) (fun _ => ?_) : ifK (Option.isNone (wptr (some x))) _ _)
    refine held_ok x w2 ((hda.no m02).wish x hxw) (hs _ hxl) _ fun w3 a n c ys hy hp hsrt m3 hnew => ⟨_, _, _, _, rfl, ?_⟩
    have b3 := m3.at' b2
    have s2 := m02.size
    have s1 := lt_of_heap b2
    refine fillC_ok (vs := [.string x.queue, .slice a n c]) b3 rfl fun w4 b4 m4 _ => ?_
    refine ⟨_, by rw [cl1 b4]; rfl, a, n, c, by rw [cl1 b4]; rfl, ?_⟩
    refine h1 x.one hfo.symm w4 a n c ys ((m02.trans m3).trans' m4 fun k hk hS => by cases hS; exact absurd hk (Nat.lt_irrefl _)) (hy.mod m4 fun k hk hS => ?_) hp hsrt fun k hk => by have := hnew k hk; omega
    cases hS
    have := hnew _ hk
    omega

theorem forget_ok (d : Nat) (F : Nat → Prop) (l : List One) (q : ByteArray) (w : World) (hd : Dk w d F l) (hs : ∀ x ∈ l, x.tags.length < 1099511627776) (hN : l.length < 1099511627776) (hU : (l.map (·.client)).Nodup) (hFw : ∀ k, F k → k < w.heap.size) (R : Value → World → Prop)
    (h : ∀ w' a n c ys, ys.Perm (l.map (·.client)) → Srt ys 0 ys.length → Ints .i64 3 w' a n c (fout l q ys) → Dk w' d F (l.filter fun x => !(qIs q x)) → Mod F w w' → (∀ k, rowB a k → w.heap.size ≤ k) → R (.slice a n c) w') :
    Ca Try.prog 23 #[.pointer (some ⟨d, 0, none⟩), .string q] w R := by
  refine ca23 _ q w R ?_
  refine clients_ok d F l w hd hN _ fun w1 a n c ys hy hperm hsrt m1 hnew => ⟨_, _, _, rfl, ?_⟩
  have hyl := hy.len.1
  have hynd : ys.Nodup := hperm.nodup_iff.2 hU
  have hylen : ys.length = l.length := by rw [hperm.length_eq, List.length_map]
  refine ⟨fun p n' m x w' => ∃ i : Nat, x = i ∧ i ≤ n ∧ Ints .i64 3 w' p n' m (fout l q (ys.take i)) ∧ Dk w' d F (fgt l q (ys.take i)) ∧ Mod F w w' ∧ (∀ k, rowB p k → w1.heap.size ≤ k) ∧ Ints .i64 3 w' a n c ys ∧ w1.heap.size ≤ w'.heap.size, fun _ _ _ x _ => ((n : Int) - x).toNat,
    ⟨0, rfl, Nat.zero_le _, Els.nil _ _, by rw [List.take_zero, fgt_nil]; exact hd.no m1, m1.of_no, fun k hk => by simp [rowB] at hk, hy, Nat.le_refl _⟩, ?_⟩
  rintro _ p n' m _ w2 ⟨i, rfl, hi, hout, hdk, m2, hnp, hy2, hsz⟩
  refine ifK_dec (fun hlt => ?_) (fun hge => ?_)
  · have hiy : i < ys.length := by omega
    refine hy2.rd i rfl (by omega) ?_
    rw [wSucc (i := i) (by omega), at0_eq hiy]
    have hmem : ys[i] ∈ l.map (·.client) := hperm.mem_iff.1 (List.getElem_mem hiy)
    have hnot : ys[i] ∉ ys.take i := by
      intro hc
      obtain ⟨j, hj, e⟩ := List.getElem_of_mem hc
      rw [List.getElem_take] at e
      have hji : j < i := by simp at hj; omega
      exact List.pairwise_iff_getElem.1 hynd j i (by omega) hiy hji e
    obtain ⟨j, hj, hf, hjl, hjc, hA, hB⟩ := fgt_step hU q hmem hnot
    have htk : ys.take (i + 1) = ys.take i ++ [ys[i]] := List.take_succ_eq_append_getElem hiy
    have hff := find_at hj hf
    have hdk0 := hdk
    obtain ⟨row, ws, hda, hl, hF⟩ := hdk
    refine of_ok d row ws ys[i] w2 hda _ fun w3 m3 => ⟨_, rfl, ?_⟩
    have hfo : (ws.find? (·.client == ys[i])).map Wish.one = (fgt l q (ys.take i)).find? (·.client == ys[i]) := by rw [← hl]; exact find_one ws (·.client == ys[i])
    rw [hff] at hfo
    cases hw : ws.find? (·.client == ys[i]) with
    | none => rw [hw] at hfo; cases hfo
    | some x =>
      rw [hw] at hfo
      have hxo : x.one = (fgt l q (ys.take i))[j] := by simpa using hfo
      have hxw : x ∈ ws := List.mem_of_find?_eq_some hw
      have hxa := (hda.no m3).wish x hxw
      have hq : x.queue = ((fgt l q (ys.take i))[j]).queue := by rw [← hxo]; rfl
      refine ⟨x.queue, by rw [cl1 hxa.cell]; rfl, ?_⟩
      rw [hq]
      refine ifK_of (fun hqt => ?_) (fun hqf => ?_)
      · obtain ⟨hA1, hA2⟩ := hA hqt
        have hsub : ∀ y ∈ fgt l q (ys.take i), y.tags.length < 1099511627776 := fun y hy => hs y (List.mem_filter.1 hy).1
        refine drop_ok d F _ ys[i] w3 (hdk0.no m3) hsub _ (fun hn => by rw [hff] at hn; cases hn) (fun a1 x1 b1 hab hfi _ w4 ra rl rc zs hdk4 m4 _ _ _ _ => ?_)
        refine ⟨_, _, _, _, _, rfl, ?_⟩
        have hjj : j = a1.length := by rw [hf] at hfi; exact Option.some.inj hfi
        have hline : a1 ++ b1 = fgt l q (ys.take (i + 1)) := by
          rw [htk, hA1, hab, hjj]
          simp
        rw [hline] at hdk4
        intro w5 e5
        have m5 : Mod no w4 w5 := by subst e5; exact Mod.alloc _ _
        have b5 : w5.heap[w4.heap.size]? = some (.cells #[.int .i64 ys[i]] 3 (0, 0)) := by subst e5; exact new_at _ _
        clear e5
        have hFn : ∀ k, F k → k < w1.heap.size := fun k hk => Nat.lt_of_lt_of_le (hFw k hk) m1.size
        have m25 : Mod F w2 w5 := (m3.no_trans m4).trans_no m5
        have hnF : ∀ k, rowB p k → ¬ F k := fun k hk hF => by have := hnp k hk; have := hFn k hF; omega
        have hout5 := hout.mod m25 hnF
        have hol : n' ≤ i := by
          have h1 := hout.len.1
          have h2 : (fout l q (ys.take i)).length ≤ (ys.take i).length := List.length_filter_le _ _
          rw [List.length_take] at h2
          omega
        obtain ⟨p', c', w6, hrun, h6, m6, hn6⟩ := hout5.push1 (P := Try.prog) (ty := 36) (oneInt _) rowInt b5 (by omega)
        refine ⟨_, w6, hrun, _, _, _, rfl, ⟨i + 1, rfl, by omega, ?_, ?_, ?_, ?_, ?_, ?_⟩, by simp only; omega⟩
        · rw [htk, hA2]; exact h6
        · refine (hdk4.no m5).mod m6 fun k hk hS => hnF k hS hk
        · refine (m2.trans m25).trans' m6 fun k hk hS => ?_
          have := hnp k hS
          have := m1.size
          omega
        · intro k hk
          rcases hn6 k hk with h | h
          · exact hnp k h
          · have := m25.size; omega
        · refine (hy2.mod m25 fun k hk hF => ?_).mod m6 fun k hk hS => ?_
          · have := hnew k hk; have := hFw k hF; omega
          · have := hnp k hS; have := hy.blk k hk; omega
        · have := m25.size
          have := m6.size
          omega
      · obtain ⟨hB1, hB2⟩ := hB hqf
        refine ⟨⟨i + 1, rfl, by omega, ?_, ?_, m2.trans_no m3, hnp, hy2.no m3, by have := m3.size; omega⟩, by simp only; omega⟩
        · rw [htk, hB2]; exact hout.no m3
        · rw [htk, hB1]; exact hdk0.no m3
  · have hin : i = ys.length := by omega
    rw [hin, List.take_length] at hout hdk
    rw [fgt_all l q ys fun x hx => hperm.mem_iff.2 (List.mem_map.2 ⟨x, hx, rfl⟩)] at hdk
    refine h w2 p n' m ys hperm (by rw [hyl]; exact hsrt) hout hdk m2 fun k hk => ?_
    have := hnp k hk
    have := m1.size
    omega
end Go.Proofs.Ytmnbnjkbbhjocaa

/- Contracts of the reference's functions: Forget. -/
namespace Go.Proofs.Ytmnbnjkbbhjocaa
open Go Go.Proofs.Ytmnbnjkbbhjocaa.St

theorem forgetR_ok (d : Nat) (F : Nat → Prop) (r : List One) (q : ByteArray) (w : World) (hd : RD w d F r) (hN : r.length < 1099511627776) (hU : (r.map (·.client)).Nodup) (R : Value → World → Prop)
    (h : ∀ w' a n c ys, ys.Perm (r.map (·.client)) → Srt ys 0 ys.length → Ints .i64 3 w' a n c (fout r q ys) → RD w' d (fun k => F k ∨ w.heap.size ≤ k) (r.filter fun x => !(qIs q x)) → Mod (on d) w w' → (∀ k, rowB a k → w.heap.size ≤ k) → R (.slice a n c) w') :
    Ca Try.prog 40 #[.pointer (some ⟨d, 0, none⟩), .string q] w R := by
  have hdw : d < w.heap.size := by
    obtain ⟨a, l, c, xs, hc, _⟩ := hd
    exact lt_of_heap hc
  refine ca40 _ q w R ?_
  refine clientsR_ok d F r w hd hN _ fun w1 a n c ys hy hperm hsrt m1 hnew => ⟨_, _, _, rfl, ?_⟩
  have hyl := hy.len.1
  have hynd : ys.Nodup := hperm.nodup_iff.2 hU
  have hylen : ys.length = r.length := by rw [hperm.length_eq, List.length_map]
  refine ⟨fun p n' m x w' => ∃ i : Nat, x = i ∧ i ≤ n ∧ Ints .i64 3 w' p n' m (fout r q (ys.take i)) ∧ RD w' d (fun k => (F k ∨ w.heap.size ≤ k) ∧ ¬ rowB p k) (fgt r q (ys.take i)) ∧ Mod (on d) w w' ∧ (∀ k, rowB p k → w1.heap.size ≤ k) ∧ Ints .i64 3 w' a n c ys ∧ w1.heap.size ≤ w'.heap.size, fun _ _ _ x _ => ((n : Int) - x).toNat,
    ⟨0, rfl, Nat.zero_le _, Els.nil _ _, by rw [List.take_zero, fgt_nil]; exact (hd.no m1).mono fun k hk => ⟨.inl hk, fun h => by simp [rowB] at h⟩, m1.of_no, fun k hk => by simp [rowB] at hk, hy, Nat.le_refl _⟩, ?_⟩
  rintro _ p n' m _ w2 ⟨i, rfl, hi, hout, hdk, m2, hnp, hy2, hsz⟩
  refine ifK_dec (fun hlt => ?_) (fun hge => ?_)
  · have hiy : i < ys.length := by omega
    refine hy2.rd i rfl (by omega) ?_
    rw [wSucc (i := i) (by omega), at0_eq hiy]
    have hmem : ys[i] ∈ r.map (·.client) := hperm.mem_iff.1 (List.getElem_mem hiy)
    have hnot : ys[i] ∉ ys.take i := by
      intro hc
      obtain ⟨j, hj, e⟩ := List.getElem_of_mem hc
      rw [List.getElem_take] at e
      have hji : j < i := by simp at hj; omega
      exact List.pairwise_iff_getElem.1 hynd j i (by omega) hiy hji e
    obtain ⟨j, hj, hf, hjl, hjc, hA, hB⟩ := fgt_step hU q hmem hnot
    have htk : ys.take (i + 1) = ys.take i ++ [ys[i]] := List.take_succ_eq_append_getElem hiy
    have hfl : (fgt r q (ys.take i)).length ≤ r.length := List.length_filter_le _ _
    refine findR_ok d _ _ ys[i] w2 hdk _ (fun hn => by rw [hf] at hn; cases hn) (fun j' hj' hf' w3 ta tl tc m3 htags _ => ?_)
    have hjj : j' = j := by rw [hf] at hf'; exact (Option.some.inj hf').symm
    subst hjj
    refine ⟨_, _, _, _, _, _, _, rfl, ?_⟩
    intro w4 e4
    have m4 : Mod no w3 w4 := by subst e4; exact Mod.alloc _ _
    have b4 : w4.heap[w3.heap.size]? = some (.cells #[.int .i64 0, .string (ByteArray.mk #[]), .int .i64 0, .slice none 0 0] 53 (0, 0)) := by subst e4; exact new_at _ _
    clear e4
    refine fillC_ok (vs := [.int .i64 (fgt r q (ys.take i))[j'].client, .string (fgt r q (ys.take i))[j'].queue, .int .i64 (fgt r q (ys.take i))[j'].most, .slice ta tl tc]) b4 rfl fun w5 b5 m5 _ => ?_
    have m25 : Mod no w2 w5 := m3.trans (m4.new m5 fun k hk => by cases hk; exact Nat.le_refl _)
    refine ⟨_, by rw [cl1 b5]; rfl, ?_⟩
    refine ifK_of (fun hqt => ?_) (fun hqf => ?_)
    · obtain ⟨hA1, hA2⟩ := hA hqt
      refine dropR_ok d _ _ ys[i] w5 (hdk.no m25).tight (by omega) _ (fun hn => by rw [hf] at hn; cases hn) (fun j2 hj2 hf2 w6 ra rl rc m6 hdk6 _ _ => ?_)
      have hjj : j2 = j' := by rw [hf] at hf2; exact (Option.some.inj hf2).symm
      subst hjj
      rw [← hA1, ← htk] at hdk6
      refine ⟨_, _, _, _, _, _, _, rfl, ?_⟩
      intro w7 e7
      have m7 : Mod no w6 w7 := by subst e7; exact Mod.alloc _ _
      have b7 : w7.heap[w6.heap.size]? = some (.cells #[.int .i64 ys[i]] 3 (0, 0)) := by subst e7; exact new_at _ _
      clear e7
      have m27 : Mod (on d) w2 w7 := (m25.no_trans m6).trans_no m7
      have s1 := m1.size
      have hnd : ∀ k, rowB p k → ¬ on d k := fun k hk hd => by cases hd; have := hnp _ hk; omega
      have hol : n' ≤ i := by
        have h1 := hout.len.1
        have h2 : (fout r q (ys.take i)).length ≤ (ys.take i).length := List.length_filter_le _ _
        rw [List.length_take] at h2
        omega
      obtain ⟨p', c', w8, hrun, h8, m8, hn8⟩ := (hout.mod m27 hnd).push1 (P := Try.prog) (ty := 36) (oneInt _) rowInt b7 (by omega)
      have s2 := m2.size
      have s5 := m25.size
      have s6 := m6.size
      have s7 := m7.size
      have s8 := m8.size
      have hpd : ∀ k, rowB p k → k ≠ d := fun k hk e => by have := hnp k hk; omega
      refine ⟨_, w8, hrun, _, _, _, rfl, ⟨i + 1, rfl, by omega, ?_, ?_, ?_, ?_, ?_, ?_⟩, by simp only; omega⟩
      · rw [htk, hA2]; exact h8
      · have hpb := hout.blk
        refine ((hdk6.no m7).tight.mod m8 fun k hk hS => ?_).mono fun k hk => ?_
        · rcases hk.1 with h | h
          · exact h.1.2 hS
          · have := hpb k hS; omega
        · refine ⟨?_, fun h => ?_⟩
          · rcases hk.1 with h | h
            · exact h.1.1
            · exact .inr (by omega)
          · rcases hn8 k h with h | h
            · rcases hk.1 with h' | h'
              · exact h'.1.2 h
              · have := hpb k h; omega
            · omega
      · refine (m2.trans m27).trans' m8 fun k hk hS => ?_
        have := hnp k hS
        omega
      · intro k hk
        rcases hn8 k hk with h | h
        · exact hnp k h
        · omega
      · refine (hy2.mod m27 fun k hk hd => ?_).mod m8 fun k hk hS => ?_
        · cases hd; have := hnew _ hk; omega
        · have := hnp k hS; have := hy.blk k hk; omega
      · omega
    · obtain ⟨hB1, hB2⟩ := hB hqf
      refine ⟨⟨i + 1, rfl, by omega, ?_, ?_, m2.trans_no m25, hnp, hy2.no m25, by have := m25.size; omega⟩, by simp only; omega⟩
      · rw [htk, hB2]; exact hout.no m25
      · rw [htk, hB1]; exact hdk.no m25
  · have hin : i = ys.length := by omega
    rw [hin, List.take_length] at hout hdk
    rw [fgt_all r q ys fun x hx => hperm.mem_iff.2 (List.mem_map.2 ⟨x, hx, rfl⟩)] at hdk
    refine h w2 p n' m ys hperm (by rw [hyl]; exact hsrt) hout (hdk.mono fun k hk => hk.1) m2 fun k hk => ?_
    have := hnp k hk
    have := m1.size
    omega
end Go.Proofs.Ytmnbnjkbbhjocaa

/- Plain laws on two lines that say the same: a consumer's desk and the reference's. It names no program's function. -/
namespace Go.Proofs.Ytmnbnjkbbhjocaa
open Go Go.Proofs.Ytmnbnjkbbhjocaa.St

/-- The same, the tags in order. -/
structure Rel (x y : One) : Prop where
  client : x.client = y.client
  queue : x.queue = y.queue
  most : x.most = y.most
  tags : y.tags.Perm x.tags
  srt : Srt y.tags 0 y.tags.length
abbrev Sync (l r : List One) : Prop := AllAt Rel l r

structure WF (l : List One) : Prop where
  len : l.length ≤ 32
  uniq : (l.map (·.client)).Nodup
  tags : ∀ x ∈ l, x.tags.Nodup ∧ (x.tags.length : Int) ≤ x.most ∧ x.most ≤ 100

section
variable {α β : Type} {P : α → β → Prop} {xs : List α} {ys : List β}
theorem allAt_map (h : AllAt P xs ys) {γ : Type} {f : α → γ} {g : β → γ} (hp : ∀ x y, P x y → f x = g y) : xs.map f = ys.map g := by
  apply List.ext_getElem
  · simp [h.len]
  · intro i h1 h2
    rw [List.getElem_map, List.getElem_map]
    exact hp _ _ (h.get i (by simpa using h1) (by simpa using h2))
theorem allAt_idx (h : AllAt P xs ys) {p : α → Bool} {q : β → Bool} (hp : ∀ x y, P x y → p x = q y) : xs.findIdx? p = ys.findIdx? q := by
  have h1 : xs.findIdx? p = (xs.map p).findIdx? id := by rw [List.findIdx?_map]; rfl
  have h2 : ys.findIdx? q = (ys.map q).findIdx? id := by rw [List.findIdx?_map]; rfl
  rw [h1, h2, allAt_map h hp]
theorem find_of_idx {l : List α} {p : α → Bool} {i : Nat} (hf : l.findIdx? p = some i) : ∃ hi : i < l.length, p l[i] = true ∧ l.find? p = some l[i] := by
  obtain ⟨hi, h1, h2⟩ := List.findIdx?_eq_some_iff_getElem.1 hf
  refine ⟨hi, h1, ?_⟩
  rw [List.find?_eq_some_iff_getElem]
  exact ⟨h1, i, hi, rfl, fun j hj => by simpa using h2 j hj⟩
theorem find_of_none {l : List α} {p : α → Bool} (hf : l.findIdx? p = none) : l.find? p = none := by
  rw [List.find?_eq_none]
  intro x hx
  have := List.findIdx?_eq_none_iff.1 hf x hx
  simp [this]
theorem allAt_find (h : AllAt P xs ys) {p : α → Bool} {q : β → Bool} (hp : ∀ x y, P x y → p x = q y) :
    (xs.find? p = none ∧ ys.find? q = none ∧ xs.findIdx? p = none ∧ ys.findIdx? q = none) ∨ ∃ i, ∃ hi : i < xs.length, ∃ hj : i < ys.length, xs.find? p = some xs[i] ∧ ys.find? q = some ys[i] ∧ P xs[i] ys[i] ∧ xs.findIdx? p = some i ∧ ys.findIdx? q = some i := by
  have he := allAt_idx h hp
  cases hf : xs.findIdx? p with
  | none => rw [hf] at he; exact .inl ⟨find_of_none hf, find_of_none he.symm, rfl, he.symm⟩
  | some i =>
    rw [hf] at he
    obtain ⟨hi, h1, h2⟩ := find_of_idx hf
    obtain ⟨hj, h3, h4⟩ := find_of_idx he.symm
    exact .inr ⟨i, hi, hj, h2, h4, h.get i hi hj, rfl, he.symm⟩
end

theorem srt_sub {xs : List Int} (h : Srt xs 0 xs.length) : xs.Pairwise (· ≤ ·) := by
  rw [List.pairwise_iff_getElem]
  intro i j hi hj hij
  have := h i j (Nat.zero_le _) hij hj
  rwa [at0_eq hi, at0_eq hj] at this
theorem srt_of {xs : List Int} (h : xs.Pairwise (· ≤ ·)) : Srt xs 0 xs.length := by
  intro i j _ hij hj
  have := List.pairwise_iff_getElem.1 h i j (by omega) hj hij
  rwa [← at0_eq (by omega), ← at0_eq hj] at this
theorem sorted_eq : ∀ {xs ys : List Int}, xs.Pairwise (· ≤ ·) → ys.Pairwise (· ≤ ·) → xs.Perm ys → xs = ys
  | [], ys, _, _, hp => (List.Perm.nil_eq hp)
  | x :: xs, ys, hx, hy, hp => by
    match ys, hy, hp with
    | [], _, hp => exact absurd hp.length_eq (by simp)
    | y :: ys, hy, hp =>
      have hxm := List.pairwise_cons.1 hx
      have hym := List.pairwise_cons.1 hy
      have h1 : x ≤ y := by
        rcases List.mem_cons.1 (hp.mem_iff.2 (List.mem_cons_self ..)) with h | h
        · omega
        · exact hxm.1 y h
      have h2 : y ≤ x := by
        rcases List.mem_cons.1 (hp.mem_iff.1 (List.mem_cons_self ..)) with h | h
        · omega
        · exact hym.1 x h
      have : x = y := by omega
      subst this
      rw [sorted_eq hxm.2 hym.2 ((List.perm_cons x).1 hp)]
theorem srt_eq {xs ys : List Int} (hx : Srt xs 0 xs.length) (hy : Srt ys 0 ys.length) (hp : xs.Perm ys) : xs = ys := sorted_eq (srt_sub hx) (srt_sub hy) hp

theorem Sync.client {l r : List One} (_h : Sync l r) (c : Int) : ∀ x y : One, Rel x y → (x.client == c) = (y.client == c) := fun x y hxy => by rw [hxy.client]
theorem Sync.contains {l r : List One} (_h : Sync l r) {x y : One} (hxy : Rel x y) (t : Int) : y.tags.contains t = x.tags.contains t := by
  rw [Bool.eq_iff_iff, List.contains_iff_mem, List.contains_iff_mem]
  exact hxy.tags.mem_iff
section
variable {l r : List One} (h : Sync l r)
include h
theorem Sync.clients : l.map (·.client) = r.map (·.client) := allAt_map h fun _ _ hxy => hxy.client
theorem Sync.isSome (c : Int) : (l.find? (·.client == c)).isSome = (r.find? (·.client == c)).isSome := by
  rcases allAt_find h (h.client c) with ⟨h1, h2, _⟩ | ⟨i, hi, hj, h1, h2, _⟩
  · rw [h1, h2]
  · rw [h1, h2]; rfl
theorem Sync.addE (c : Int) (q : ByteArray) (m : Int) : addE l c q m = addE r c q m := by
  simp only [Go.Proofs.Ytmnbnjkbbhjocaa.addE, h.isSome c, h.len]
theorem Sync.addL (c : Int) (q : ByteArray) (m : Int) : Sync (addL l c q m) (addL r c q m) := by
  rw [Go.Proofs.Ytmnbnjkbbhjocaa.addL, Go.Proofs.Ytmnbnjkbbhjocaa.addL, h.addE c q m]
  split
  · exact h.append (.one ⟨rfl, rfl, rfl, .refl _, Srt.nil _ _ _ (Nat.zero_le _)⟩)
  · exact h
theorem Sync.next (q : ByteArray) : nextC l q = nextC r q ∧ nextB l q = nextB r q := by
  have hp : ∀ x y : One, Rel x y → roomO q x = roomO q y := fun x y hxy => by rw [roomO, roomO, hxy.queue, hxy.most, hxy.tags.length_eq]
  rw [nextC, nextC, nextB, nextB]
  rcases allAt_find h hp with ⟨h1, h2, _⟩ | ⟨i, hi, hj, h1, h2, h3, _⟩
  · rw [h1, h2]; exact ⟨rfl, rfl⟩
  · rw [h1, h2]; exact ⟨h3.client, rfl⟩
theorem Sync.tookE (c t : Int) : tookE l c t = tookE r c t := by
  rw [Go.Proofs.Ytmnbnjkbbhjocaa.tookE, Go.Proofs.Ytmnbnjkbbhjocaa.tookE]
  rcases allAt_find h (h.client c) with ⟨h1, h2, _⟩ | ⟨i, hi, hj, h1, h2, h3, _⟩
  · rw [h1, h2]
  · rw [h1, h2]
    simp only
    have hp : ∀ x y : One, Rel x y → holdsB l[i].queue t x = holdsB r[i].queue t y := fun x y hxy => by rw [holdsB, holdsB, hxy.queue, h3.queue, h.contains hxy]
    have : (l.find? (holdsB l[i].queue t)).isSome = (r.find? (holdsB r[i].queue t)).isSome := by
      rcases allAt_find h hp with ⟨h4, h5, _⟩ | ⟨j, _, _, h4, h5, _⟩
      · rw [h4, h5]
      · rw [h4, h5]; rfl
    rw [this, h3.most, h3.tags.length_eq]
theorem Sync.dropAt (i : Nat) : Sync (l.take i ++ l.drop (i + 1)) (r.take i ++ r.drop (i + 1)) := (h.take i).append (h.drop (i + 1))
end

theorem sync_filter : ∀ {l r : List One}, Sync l r → ∀ {p q : One → Bool}, (∀ x y, Rel x y → p x = q y) → Sync (l.filter p) (r.filter q)
  | [], [], _, _, _, _ => AllAt.nil
  | [], _ :: _, h, _, _, _ => absurd h.len (by simp)
  | _ :: _, [], h, _, _, _ => absurd h.len (by simp)
  | x :: l, y :: r, h, p, q, hp => by
    have hxy : Rel x y := h.get 0 (by simp) (by simp)
    have ht : Sync l r := ⟨by have := h.len; simpa using this, fun i h1 h2 => h.get (i + 1) (by simpa using h1) (by simpa using h2)⟩
    have ih := sync_filter ht hp
    rw [List.filter_cons, List.filter_cons, hp x y hxy]
    split
    · exact (AllAt.one hxy).append ih
    · exact ih
/-! ### What stays so -/
theorem drop_take_one {α : Type} {l : List α} {i : Nat} (hi : i < l.length) : (l.drop i).take 1 = [l[i]] := by
  rw [List.drop_eq_getElem_cons hi]; rfl

theorem sync_took {l r : List One} (h : Sync l r) {c t : Int} {i : Nat} (hi : i < l.length) (hj : i < r.length) (hf : l.findIdx? (·.client == c) = some i) (hE : tookE l c t = 0) {ts : List Int} (hp : ts.Perm (r[i].tags ++ [t])) (hs : Srt ts 0 ts.length) :
    Sync (tookL l c t) (r.take i ++ r.drop (i + 1) ++ [{ r[i] with tags := ts }]) := by
  have hx := h.get i hi hj
  rw [tookL, if_pos hE, toEnd, hf]
  simp only
  rw [drop_take_one hi, ← List.append_assoc]
  refine (h.dropAt i).append (.one ⟨hx.client, hx.queue, hx.most, hp.trans (hx.tags.append (.refl _)), hs⟩)
theorem sync_settle {l r : List One} (h : Sync l r) (hw : WF l) {c t : Int} {i : Nat} (hi : i < l.length) (hj : i < r.length) (hf : l.findIdx? (·.client == c) = some i) (hE : settleE l c t = 0) :
    Sync (settleL l c t) (r.set i { r[i] with tags := r[i].tags.filter (· != t) }) := by
  have hx := h.get i hi hj
  have e : settleL l c t = l.set i { l[i] with tags := l[i].tags.erase t } := by
    rw [settleL, if_pos hE, inPlace, hf]
    simp only
    rw [drop_take_one hi, List.set_eq_take_append_cons_drop, if_pos hi]
    rfl
  rw [e]
  have hnd := (hw.tags _ (List.getElem_mem hi)).1
  refine h.set i ⟨hx.client, hx.queue, hx.most, ?_, srt_of ((srt_sub hx.srt).sublist List.filter_sublist)⟩
  show (r[i].tags.filter (· != t)).Perm (l[i].tags.erase t)
  rw [hnd.erase_eq_filter]
  exact hx.tags.filter _

theorem WF.add {l : List One} (h : WF l) (c : Int) (q : ByteArray) (m : Int) : WF (addL l c q m) := by
  rw [addL]
  split
  · rename_i hE
    rw [addE] at hE
    have h1 : m ≤ 100 ∧ (l.find? (·.client == c)) = none ∧ l.length < 32 ∧ 1 ≤ m := by
      split at hE
      · cases hE
      split at hE
      · cases hE
      split at hE
      · cases hE
      split at hE
      · cases hE
      split at hE
      · cases hE
      split at hE
      · cases hE
      split at hE
      · cases hE
      rename_i h3 h4 h5 h6 h7
      simp only [decide_eq_true_eq] at h3 h4 h7
      refine ⟨by omega, ?_, by omega, by omega⟩
      cases hf : l.find? (·.client == c) with
      | none => rfl
      | some x => rw [hf] at h6; exact absurd rfl h6
    refine ⟨by simp; omega, ?_, fun x hx => ?_⟩
    · rw [List.map_append, List.nodup_append]
      refine ⟨h.uniq, by simp, fun a ha b hb => ?_⟩
      simp at hb
      subst hb
      obtain ⟨y, hy, rfl⟩ := List.mem_map.1 ha
      have := List.find?_eq_none.1 h1.2.1 y hy
      simpa using this
    · rcases List.mem_append.1 hx with hx | hx
      · exact h.tags x hx
      · simp at hx
        subst hx
        exact ⟨List.nodup_nil, by simp; omega, h1.1⟩
  · exact h
theorem WF.sub {l l' : List One} (h : WF l) (hs : l'.Sublist l) : WF l' :=
  ⟨Nat.le_trans hs.length_le h.len, (hs.map _).nodup h.uniq, fun x hx => h.tags x (hs.subset hx)⟩
theorem WF.drop {l : List One} (h : WF l) (i : Nat) : WF (l.take i ++ l.drop (i + 1)) := by
  refine h.sub ?_
  have : (l.take i ++ l.drop (i + 1)).Sublist (l.take i ++ l.drop i) := by
    refine List.Sublist.append_left ?_ _
    rw [← List.drop_drop]
    exact List.drop_sublist _ _
  rwa [List.take_append_drop] at this
theorem WF.set {l : List One} (h : WF l) {i : Nat} (hi : i < l.length) {ts : List Int} (h1 : ts.Nodup) (h2 : (ts.length : Int) ≤ l[i].most) : WF (l.set i { l[i] with tags := ts }) := by
  refine ⟨by simpa using h.len, ?_, fun x hx => ?_⟩
  · rw [List.map_set]
    have : (l.map (·.client)).set i l[i].client = l.map (·.client) := by
      refine List.ext_getElem (by simp) fun k h1 h2 => ?_
      rw [List.getElem_set]
      split
      · rename_i e; subst e; simp
      · rfl
    show ((l.map (·.client)).set i l[i].client).Nodup
    rw [this]
    exact h.uniq
  · rcases List.mem_or_eq_of_mem_set hx with hx | rfl
    · exact h.tags x hx
    · exact ⟨h1, h2, (h.tags _ (List.getElem_mem hi)).2.2⟩
theorem WF.perm {l l' : List One} (h : WF l) (hp : l'.Perm l) : WF l' :=
  ⟨by rw [hp.length_eq]; exact h.len, (hp.map _).nodup_iff.2 h.uniq, fun x hx => h.tags x (hp.mem_iff.1 hx)⟩
theorem WF.settle {l : List One} (h : WF l) (c t : Int) : WF (settleL l c t) := by
  rw [settleL]
  split
  · rw [inPlace]
    split
    · exact h
    · rename_i i hf
      obtain ⟨hi, _⟩ := find_of_idx hf
      rw [drop_take_one hi]
      have : l.take i ++ (List.map (fun x => { x with tags := x.tags.erase t }) [l[i]] ++ l.drop (i + 1)) = l.set i { l[i] with tags := l[i].tags.erase t } := by
        rw [List.set_eq_take_append_cons_drop, if_pos hi]; rfl
      rw [this]
      have ht := h.tags _ (List.getElem_mem hi)
      refine h.set hi (ht.1.erase _) ?_
      have := List.length_erase_le (a := t) (l := l[i].tags)
      omega
  · exact h
theorem WF.took {l : List One} (h : WF l) (c t : Int) : WF (tookL l c t) := by
  rw [tookL]
  split
  · rename_i hE
    rw [toEnd]
    split
    · exact h
    · rename_i i hf
      obtain ⟨hi, hc, hfi⟩ := find_of_idx hf
      rw [drop_take_one hi]
      have ht := h.tags _ (List.getElem_mem hi)
      rw [tookE, hfi] at hE
      simp only at hE
      have h1 : (l[i].tags.length : Int) < l[i].most ∧ t ∉ l[i].tags := by
        split at hE
        · cases hE
        split at hE
        · cases hE
        rename_i h2 h3
        refine ⟨by simpa using h2, fun hm => ?_⟩
        have := List.find?_eq_none.1 (by simpa using h3) l[i] (List.getElem_mem hi)
        rw [holdsB] at this
        simp at this
        exact this hm
      refine (h.set hi (ts := l[i].tags ++ [t]) ?_ ?_).perm ?_
      · rw [List.nodup_append]
        refine ⟨ht.1, by simp, fun a ha b hb => ?_⟩
        simp at hb
        subst hb
        exact fun e => h1.2 (by rw [← e]; exact ha)
      · simp; omega
      · rw [List.set_eq_take_append_cons_drop, if_pos hi]
        refine List.Perm.append_left _ ?_
        exact List.perm_append_comm
  · exact h
end Go.Proofs.Ytmnbnjkbbhjocaa

/- Contracts of the law's functions that hold two rows against each other. -/
namespace Go.Proofs.Ytmnbnjkbbhjocaa
open Go Go.Proofs.Ytmnbnjkbbhjocaa.St

theorem tags_ok (a : Option Addr) (l c : Nat) (b : Option Addr) (m d : Nat) (ys zs : List Int) (w : World) (hy : Ints .u64 27 w a l c ys) (hz : Ints .u64 27 w b m d zs) (hl : l < 4611686018427387904) (R : Value → World → Prop) (h : ∀ w', Mod no w w' → R (.bool (decide (ys = zs))) w') :
    Ca Try.prog 21 #[.slice a l c, .slice b m d] w R := by
  have hyl := hy.len.1
  have hzl := hz.len.1
  refine ca21 a l c b m d w R ?_
  refine ifK_of (fun hne => ?_) (fun heq => ?_)
  · have : decide (ys = zs) = false := by
      refine decide_eq_false fun e => ?_
      subst e
      have : l = m := by omega
      subst this
      simp at hne
    have h' := h w (Mod.refl _ _)
    rwa [this] at h'
  · have hlm : l = m := by
      have : ((l : Int) == m) = true := by simpa using heq
      have := beq_iff_eq.1 this
      omega
    clear heq
    subst hlm
    refine ⟨fun x w' => ∃ i : Nat, x = i ∧ i ≤ l ∧ Mod no w w' ∧ ∀ k, k < i → at0 ys k = at0 zs k, fun x _ => ((l : Int) - x).toNat, ⟨0, rfl, Nat.zero_le _, Mod.refl _ _, fun k hk => by omega⟩, ?_⟩
    rintro _ _ w1 ⟨i, rfl, hi, m1, hall⟩
    refine ifK_dec (fun hlt => ?_) (fun hge => ?_)
    · have hlt : i < l := by omega
      intro w2 e2
      have m2 : Mod no w w2 := by subst e2; exact m1.trans (Mod.drew _)
      clear e2
      refine (hy.no m2).rd i rfl hlt ((hz.no m2).rd i rfl hlt (ifK_of (fun hne => ?_) (fun heq => ?_)))
      · have : decide (ys = zs) = false := by
          refine decide_eq_false fun e => ?_
          subst e
          simp at hne
        have h' := h w2 m2
        rwa [this] at h'
      · have heq : at0 ys i = at0 zs i := by simpa using heq
        rw [wSucc (i := i) (by omega)]
        refine ⟨⟨i + 1, rfl, hlt, m2, fun k hk => ?_⟩, by simp only; clear hall heq; omega⟩
        by_cases e : k = i
        · subst e; exact heq
        · exact hall k (by omega)
    · have : decide (ys = zs) = true := by
        refine decide_eq_true (List.ext_getElem (by omega) fun k h1 h2 => ?_)
        have := hall k (by omega)
        rwa [at0_eq h1, at0_eq h2] at this
      have h' := h w1 m1
      rwa [this] at h'
theorem ints_ok (a : Option Addr) (l c : Nat) (b : Option Addr) (m d : Nat) (ys zs : List Int) (w : World) (hy : Ints .i64 3 w a l c ys) (hz : Ints .i64 3 w b m d zs) (hl : l < 4611686018427387904) (R : Value → World → Prop) (h : ∀ w', Mod no w w' → R (.bool (decide (ys = zs))) w') :
    Ca Try.prog 17 #[.slice a l c, .slice b m d] w R := by
  have hyl := hy.len.1
  have hzl := hz.len.1
  refine ca17 a l c b m d w R ?_
  refine ifK_of (fun hne => ?_) (fun heq => ?_)
  · have : decide (ys = zs) = false := by
      refine decide_eq_false fun e => ?_
      subst e
      have : l = m := by omega
      subst this
      simp at hne
    have h' := h w (Mod.refl _ _)
    rwa [this] at h'
  · have hlm : l = m := by
      have : ((l : Int) == m) = true := by simpa using heq
      have := beq_iff_eq.1 this
      omega
    clear heq
    subst hlm
    refine ⟨fun x w' => ∃ i : Nat, x = i ∧ i ≤ l ∧ Mod no w w' ∧ ∀ k, k < i → at0 ys k = at0 zs k, fun x _ => ((l : Int) - x).toNat, ⟨0, rfl, Nat.zero_le _, Mod.refl _ _, fun k hk => by omega⟩, ?_⟩
    rintro _ _ w1 ⟨i, rfl, hi, m1, hall⟩
    refine ifK_dec (fun hlt => ?_) (fun hge => ?_)
    · have hlt : i < l := by omega
      intro w2 e2
      have m2 : Mod no w w2 := by subst e2; exact m1.trans (Mod.drew _)
      clear e2
      refine (hy.no m2).rd i rfl hlt ((hz.no m2).rd i rfl hlt (ifK_of (fun hne => ?_) (fun heq => ?_)))
      · have : decide (ys = zs) = false := by
          refine decide_eq_false fun e => ?_
          subst e
          simp at hne
        have h' := h w2 m2
        rwa [this] at h'
      · have heq : at0 ys i = at0 zs i := by simpa using heq
        rw [wSucc (i := i) (by omega)]
        refine ⟨⟨i + 1, rfl, hlt, m2, fun k hk => ?_⟩, by simp only; clear hall heq; omega⟩
        by_cases e : k = i
        · subst e; exact heq
        · exact hall k (by omega)
    · have : decide (ys = zs) = true := by
        refine decide_eq_true (List.ext_getElem (by omega) fun k h1 h2 => ?_)
        have := hall k (by omega)
        rwa [at0_eq h1, at0_eq h2] at this
      have h' := h w1 m1
      rwa [this] at h'

/-! ### Both desks -/
/-- At d lies the program's desk, at e the reference's, in blocks of S or new since w0; since w0 nothing else changed. -/
structure Two (w0 : World) (S : Nat → Prop) (w : World) (d e : Nat) (F G : Nat → Prop) (l r : List One) : Prop where
  dk : Dk w d F l
  rd : RD w e G r
  fb : ∀ k, F k → (S k ∨ w0.heap.size ≤ k) ∧ k < w.heap.size ∧ ¬ G k
  gb : ∀ k, G k → (S k ∨ w0.heap.size ≤ k) ∧ k < w.heap.size
  mod : Mod S w0 w

theorem Dk.tight {w : World} {d : Nat} {F : Nat → Prop} {l : List One} (h : Dk w d F l) : Dk w d (fun k => F k ∧ k < w.heap.size) l :=
  let ⟨row, ws, hda, hl, hF⟩ := h
  ⟨row, ws, hda, hl, fun k hk => ⟨hF k hk, hda.lt k hk⟩⟩
section
variable {w0 w w' : World} {S : Nat → Prop} {d e : Nat} {F G F' G' : Nat → Prop} {l r l' r' : List One}
theorem Two.no (h : Two w0 S w d e F G l r) (hm : Mod no w w') : Two w0 S w' d e F G l r :=
  ⟨h.dk.no hm, h.rd.no hm, fun k hk => ⟨(h.fb k hk).1, Nat.lt_of_lt_of_le (h.fb k hk).2.1 hm.size, (h.fb k hk).2.2⟩, fun k hk => ⟨(h.gb k hk).1, Nat.lt_of_lt_of_le (h.gb k hk).2 hm.size⟩, h.mod.trans_no hm⟩
theorem Two.left (h : Two w0 S w d e F G l r) (hd : Dk w' d F' l') (hm : Mod F w w') (hF : ∀ k, F' k → F k ∨ w.heap.size ≤ k) : Two w0 S w' d e (fun k => F' k ∧ k < w'.heap.size) G l' r := by
  have hs := hm.size
  have hs0 := h.mod.size
  refine ⟨hd.tight, h.rd.mod hm fun k hg hf => (h.fb k hf).2.2 hg, fun k hk => ?_, fun k hk => ⟨(h.gb k hk).1, by have := (h.gb k hk).2; omega⟩, h.mod.trans' hm fun k hk hf => ?_⟩
  · rcases hF k hk.1 with hf | hf
    · exact ⟨(h.fb k hf).1, hk.2, (h.fb k hf).2.2⟩
    · exact ⟨.inr (by omega), hk.2, fun hg => by have := (h.gb k hg).2; omega⟩
  · rcases (h.fb k hf).1 with h' | h'
    · exact h'
    · omega
theorem Two.right (h : Two w0 S w d e F G l r) (hr : RD w' e G' r') (hm : Mod G w w') (hG : ∀ k, G' k → G k ∨ w.heap.size ≤ k) : Two w0 S w' d e F (fun k => G' k ∧ k < w'.heap.size) l r' := by
  have hs := hm.size
  have hs0 := h.mod.size
  refine ⟨h.dk.mod hm fun k hf hg => (h.fb k hf).2.2 hg, hr.tight, fun k hk => ⟨(h.fb k hk).1, by have := (h.fb k hk).2.1; omega, fun hg => ?_⟩, fun k hk => ⟨?_, hk.2⟩, h.mod.trans' hm fun k hk hg => ?_⟩
  · rcases hG k hg.1 with h' | h'
    · exact (h.fb k hk).2.2 h'
    · have := (h.fb k hk).2.1; omega
  · rcases hG k hk.1 with h' | h'
    · exact (h.gb k h').1
    · exact .inr (by omega)
  · rcases (h.gb k hg).1 with h' | h'
    · exact h'
    · omega
theorem Two.self (h : Two w0 S w d e F G l r) : Two w (fun k => F k ∨ G k) w d e F G l r :=
  ⟨h.dk, h.rd, fun k hk => ⟨.inl (.inl hk), (h.fb k hk).2⟩, fun k hk => ⟨.inl (.inr hk), (h.gb k hk).2⟩, Mod.refl _ _⟩
theorem Two.then (h : Two w0 S w d e F G l r) (h' : Two w (fun k => F k ∨ G k) w' d e F' G' l' r') : Two w0 S w' d e F' G' l' r' := by
  have hs := h.mod.size
  have key : ∀ k, (F k ∨ G k) ∨ w.heap.size ≤ k → S k ∨ w0.heap.size ≤ k := by
    intro k hk
    rcases hk with (hk | hk) | hk
    · exact (h.fb k hk).1
    · exact (h.gb k hk).1
    · exact .inr (by omega)
  refine ⟨h'.dk, h'.rd, fun k hk => ⟨key k (h'.fb k hk).1, (h'.fb k hk).2⟩, fun k hk => ⟨key k (h'.gb k hk).1, (h'.gb k hk).2⟩, h.mod.trans' h'.mod fun k hk hk' => ?_⟩
  rcases key k (.inl hk') with h' | h'
  · exact h'
  · omega
end
end Go.Proofs.Ytmnbnjkbbhjocaa

/- The law's act: both desks do the same, and say the same. -/
namespace Go.Proofs.Ytmnbnjkbbhjocaa
open Go Go.Proofs.Ytmnbnjkbbhjocaa.St

theorem settleE_none {l : List One} {c t : Int} (h : l.find? (·.client == c) = none) : settleE l c t = 3 ∧ settleQ l c t = ByteArray.mk #[] := by rw [settleE, settleQ, h]; exact ⟨rfl, rfl⟩
theorem settleE_some {l : List One} {c t : Int} {x : One} (h : l.find? (·.client == c) = some x) : settleE l c t = (if !x.tags.contains t then 10 else 0) ∧ settleQ l c t = if !x.tags.contains t then ByteArray.mk #[] else x.queue := by rw [settleE, settleQ, h]; exact ⟨rfl, rfl⟩

theorem WF.tagsLt {l : List One} (h : WF l) : ∀ x ∈ l, x.tags.length < 100000 := fun x hx => by have := h.tags x hx; omega
theorem Sync.tagsLt {l r : List One} (h : Sync l r) (hw : WF l) : ∀ y ∈ r, y.tags.length < 100000 ∧ Srt y.tags 0 y.tags.length := fun y hy => by
  obtain ⟨i, hi, rfl⟩ := List.getElem_of_mem hy
  have hr := h.get i (by have := h.len; omega) hi
  have := hw.tagsLt _ (List.getElem_mem (by have := h.len; omega : i < l.length))
  exact ⟨by rw [hr.tags.length_eq]; exact this, hr.srt⟩

theorem act_ok (w0 : World) (S : Nat → Prop) (d e : Nat) (F G : Nat → Prop) (l r : List One) (a0 a1 : Int) (a2 : ByteArray) (a3 a4 : Int) (w : World) (t : Two w0 S w d e F G l r) (hs : Sync l r) (hw : WF l) (R : Value → World → Prop)
    (h : ∀ w' F' G' l' r', Two w0 S w' d e F' G' l' r' → Sync l' r' → WF l' → R (.bool true) w') :
    Ca Try.prog 16 #[.pointer (some ⟨d, 0, none⟩), .pointer (some ⟨e, 0, none⟩), .agg #[.int .i64 a0, .int .i64 a1, .string a2, .int .i64 a3, .int .u64 a4]] w R := by
  refine ca16 _ _ a0 a1 a2 a3 a4 w R ?_
  have hlen := hs.len
  have hl32 := hw.len
  have hwt := hw.tagsLt
  have hrt := hs.tagsLt hw
  have hrU : (r.map (·.client)).Nodup := by rw [← hs.clients]; exact hw.uniq
  intro w1 e1
  have m1 : Mod no w w1 := by subst e1; exact Mod.alloc _ _
  have b1 : w1.heap[w.heap.size]? = some (.cells #[.int .i64 a0, .int .i64 a1, .string a2, .int .i64 a3, .int .u64 a4] 47 (0, 0)) := by subst e1; exact new_at _ _
  clear e1
  have hBF : ¬ F w.heap.size := fun hk => Nat.lt_irrefl _ (t.fb _ hk).2.1
  have hBG : ¬ G w.heap.size := fun hk => Nat.lt_irrefl _ (t.gb _ hk).2
  have t1 := t.no m1
  have hFlt : ∀ k, F k → k < w.heap.size := fun k hk => (t.fb k hk).2.1
  have hGlt : ∀ k, G k → k < w.heap.size := fun k hk => (t.gb k hk).2
  have s1 := m1.size
  have he1 : ∀ {w' : World}, Two w0 S w' d e F G l r → G e := fun t' => by
    obtain ⟨_, _, _, _, _, _, _, hG, _⟩ := t'.rd
    exact hG
  have onG : ∀ {w' w'' : World}, Mod (on e) w' w'' → Mod G w' w'' := fun hm => hm.mono fun k _ hk => by cases hk; exact he1 t1
  clear t
  -- the reference took it too
  have tookBoth : ∀ (w5 : World) (c : Int) {F' : Nat → Prop}, Two w0 S w5 d e F' G (tookL l c a4) r → ∀ {K : Value → World → Prop},
      (∀ w6 F' G' r', Two w0 S w6 d e F' G' (tookL l c a4) r' → Sync (tookL l c a4) r' → tookE l c a4 = tookE r c a4 → K (.int .i64 (tookE r c a4)) w6) →
      Ca Try.prog 38 ⟨[.pointer (some ⟨e, 0, none⟩), .int .i64 c, .int .u64 a4]⟩ w5 K := by
    intro w5 c F' t5 K hK
    have hE := hs.tookE c a4
    refine tookR_ok e G r c a4 w5 t5.rd (by omega) (fun x hx => ⟨by have := (hrt x hx).1; omega, (hrt x hx).2⟩) _ (fun hne w6 m6 => ?_) (fun i hi hf hE0 w6 ts hp hst m6 hr6 => ?_)
    · refine hK w6 _ _ r (t5.no m6) ?_ hE
      rw [tookL, if_neg (by rw [hE]; exact hne)]
      exact hs
    · have hf' : l.findIdx? (·.client == c) = some i := by rw [allAt_idx hs (hs.client c)]; exact hf
      have := hK w6 _ _ _ (t5.right hr6 m6 fun k hk => hk) (sync_took hs (by omega) hi hf' (by rw [hE]; exact hE0) hp hst) hE
      rwa [hE0] at this
  refine ⟨a0, by rw [cl1 b1]; rfl, ifK_eq (fun hk => ?_) (fun hk0 => ifK_eq (fun hk => ?_) (fun hk1 => ifK_eq (fun hk => ?_) (fun hk2 => ifK_eq (fun hk => ?_) (fun hk6 => ifK_eq (fun hk => ?_) (fun hk3 => ifK_eq (fun hk => ?_) (fun hk4 => ifK_eq (fun hk => ?_) (fun hk5 => h w1 F G l r t1 hs hw)))))))⟩
  · -- Add
    intro w2 e2
    have m2 : Mod no w1 w2 := by subst e2; exact Mod.drew _
    clear e2
    have b2 := m2.at' b1
    have t2 := t1.no m2
    refine ⟨a1, by rw [cl1 b2]; rfl, a2, by rw [cl1 b2]; rfl, a3, by rw [cl1 b2]; rfl, a1, by rw [cl1 b2]; rfl, a2, by rw [cl1 b2]; rfl, a3, by rw [cl1 b2]; rfl, ?_⟩
    refine add_ok d F l a1 a2 a3 w2 t2.dk _ fun w3 F' hd3 m3 hF' => ⟨_, rfl, ?_⟩
    have b3 := m3.at b2 hBF
    have t3 := t2.left hd3 m3 hF'
    refine ⟨by rw [cl2 b3]; rfl, by rw [cl2 b3]; rfl, by rw [cl2 b3]; rfl, ?_⟩
    refine addR_ok e G r a1 a2 a3 w3 t3.rd _ fun w4 hr4 m4 => ⟨_, rfl, ?_⟩
    rw [← hs.addE, beq_self_eq_true]
    exact h w4 _ _ _ _ (t3.right hr4 (onG m4) fun k hk => hk) (hs.addL a1 a2 a3) (hw.add a1 a2 a3)
  · -- Drop
    refine ⟨a1, by rw [cl1 b1]; rfl, ?_⟩
    rcases allAt_find hs (hs.client a1) with ⟨h1, h2, h3, h4⟩ | ⟨i, hi, hj, h1, h2, hrel, h3, h4⟩
    · refine drop_ok d F l a1 w1 t1.dk (fun x hx => by have := hwt x hx; omega) _ (fun _ w2 m2 => ?_) (fun a x b _ hf => by rw [h3] at hf; cases hf)
      refine ⟨_, _, _, _, _, rfl, ?_⟩
      intro w3 e3
      have m3 : Mod no w2 w3 := by subst e3; exact Mod.alloc _ _
      have b3 : w3.heap[w2.heap.size]? = some (.cells #[.string (ByteArray.mk #[]), .slice none 0 0] 33 (0, 0)) := by subst e3; exact new_at _ _
      clear e3
      have t3 := (t1.no m2).no m3
      have b1' := m3.at' (m2.at' b1)
      refine fillC_ok (vs := [.string (ByteArray.mk #[]), .slice none 0 0]) b3 rfl fun w4 b4 m4 _ => ?_
      have m4n : Mod no w2 w4 := m3.new m4 fun k hk => by cases hk; exact Nat.le_refl _
      have t4 := (t1.no m2).no m4n
      have b14 := m4n.at' (m2.at' b1)
      refine ⟨a1, by rw [cl1 b14]; rfl, ?_⟩
      refine dropR_ok e G r a1 w4 t4.rd (by omega) _ (fun _ w5 m5 => ?_) (fun i hi hf => by rw [h4] at hf; cases hf)
      refine ⟨_, _, _, _, _, _, _, rfl, ?_⟩
      intro w6 e6
      have m6 : Mod no w5 w6 := by subst e6; exact Mod.alloc _ _
      have b6 : w6.heap[w5.heap.size]? = some (.cells #[.int .i64 0, .string (ByteArray.mk #[]), .int .i64 0, .slice none 0 0] 53 (0, 0)) := by subst e6; exact new_at _ _
      clear e6
      refine fillC_ok (vs := [.int .i64 0, .string (ByteArray.mk #[]), .int .i64 0, .slice none 0 0]) b6 rfl fun w7 b7 m7 _ => ?_
      have m7n : Mod no w4 w7 := m5.trans (m6.new m7 fun k hk => by cases hk; exact Nat.le_refl _)
      have b47 := m7n.at' b4
      refine ⟨_, by rw [cl1 b47]; rfl, _, by rw [cl1 b7]; rfl, ifK_of (fun _ => ?_) (fun hb => by simp at hb)⟩
      refine ⟨none, 0, 0, by rw [cl1 b47]; rfl, none, 0, 0, by rw [cl1 b7]; rfl, ?_⟩
      refine tags_ok none 0 0 none 0 0 [] [] w7 (Els.nil _ _) (Els.nil _ _) (by decide) _ fun w8 m8 => ⟨_, rfl, ?_⟩
      exact h w8 _ _ _ _ ((t4.no m7n).no m8) hs hw
    · refine drop_ok d F l a1 w1 t1.dk (fun x hx => by have := hwt x hx; omega) _ (fun hn => by rw [h1] at hn; cases hn) (fun a x b hab hf _ w2 ra rl rc ys hd2 m2 hra hpy hsy hnra => ?_)
      have hia : i = a.length := by rw [h3] at hf; exact Option.some.inj hf
      have hline : a ++ b = l.take i ++ l.drop (i + 1) := by rw [hab, hia]; simp
      have hx : x = l[i] := by
        have : l[i]? = some x := by rw [hab, hia]; simp
        rw [List.getElem?_eq_getElem hi] at this
        exact (Option.some.inj this).symm
      subst hx
      rw [hline] at hd2
      refine ⟨_, _, _, _, _, rfl, ?_⟩
      have t2 := t1.left hd2 m2 fun k hk => .inl hk
      intro w3 e3
      have m3 : Mod no w2 w3 := by subst e3; exact Mod.alloc _ _
      have b3 : w3.heap[w2.heap.size]? = some (.cells #[.string (ByteArray.mk #[]), .slice none 0 0] 33 (0, 0)) := by subst e3; exact new_at _ _
      clear e3
      refine fillC_ok (vs := [.string l[i].queue, .slice ra rl rc]) b3 rfl fun w4 b4 m4 _ => ?_
      have m4n : Mod no w2 w4 := m3.new m4 fun k hk => by cases hk; exact Nat.le_refl _
      have t4 := t2.no m4n
      have b14 := m4n.at' (m2.at b1 hBF)
      refine ⟨a1, by rw [cl1 b14]; rfl, ?_⟩
      have s2 := m2.size
      refine dropR_ok e G r a1 w4 t4.rd (by omega) _ (fun hn => by rw [h4] at hn; cases hn) (fun j hj' hf' w5 ta tl tc m5 hr5 hta hfa => ?_)
      have hji : j = i := by rw [h4] at hf'; exact (Option.some.inj hf').symm
      subst hji
      have t5 := t4.right hr5 (onG m5) fun k hk => hk
      refine ⟨_, _, _, _, _, _, _, rfl, ?_⟩
      intro w6 e6
      have m6 : Mod no w5 w6 := by subst e6; exact Mod.alloc _ _
      have b6 : w6.heap[w5.heap.size]? = some (.cells #[.int .i64 0, .string (ByteArray.mk #[]), .int .i64 0, .slice none 0 0] 53 (0, 0)) := by subst e6; exact new_at _ _
      clear e6
      refine fillC_ok (vs := [.int .i64 r[j].client, .string r[j].queue, .int .i64 r[j].most, .slice ta tl tc]) b6 rfl fun w7 b7 m7 _ => ?_
      have m7n : Mod no w5 w7 := m6.new m7 fun k hk => by cases hk; exact Nat.le_refl _
      have h24 := lt_of_heap b4
      have heG := hGlt e (he1 t1)
      have b47 := m7n.at' (m5.at b4 fun hS => by have : w2.heap.size = e := hS; omega)
      refine ⟨_, by rw [cl1 b47]; rfl, _, by rw [cl1 b7]; rfl, ifK_of (fun _ => ?_) (fun hb => ?_)⟩
      · refine ⟨ra, rl, rc, by rw [cl1 b47]; rfl, ta, tl, tc, by rw [cl1 b7]; rfl, ?_⟩
        have hyl := hra.len.1
        have hra7 : Ints .u64 27 w7 ra rl rc ys := ((hra.no m4n).mod m5 fun k hk hS => by cases hS; have := hnra _ hk; omega).no m7n
        have htl := hta.len.1
        have heq : ys = r[j].tags := srt_eq (by rw [hyl]; exact hsy) hrel.srt (hpy.trans hrel.tags.symm)
        refine tags_ok _ _ _ _ _ _ _ _ w7 hra7 (hta.no m7n) (by have := hwt _ (List.getElem_mem hi); have := hpy.length_eq; omega) _ fun w8 m8 => ⟨_, rfl, ?_⟩
        rw [decide_eq_true heq]
        exact h w8 _ _ _ _ ((t5.no m7n).no m8) (hs.dropAt j) (hw.drop j)
      · rw [hrel.queue] at hb; simp at hb
  ·
      refine ⟨a2, by rw [cl1 b1]; rfl, ?_⟩
      refine next_dk d F l a2 w1 t1.dk _ fun w2 m2 => ⟨_, _, rfl, a2, by rw [cl1 (m2.at' b1)]; rfl, ?_⟩
      refine nextR_ok e G r a2 w2 (t1.no m2).rd _ fun w3 m3 => ⟨_, _, rfl, ?_⟩
      have t3 := (t1.no m2).no m3
      have b3 := m3.at' (m2.at' b1)
      obtain ⟨hn1, hn2⟩ := hs.next a2
      refine ifK_of (fun hb => absurd hn1 (by simpa using hb)) (fun _ => ifK_of (fun hb => ?_) (fun _ => ?_))
      · rw [hn2] at hb; simp at hb
      intro w4 e4
      have m4 : Mod no w3 w4 := by subst e4; exact Mod.drew _
      clear e4
      have t4 := t3.no m4
      have b4 := m4.at' b3
      refine ⟨a0, by rw [cl1 b4]; rfl, ifK_eq (fun _ => h w4 F G l r t4 hs hw) (fun _ => ?_)⟩
      refine ⟨a4, by rw [cl1 b4]; rfl, a4, by rw [cl1 b4]; rfl, ?_⟩
      refine took_ok d F l _ a4 w4 t4.dk _ fun w5 hd5 m5 => ⟨_, rfl, ?_⟩
      have b5 := m5.at b4 hBF
      refine ⟨by rw [cl2 b5]; rfl, ?_⟩
      exact tookBoth w5 (nextC l a2) (t4.left hd5 m5 fun k hk => .inl hk) fun w6 F' G' r' t6 hs6 hE => by
        refine ⟨_, rfl, ?_⟩
        rw [hE, beq_self_eq_true]
        exact h w6 _ _ _ _ t6 hs6 (hw.took _ _)
  ·
      refine ⟨a2, by rw [cl1 b1]; rfl, ?_⟩
      refine next_dk d F l a2 w1 t1.dk _ fun w2 m2 => ⟨_, _, rfl, a2, by rw [cl1 (m2.at' b1)]; rfl, ?_⟩
      refine nextR_ok e G r a2 w2 (t1.no m2).rd _ fun w3 m3 => ⟨_, _, rfl, ?_⟩
      have t3 := (t1.no m2).no m3
      have b3 := m3.at' (m2.at' b1)
      obtain ⟨hn1, hn2⟩ := hs.next a2
      refine ifK_of (fun hb => absurd hn1 (by simpa using hb)) (fun _ => ifK_of (fun hb => ?_) (fun _ => ?_))
      · rw [hn2] at hb; simp at hb
      intro w4 e4
      have m4 : Mod no w3 w4 := by subst e4; exact Mod.drew _
      clear e4
      have t4 := t3.no m4
      have b4 := m4.at' b3
      refine ⟨a0, by rw [cl1 b4]; rfl, ifK_eq (fun _ => h w4 F G l r t4 hs hw) (fun _ => ?_)⟩
      refine ⟨a4, by rw [cl1 b4]; rfl, a4, by rw [cl1 b4]; rfl, ?_⟩
      refine took_ok d F l _ a4 w4 t4.dk _ fun w5 hd5 m5 => ⟨_, rfl, ?_⟩
      have b5 := m5.at b4 hBF
      refine ⟨by rw [cl2 b5]; rfl, ?_⟩
      exact tookBoth w5 (nextC l a2) (t4.left hd5 m5 fun k hk => .inl hk) fun w6 F' G' r' t6 hs6 hE => by
        refine ⟨_, rfl, ?_⟩
        rw [hE, beq_self_eq_true]
        exact h w6 _ _ _ _ t6 hs6 (hw.took _ _)
  · -- Took
    intro w2 e2
    have m2 : Mod no w1 w2 := by subst e2; exact Mod.drew _
    clear e2
    have b2 := m2.at' b1
    have t2 := t1.no m2
    refine ⟨a1, by rw [cl1 b2]; rfl, a4, by rw [cl1 b2]; rfl, a1, by rw [cl1 b2]; rfl, a4, by rw [cl1 b2]; rfl, ?_⟩
    refine took_ok d F l a1 a4 w2 t2.dk _ fun w3 hd3 m3 => ⟨_, rfl, ?_⟩
    have b3 := m3.at b2 hBF
    refine ⟨by rw [cl2 b3]; rfl, by rw [cl2 b3]; rfl, ?_⟩
    exact tookBoth w3 a1 (t2.left hd3 m3 fun k hk => .inl hk) fun w6 F' G' r' t6 hs6 hE => by
      refine ⟨_, rfl, ?_⟩
      rw [hE, beq_self_eq_true]
      exact h w6 _ _ _ _ t6 hs6 (hw.took _ _)
  · -- Settle
    refine ⟨a1, by rw [cl1 b1]; rfl, a4, by rw [cl1 b1]; rfl, ?_⟩
    refine settle_ok d F l a1 a4 w1 t1.dk _ fun w2 hd2 m2 => ⟨_, _, rfl, ?_⟩
    have b2 := m2.at b1 hBF
    have t2 := t1.left hd2 m2 fun k hk => .inl hk
    refine ⟨a1, by rw [cl1 b2]; rfl, a4, by rw [cl1 b2]; rfl, ?_⟩
    rcases allAt_find hs (hs.client a1) with ⟨h1, h2, h3, h4⟩ | ⟨i, hi, hj, h1, h2, hrel, h3, h4⟩
    · obtain ⟨hE, hQ⟩ := settleE_none (t := a4) h1
      have hL : settleL l a1 a4 = l := by rw [settleL, if_neg (by rw [hE]; decide)]
      refine settleR_ok e G r a1 a4 w2 t2.rd (by omega) (fun x hx => by have := (hrt x hx).1; omega) _ (fun _ w3 m3 => ?_) (fun i hi hf => by rw [h4] at hf; cases hf) (fun i hi hf => by rw [h4] at hf; cases hf)
      refine ⟨_, _, rfl, ?_⟩
      rw [hE, hQ]
      refine ifK_of (fun _ => ?_) (fun hb => by simp at hb)
      rw [hL] at t2
      exact h w3 _ _ _ _ (t2.no m3) hs hw
    · obtain ⟨hE, hQ⟩ := settleE_some (t := a4) h1
      have hct := hs.contains hrel a4
      have hrr : ∀ {j : Nat} (hj' : j < r.length), r.findIdx? (·.client == a1) = some j → j = i := fun hj' hf => by rw [h4] at hf; exact (Option.some.inj hf).symm
      refine settleR_ok e G r a1 a4 w2 t2.rd (by omega) (fun x hx => by have := (hrt x hx).1; omega) _ (fun hn => by rw [h4] at hn; cases hn) (fun j hj' hf hc w3 m3 => ?_) (fun j hj' hf hc w3 m3 hr3 => ?_)
      · have := hrr hj' hf
        subst this
        rw [hc] at hct
        rw [← hct] at hE hQ
        have hE : settleE l a1 a4 = 10 := hE
        have hQ : settleQ l a1 a4 = ByteArray.mk #[] := hQ
        have hL : settleL l a1 a4 = l := by rw [settleL, if_neg (by rw [hE]; decide)]
        refine ⟨_, _, rfl, ?_⟩
        rw [hE, hQ]
        refine ifK_of (fun _ => ?_) (fun hb => by simp at hb)
        rw [hL] at t2
        exact h w3 _ _ _ _ (t2.no m3) hs hw
      · have := hrr hj' hf
        subst this
        rw [hc] at hct
        rw [← hct] at hE hQ
        have hE : settleE l a1 a4 = 0 := hE
        have hQ : settleQ l a1 a4 = l[j].queue := hQ
        refine ⟨_, _, rfl, ?_⟩
        rw [hE, hQ, hrel.queue]
        refine ifK_of (fun _ => ?_) (fun hb => by simp at hb)
        exact h w3 _ _ _ _ (t2.right hr3 (onG m3) fun k hk => hk) (sync_settle hs hw hi hj h3 hE) (hw.settle _ _)
  · -- Forget
    intro w2 e2
    have m2 : Mod no w1 w2 := by subst e2; exact Mod.drew _
    clear e2
    have b2 := m2.at' b1
    have t2 := t1.no m2
    refine ⟨a2, by rw [cl1 b2]; rfl, a2, by rw [cl1 b2]; rfl, ?_⟩
    refine forget_ok d F l a2 w2 t2.dk (fun x hx => by have := hwt x hx; omega) (by omega) hw.uniq (fun k hk => (t2.fb k hk).2.1) _ fun w3 a n c ys hpy hsy hra hd3 m3 hna => ⟨_, _, _, rfl, ?_⟩
    have b3 := m3.at b2 hBF
    have t3 := t2.left hd3 m3 fun k hk => .inl hk
    refine ⟨by rw [cl2 b3]; rfl, ?_⟩
    refine forgetR_ok e G r a2 w3 t3.rd (by omega) hrU _ fun w4 b m c' zs hpz hsz hrb hr4 m4 hnb => ⟨_, _, _, rfl, ?_⟩
    have t4 := t3.right hr4 (onG m4) fun k hk => hk
    have heq : ys = zs := srt_eq hsy hsz (hpy.trans (by rw [hs.clients]; exact hpz.symm))
    have hfo : fout l a2 ys = fout r a2 zs := by
      rw [heq, fout, fout]
      apply List.filter_congr
      intro n _
      have := allAt_map hs (f := fun x => x.client == n && qIs a2 x) (g := fun x => x.client == n && qIs a2 x) fun x y hxy => by rw [qIs, qIs, hxy.client, hxy.queue]
      have e1 : ∀ l : List One, (l.any fun x => x.client == n && qIs a2 x) = (l.map fun x => x.client == n && qIs a2 x).any id := fun l => by rw [List.any_map]; rfl
      rw [e1, e1, this]
    have s2 := m2.size
    have heG := hGlt e (he1 t1)
    have hra4 : Ints .i64 3 w4 a n c (fout l a2 ys) := hra.mod m4 fun k hk hS => by cases hS; have := hna _ hk; omega
    have hnl := hra.len.1
    have hfl : (fout l a2 ys).length ≤ ys.length := List.length_filter_le _ _
    have hyl := hpy.length_eq
    rw [List.length_map] at hyl
    refine ints_ok _ _ _ _ _ _ _ _ w4 hra4 hrb (by omega) _ fun w5 m5 => ⟨_, rfl, ?_⟩
    rw [decide_eq_true hfo]
    have hq : Sync (l.filter fun x => !(qIs a2 x)) (r.filter fun x => !(qIs a2 x)) := sync_filter hs fun x y hxy => by rw [qIs, qIs, hxy.queue]
    exact h w5 _ _ _ _ (t4.no m5) hq (hw.sub List.filter_sublist)
end Go.Proofs.Ytmnbnjkbbhjocaa
