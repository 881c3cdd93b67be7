/- Parts of the proof of BindActsCard. -/
import Derived.Test.YtehhhkcemmfjpaaGreatDoorCore9
import Derived.Test.YtehhhkcemmfjpaaGreatDoorProg
import Derived.Laws.RangeString
import Derived.Laws.Externs
import Derived.Lib.Bytealg
import Derived.WalkKit
import Derived.Test.YtehhhkcemmfjpaaGreatDoorZ2
/- The formulas of functions, printed by a program of mine (gen.py) out of the translation. -/
namespace Go.Proofs.YtehhhkcemmfjpaaGreatDoor
open Go Go.Proofs.YtehhhkcemmfjpaaGreatDoor.St
set_option maxRecDepth 100000

/-- maps.DeleteFunc[map[staith/api.Binding]struct{},staith/api.Binding,struct{}] -/
noncomputable def C85 : Code := (Tryz.f85.body).getD .skip
def pl85 : Nat → Plan := fun _ => .done
def ls85 : Nat → List (Nat × LT)
  | 1 => []
  | _ => []
def W85 (m : Option Nat) (del : Value) (w : World) (R : Value → World → Prop) : Prop :=
  (rngM (m) (w) (fun v0 => (fun w1 =>
    (∃ z2 : World → Prop, (∃ z3 : World → Nat, ((z2 (w1)) ∧ (∀ (_ : Nat → Value), (∀ (w5 : World), ((z2 (w5)) → (nxtM Tryz.prog (0) (v0) (w5) (fun _ => (fun _ => (fun w8 =>
      (∃ v9 : Value, (∃ v10 : Value, ((Sem.run Tryz.prog (Instr.entry v0) w8 = Result.ok (Value.tuple #[v9, v10]) w8) ∧ (atW (World.alloc w8 (Obj.cells (Array.mk [Value.string (ByteArray.mk #[]), Value.string (ByteArray.mk #[]), Value.string (ByteArray.mk #[])]) 35 (0, 0))) (fun w11 =>
        (atW (World.alloc w11 (Obj.cells (Array.mk []) 85 (0, 0))) (fun w12 =>
          (bif Nat.beq (Array.size (Value.cells v9)) 3 then
            (stCells (Array.toList (Value.cells v9)) (Addr.mk (Array.size (World.heap w8)) 0 none) 0 w12 fun x => bif Nat.beq (Array.size (Value.cells v10)) 0 then stCells (Array.toList (Value.cells v10)) (Addr.mk (Array.size (World.heap w11)) 0 none) 0 x fun x => ∃ s, World.cell? x (Addr.add (Addr.mk (Array.size (World.heap w8)) 0 none) 0) = some (Value.string s) ∧ ∃ s_1, World.cell? x (Addr.add (Addr.mk (Array.size (World.heap w8)) 0 none) 1) = some (Value.string s_1) ∧ ∃ s_2, World.cell? x (Addr.add (Addr.mk (Array.size (World.heap w8)) 0 none) 2) = some (Value.string s_2) ∧ CaV Tryz.prog del (Array.mk [Value.agg (Array.mk (List.reverse [Value.string s_2, Value.string s_1, Value.string s])), Value.agg (Array.mk (List.reverse []))]) x fun v w' => ∃ b, v = Value.bool b ∧ ifK b (∃ s, World.cell? w' (Addr.add (Addr.mk (Array.size (World.heap w8)) 0 none) 0) = some (Value.string s) ∧ ∃ s_3, World.cell? w' (Addr.add (Addr.mk (Array.size (World.heap w8)) 0 none) 1) = some (Value.string s_3) ∧ ∃ s_4, World.cell? w' (Addr.add (Addr.mk (Array.size (World.heap w8)) 0 none) 2) = some (Value.string s_4) ∧ ∃ v w'_1, Sem.run Tryz.prog (Builtin.delete_ (Array.mk [68, 35]) 0 (Array.mk [Value.map m, Value.agg (Array.mk (List.reverse [Value.string s_4, Value.string s_3, Value.string s]))])) w' = Result.ok v w'_1 ∧ v = Value.tuple (Array.mk (List.reverse [])) ∧ z2 w'_1 ∧ z3 w'_1 < z3 w5) (z2 w' ∧ z3 w' < z3 w5) else False)
          else
            False))))))))))) (fun w13 =>
      (R (Value.tuple (Array.mk (List.reverse []))) (w13)))))))))))))
theorem ca85 (m : Option Nat) (del : Value) (w : World) (R : Value → World → Prop) (h : W85 m del w R) : Ca Tryz.prog 85 ⟨[(.map m), del]⟩ w R := by
  have h1 : Tryz.prog.follows .mixedOrders = true := by kernel_rfl
  have h2 : Tryz.f85.body = some C85 := by kernel_rfl
  have h3 : (Tryz.f85.name == "runtime.NumGoroutine") = false := by kernel_rfl
  have h6 : Tryz.f85.results.toList = [] := by kernel_rfl
  have h4 : Nat.ble 2 19 = true := by kernel_rfl
  have h5 : okCode 19 pl85 ls85 C85 0 = true := by kernel_rfl
  have e : W85 m del w R = wpC none Tryz.prog 19 pl85 ls85 C85 0 (endP Tryz.prog [] R) (fr0 [(.map m), del]) [] w := by kernel_rfl
  exact ca_of' (P := Tryz.prog) (g := 85) (fn := Tryz.f85) (c := C85) (m := 19) (rs := []) (args := [(.map m), del]) (pl := pl85) (ls := ls85) (w := w) (R := R) h1 Tryz.func85 h2 Tryz.ntmps85 h6 h3 h4 h5 (Eq.mp e h)

/-- (*staith/bind.Table).sweep -/
noncomputable def C57 : Code := (Tryz.f57.body).getD .skip
def pl57 : Nat → Plan := fun _ => .done
def ls57 : Nat → List (Nat × LT) := fun _ => []
def W57 (t : Option Addr) (so : Value) (w : World) (R : Value → World → Prop) : Prop :=
  (atW (World.alloc w (Obj.cells (Value.cells so) 45 (0, 0))) (fun w0 =>
    (onP (t) (fun a1 =>
      (∃ p2 : Option Nat, ((World.cell? w0 (Addr.add a1 1) = some (Value.map p2)) ∧ (lenM (p2) (w0) (fun x3 =>
        (onP (t) (fun a4 =>
          (∃ p5 : Option Nat, ((World.cell? w0 (Addr.add a4 1) = some (Value.map p5)) ∧ (Ca Tryz.prog (85) (Array.mk [Value.map p5, Value.func (Fn.func 86) (Array.mk []) (Array.mk [Value.pointer (some (Addr.mk (Array.size (World.heap w)) 0 none))])]) (w0) (fun v6 => (fun w7 =>
            ((v6 = Value.tuple (Array.mk (List.reverse []))) ∧ (onP (t) (fun a8 =>
              (∃ p9 : Option Nat, ((World.cell? w7 (Addr.add a8 1) = some (Value.map p9)) ∧ (lenM (p9) (w7) (fun x10 =>
                (R (Value.int IntKind.i64 (IntKind.wrap IntKind.i64 (x3 - x10))) (w7))))))))))))))))))))))))
theorem ca57 (t : Option Addr) (so : Value) (w : World) (R : Value → World → Prop) (h : W57 t so w R) : Ca Tryz.prog 57 ⟨[(.pointer t), so]⟩ w R := by
  have h1 : Tryz.prog.follows .mixedOrders = true := by kernel_rfl
  have h2 : Tryz.f57.body = some C57 := by kernel_rfl
  have h3 : (Tryz.f57.name == "runtime.NumGoroutine") = false := by kernel_rfl
  have h6 : Tryz.f57.results.toList = [.tmp 4] := by kernel_rfl
  have h4 : Nat.ble 2 24 = true := by kernel_rfl
  have h5 : okCode 24 pl57 ls57 C57 0 = true := by kernel_rfl
  have e : W57 t so w R = wpC none Tryz.prog 24 pl57 ls57 C57 0 (endP Tryz.prog [.tmp 4] R) (fr0 [(.pointer t), so]) [] w := by kernel_rfl
  exact ca_of' (P := Tryz.prog) (g := 57) (fn := Tryz.f57) (c := C57) (m := 24) (rs := [.tmp 4]) (args := [(.pointer t), so]) (pl := pl57) (ls := ls57) (w := w) (R := R) h1 Tryz.func57 h2 Tryz.ntmps57 h6 h3 h4 h5 (Eq.mp e h)

/-- (*staith/bind.Table).sweep$1 -/
noncomputable def C86 : Code := (Tryz.f86.body).getD .skip
def pl86 : Nat → Plan := fun _ => .done
def ls86 : Nat → List (Nat × LT) := fun _ => []
def W86 (b0_ : ByteArray) (b1_ : ByteArray) (b2_ : ByteArray) (c0 : Option Addr) (w : World) (R : Value → World → Prop) : Prop :=
  (atW (World.alloc w (Obj.cells (Array.mk [Value.string b0_, Value.string b1_, Value.string b2_]) 35 (0, 0))) (fun w0 =>
    (atW (World.alloc w0 (Obj.cells (Array.mk []) 85 (0, 0))) (fun w1 =>
      (onP (c0) (fun a2 =>
        (∃ v3 : Value, ((World.cell? w1 a2 = some v3) ∧ (∃ s4 : ByteArray, ((World.cell? w1 (Addr.add (Addr.mk (Array.size (World.heap w)) 0 none) 0) = some (Value.string s4)) ∧ (∃ s5 : ByteArray, ((World.cell? w1 (Addr.add (Addr.mk (Array.size (World.heap w)) 0 none) 1) = some (Value.string s5)) ∧ (∃ s6 : ByteArray, ((World.cell? w1 (Addr.add (Addr.mk (Array.size (World.heap w)) 0 none) 2) = some (Value.string s6)) ∧ (CaV Tryz.prog (v3) (Array.mk [Value.agg (Array.mk (List.reverse [Value.string s6, Value.string s5, Value.string s4]))]) (w1) (fun v7 => (fun w8 =>
          (∃ b9 : Bool, ((v7 = Value.bool b9) ∧ (R (Value.bool b9) (w8)))))))))))))))))))))
theorem ca86 (b0_ : ByteArray) (b1_ : ByteArray) (b2_ : ByteArray) (c0 : Option Addr) (w : World) (R : Value → World → Prop) (h : W86 b0_ b1_ b2_ c0 w R) : Ca Tryz.prog 86 ⟨[(.agg ⟨[(.string b0_), (.string b1_), (.string b2_)]⟩), (.agg ⟨[]⟩), (.pointer c0)]⟩ w R := by
  have h1 : Tryz.prog.follows .mixedOrders = true := by kernel_rfl
  have h2 : Tryz.f86.body = some C86 := by kernel_rfl
  have h3 : (Tryz.f86.name == "runtime.NumGoroutine") = false := by kernel_rfl
  have h6 : Tryz.f86.results.toList = [.tmp 5] := by kernel_rfl
  have h4 : Nat.ble 3 9 = true := by kernel_rfl
  have h5 : okCode 9 pl86 ls86 C86 0 = true := by kernel_rfl
  have e : W86 b0_ b1_ b2_ c0 w R = wpC none Tryz.prog 9 pl86 ls86 C86 0 (endP Tryz.prog [.tmp 5] R) (fr0 [(.agg ⟨[(.string b0_), (.string b1_), (.string b2_)]⟩), (.agg ⟨[]⟩), (.pointer c0)]) [] w := by kernel_rfl
  exact ca_of' (P := Tryz.prog) (g := 86) (fn := Tryz.f86) (c := C86) (m := 9) (rs := [.tmp 5]) (args := [(.agg ⟨[(.string b0_), (.string b1_), (.string b2_)]⟩), (.agg ⟨[]⟩), (.pointer c0)]) (pl := pl86) (ls := ls86) (w := w) (R := R) h1 Tryz.func86 h2 Tryz.ntmps86 h6 h3 h4 h5 (Eq.mp e h)

/-- (*staith/bind.Table).Unbind$1 -/
noncomputable def C58 : Code := (Tryz.f58.body).getD .skip
def pl58 : Nat → Plan := fun _ => .done
def ls58 : Nat → List (Nat × LT) := fun _ => []
def W58 (x0_ : ByteArray) (x1_ : ByteArray) (x2_ : ByteArray) (c0 : Option Addr) (w : World) (R : Value → World → Prop) : Prop :=
  (atW (World.alloc w (Obj.cells (Array.mk [Value.string x0_, Value.string x1_, Value.string x2_]) 35 (0, 0))) (fun w0 =>
    (∃ s1 : ByteArray, ((World.cell? w0 (Addr.add (Addr.mk (Array.size (World.heap w)) 0 none) 0) = some (Value.string s1)) ∧ (∃ s2 : ByteArray, ((World.cell? w0 (Addr.add (Addr.mk (Array.size (World.heap w)) 0 none) 1) = some (Value.string s2)) ∧ (∃ s3 : ByteArray, ((World.cell? w0 (Addr.add (Addr.mk (Array.size (World.heap w)) 0 none) 2) = some (Value.string s3)) ∧ (onP (c0) (fun a4 =>
      (∃ s5 : ByteArray, ((World.cell? w0 (Addr.add a4 0) = some (Value.string s5)) ∧ (∃ s6 : ByteArray, ((World.cell? w0 (Addr.add a4 1) = some (Value.string s6)) ∧ (∃ s7 : ByteArray, ((World.cell? w0 (Addr.add a4 2) = some (Value.string s7)) ∧ (eqA Tryz.prog 35 (Value.agg (Array.mk (List.reverse [Value.string s3, Value.string s2, Value.string s1]))) (Value.agg (Array.mk (List.reverse [Value.string s7, Value.string s6, Value.string s5]))) (w0) (fun b8 => (fun w9 =>
        (R (Value.bool b8) (w9)))))))))))))))))))))
theorem ca58 (x0_ : ByteArray) (x1_ : ByteArray) (x2_ : ByteArray) (c0 : Option Addr) (w : World) (R : Value → World → Prop) (h : W58 x0_ x1_ x2_ c0 w R) : Ca Tryz.prog 58 ⟨[(.agg ⟨[(.string x0_), (.string x1_), (.string x2_)]⟩), (.pointer c0)]⟩ w R := by
  have h1 : Tryz.prog.follows .mixedOrders = true := by kernel_rfl
  have h2 : Tryz.f58.body = some C58 := by kernel_rfl
  have h3 : (Tryz.f58.name == "runtime.NumGoroutine") = false := by kernel_rfl
  have h6 : Tryz.f58.results.toList = [.tmp 3] := by kernel_rfl
  have h4 : Nat.ble 2 7 = true := by kernel_rfl
  have h5 : okCode 7 pl58 ls58 C58 0 = true := by kernel_rfl
  have e : W58 x0_ x1_ x2_ c0 w R = wpC none Tryz.prog 7 pl58 ls58 C58 0 (endP Tryz.prog [.tmp 3] R) (fr0 [(.agg ⟨[(.string x0_), (.string x1_), (.string x2_)]⟩), (.pointer c0)]) [] w := by kernel_rfl
  exact ca_of' (P := Tryz.prog) (g := 58) (fn := Tryz.f58) (c := C58) (m := 7) (rs := [.tmp 3]) (args := [(.agg ⟨[(.string x0_), (.string x1_), (.string x2_)]⟩), (.pointer c0)]) (pl := pl58) (ls := ls58) (w := w) (R := R) h1 Tryz.func58 h2 Tryz.ntmps58 h6 h3 h4 h5 (Eq.mp e h)

/-- (*staith/bind.Table).Drop$1 -/
noncomputable def C59 : Code := (Tryz.f59.body).getD .skip
def pl59 : Nat → Plan := fun _ => .done
def ls59 : Nat → List (Nat × LT) := fun _ => []
def W59 (b0_ : ByteArray) (b1_ : ByteArray) (b2_ : ByteArray) (c0 : Option Addr) (w : World) (R : Value → World → Prop) : Prop :=
  (atW (World.alloc w (Obj.cells (Array.mk [Value.string b0_, Value.string b1_, Value.string b2_]) 35 (0, 0))) (fun w0 =>
    (∃ s1 : ByteArray, ((World.cell? w0 (Addr.add (Addr.mk (Array.size (World.heap w)) 0 none) 0) = some (Value.string s1)) ∧ (onP (c0) (fun a2 =>
      (∃ s3 : ByteArray, ((World.cell? w0 a2 = some (Value.string s3)) ∧ (R (Value.bool (ByteArray.toList s1 == ByteArray.toList s3)) (w0))))))))))
theorem ca59 (b0_ : ByteArray) (b1_ : ByteArray) (b2_ : ByteArray) (c0 : Option Addr) (w : World) (R : Value → World → Prop) (h : W59 b0_ b1_ b2_ c0 w R) : Ca Tryz.prog 59 ⟨[(.agg ⟨[(.string b0_), (.string b1_), (.string b2_)]⟩), (.pointer c0)]⟩ w R := by
  have h1 : Tryz.prog.follows .mixedOrders = true := by kernel_rfl
  have h2 : Tryz.f59.body = some C59 := by kernel_rfl
  have h3 : (Tryz.f59.name == "runtime.NumGoroutine") = false := by kernel_rfl
  have h6 : Tryz.f59.results.toList = [.tmp 3] := by kernel_rfl
  have h4 : Nat.ble 2 8 = true := by kernel_rfl
  have h5 : okCode 8 pl59 ls59 C59 0 = true := by kernel_rfl
  have e : W59 b0_ b1_ b2_ c0 w R = wpC none Tryz.prog 8 pl59 ls59 C59 0 (endP Tryz.prog [.tmp 3] R) (fr0 [(.agg ⟨[(.string b0_), (.string b1_), (.string b2_)]⟩), (.pointer c0)]) [] w := by kernel_rfl
  exact ca_of' (P := Tryz.prog) (g := 59) (fn := Tryz.f59) (c := C59) (m := 8) (rs := [.tmp 3]) (args := [(.agg ⟨[(.string b0_), (.string b1_), (.string b2_)]⟩), (.pointer c0)]) (pl := pl59) (ls := ls59) (w := w) (R := R) h1 Tryz.func59 h2 Tryz.ntmps59 h6 h3 h4 h5 (Eq.mp e h)

/-- (*staith/bind.Table).Forget$1 -/
noncomputable def C74 : Code := (Tryz.f74.body).getD .skip
def pl74 : Nat → Plan := fun _ => .done
def ls74 : Nat → List (Nat × LT) := fun _ => []
def W74 (b0_ : ByteArray) (b1_ : ByteArray) (b2_ : ByteArray) (c0 : Option Addr) (w : World) (R : Value → World → Prop) : Prop :=
  (atW (World.alloc w (Obj.cells (Array.mk [Value.string b0_, Value.string b1_, Value.string b2_]) 35 (0, 0))) (fun w0 =>
    (∃ s1 : ByteArray, ((World.cell? w0 (Addr.add (Addr.mk (Array.size (World.heap w)) 0 none) 1) = some (Value.string s1)) ∧ (onP (c0) (fun a2 =>
      (∃ s3 : ByteArray, ((World.cell? w0 a2 = some (Value.string s3)) ∧ (R (Value.bool (ByteArray.toList s1 == ByteArray.toList s3)) (w0))))))))))
theorem ca74 (b0_ : ByteArray) (b1_ : ByteArray) (b2_ : ByteArray) (c0 : Option Addr) (w : World) (R : Value → World → Prop) (h : W74 b0_ b1_ b2_ c0 w R) : Ca Tryz.prog 74 ⟨[(.agg ⟨[(.string b0_), (.string b1_), (.string b2_)]⟩), (.pointer c0)]⟩ w R := by
  have h1 : Tryz.prog.follows .mixedOrders = true := by kernel_rfl
  have h2 : Tryz.f74.body = some C74 := by kernel_rfl
  have h3 : (Tryz.f74.name == "runtime.NumGoroutine") = false := by kernel_rfl
  have h6 : Tryz.f74.results.toList = [.tmp 3] := by kernel_rfl
  have h4 : Nat.ble 2 8 = true := by kernel_rfl
  have h5 : okCode 8 pl74 ls74 C74 0 = true := by kernel_rfl
  have e : W74 b0_ b1_ b2_ c0 w R = wpC none Tryz.prog 8 pl74 ls74 C74 0 (endP Tryz.prog [.tmp 3] R) (fr0 [(.agg ⟨[(.string b0_), (.string b1_), (.string b2_)]⟩), (.pointer c0)]) [] w := by kernel_rfl
  exact ca_of' (P := Tryz.prog) (g := 74) (fn := Tryz.f74) (c := C74) (m := 8) (rs := [.tmp 3]) (args := [(.agg ⟨[(.string b0_), (.string b1_), (.string b2_)]⟩), (.pointer c0)]) (pl := pl74) (ls := ls74) (w := w) (R := R) h1 Tryz.func74 h2 Tryz.ntmps74 h6 h3 h4 h5 (Eq.mp e h)

/-- (*staith/bind.Table).Unbind -/
noncomputable def C22 : Code := (Tryz.f22.body).getD .skip
def pl22 : Nat → Plan := fun _ => .done
def ls22 : Nat → List (Nat × LT) := fun _ => []
def W22 (t : Option Addr) (b0_ : ByteArray) (b1_ : ByteArray) (b2_ : ByteArray) (w : World) (R : Value → World → Prop) : Prop :=
  (atW (World.alloc w (Obj.cells (Array.mk [Value.string b0_, Value.string b1_, Value.string b2_]) 35 (0, 0))) (fun w0 =>
    (Ca Tryz.prog (44) (Array.mk [Value.pointer t]) (w0) (fun v1 => (fun w2 =>
      (∃ b3 : Bool, ((v1 = Value.bool b3) ∧ (ifK (!b3)
        (R (Value.int IntKind.i64 1) (w2))
        (Ca Tryz.prog (57) (Array.mk [Value.pointer t, Value.func (Fn.func 58) (Array.mk []) (Array.mk [Value.pointer (some (Addr.mk (Array.size (World.heap w)) 0 none))])]) (w2) (fun v4 => (fun w5 =>
          (∃ x6 : Int, ((v4 = Value.int IntKind.i64 x6) ∧ (ifK (x6 == 0)
            (R (Value.int IntKind.i64 3) (w5))
            (R (Value.int IntKind.i64 0) (w5))))))))))))))))
theorem ca22 (t : Option Addr) (b0_ : ByteArray) (b1_ : ByteArray) (b2_ : ByteArray) (w : World) (R : Value → World → Prop) (h : W22 t b0_ b1_ b2_ w R) : Ca Tryz.prog 22 ⟨[(.pointer t), (.agg ⟨[(.string b0_), (.string b1_), (.string b2_)]⟩)]⟩ w R := by
  have h1 : Tryz.prog.follows .mixedOrders = true := by kernel_rfl
  have h2 : Tryz.f22.body = some C22 := by kernel_rfl
  have h3 : (Tryz.f22.name == "runtime.NumGoroutine") = false := by kernel_rfl
  have h6 : Tryz.f22.results.toList = [.tmp 4] := by kernel_rfl
  have h4 : Nat.ble 2 12 = true := by kernel_rfl
  have h5 : okCode 12 pl22 ls22 C22 0 = true := by kernel_rfl
  have e : W22 t b0_ b1_ b2_ w R = wpC none Tryz.prog 12 pl22 ls22 C22 0 (endP Tryz.prog [.tmp 4] R) (fr0 [(.pointer t), (.agg ⟨[(.string b0_), (.string b1_), (.string b2_)]⟩)]) [] w := by kernel_rfl
  exact ca_of' (P := Tryz.prog) (g := 22) (fn := Tryz.f22) (c := C22) (m := 12) (rs := [.tmp 4]) (args := [(.pointer t), (.agg ⟨[(.string b0_), (.string b1_), (.string b2_)]⟩)]) (pl := pl22) (ls := ls22) (w := w) (R := R) h1 Tryz.func22 h2 Tryz.ntmps22 h6 h3 h4 h5 (Eq.mp e h)

/-- (*staith/bind.Table).Forget -/
noncomputable def C41 : Code := (Tryz.f41.body).getD .skip
def pl41 : Nat → Plan := fun _ => .done
def ls41 : Nat → List (Nat × LT) := fun _ => []
def W41 (t : Option Addr) (queue : ByteArray) (w : World) (R : Value → World → Prop) : Prop :=
  (atW (World.alloc w (Obj.cells (Array.mk [Value.string queue]) 9 (0, 0))) (fun w0 =>
    (Ca Tryz.prog (44) (Array.mk [Value.pointer t]) (w0) (fun v1 => (fun w2 =>
      (∃ b3 : Bool, ((v1 = Value.bool b3) ∧ (ifK (!b3)
        (R (Value.int IntKind.i64 0) (w2))
        (Ca Tryz.prog (57) (Array.mk [Value.pointer t, Value.func (Fn.func 74) (Array.mk []) (Array.mk [Value.pointer (some (Addr.mk (Array.size (World.heap w)) 0 none))])]) (w2) (fun v4 => (fun w5 =>
          (∃ x6 : Int, ((v4 = Value.int IntKind.i64 x6) ∧ (R (Value.int IntKind.i64 x6) (w5)))))))))))))))
theorem ca41 (t : Option Addr) (queue : ByteArray) (w : World) (R : Value → World → Prop) (h : W41 t queue w R) : Ca Tryz.prog 41 ⟨[(.pointer t), (.string queue)]⟩ w R := by
  have h1 : Tryz.prog.follows .mixedOrders = true := by kernel_rfl
  have h2 : Tryz.f41.body = some C41 := by kernel_rfl
  have h3 : (Tryz.f41.name == "runtime.NumGoroutine") = false := by kernel_rfl
  have h6 : Tryz.f41.results.toList = [.tmp 4] := by kernel_rfl
  have h4 : Nat.ble 2 11 = true := by kernel_rfl
  have h5 : okCode 11 pl41 ls41 C41 0 = true := by kernel_rfl
  have e : W41 t queue w R = wpC none Tryz.prog 11 pl41 ls41 C41 0 (endP Tryz.prog [.tmp 4] R) (fr0 [(.pointer t), (.string queue)]) [] w := by kernel_rfl
  exact ca_of' (P := Tryz.prog) (g := 41) (fn := Tryz.f41) (c := C41) (m := 11) (rs := [.tmp 4]) (args := [(.pointer t), (.string queue)]) (pl := pl41) (ls := ls41) (w := w) (R := R) h1 Tryz.func41 h2 Tryz.ntmps41 h6 h3 h4 h5 (Eq.mp e h)

/-- (*staith/bind.Table).made -/
noncomputable def C44 : Code := (Tryz.f44.body).getD .skip
def pl44 : Nat → Plan := fun _ => .done
def ls44 : Nat → List (Nat × LT) := fun _ => []
def W44 (t : Option Addr) (w : World) (R : Value → World → Prop) : Prop :=
  (ifK (!Option.isNone t)
    (onP (t) (fun a0 =>
      (∃ p1 : Option Nat, ((World.cell? w (Addr.add a0 0) = some (Value.map p1)) ∧ (R (Value.bool !Option.isNone p1) (w))))))
    (R (Value.bool false) (w)))
theorem ca44 (t : Option Addr) (w : World) (R : Value → World → Prop) (h : W44 t w R) : Ca Tryz.prog 44 ⟨[(.pointer t)]⟩ w R := by
  have h1 : Tryz.prog.follows .mixedOrders = true := by kernel_rfl
  have h2 : Tryz.f44.body = some C44 := by kernel_rfl
  have h3 : (Tryz.f44.name == "runtime.NumGoroutine") = false := by kernel_rfl
  have h6 : Tryz.f44.results.toList = [.tmp 2] := by kernel_rfl
  have h4 : Nat.ble 1 12 = true := by kernel_rfl
  have h5 : okCode 12 pl44 ls44 C44 0 = true := by kernel_rfl
  have e : W44 t w R = wpC none Tryz.prog 12 pl44 ls44 C44 0 (endP Tryz.prog [.tmp 2] R) (fr0 [(.pointer t)]) [] w := by kernel_rfl
  exact ca_of' (P := Tryz.prog) (g := 44) (fn := Tryz.f44) (c := C44) (m := 12) (rs := [.tmp 2]) (args := [(.pointer t)]) (pl := pl44) (ls := ls44) (w := w) (R := R) h1 Tryz.func44 h2 Tryz.ntmps44 h6 h3 h4 h5 (Eq.mp e h)

/-- staith/bind.New -/
noncomputable def C10 : Code := (Tryz.f10.body).getD .skip
def pl10 : Nat → Plan := fun _ => .done
def ls10 : Nat → List (Nat × LT) := fun _ => []
def W10 (w : World) (R : Value → World → Prop) : Prop :=
  (atW (World.alloc w (Obj.map #[] 0)) (fun w0 =>
    (atW (World.alloc w0 (Obj.map #[] 0)) (fun w1 =>
      (atW (World.alloc w1 (Obj.cells (Array.mk [Value.map (some (Array.size (World.heap w))), Value.map (some (Array.size (World.heap w0)))]) 70 (0, 0))) (fun w2 =>
        (R (Value.pointer (some (Addr.mk (Array.size (World.heap w1)) 0 none))) (w2))))))))
theorem ca10 (w : World) (R : Value → World → Prop) (h : W10  w R) : Ca Tryz.prog 10 ⟨[]⟩ w R := by
  have h1 : Tryz.prog.follows .mixedOrders = true := by kernel_rfl
  have h2 : Tryz.f10.body = some C10 := by kernel_rfl
  have h3 : (Tryz.f10.name == "runtime.NumGoroutine") = false := by kernel_rfl
  have h6 : Tryz.f10.results.toList = [.tmp 0] := by kernel_rfl
  have h4 : Nat.ble 0 5 = true := by kernel_rfl
  have h5 : okCode 5 pl10 ls10 C10 0 = true := by kernel_rfl
  have e : W10  w R = wpC none Tryz.prog 5 pl10 ls10 C10 0 (endP Tryz.prog [.tmp 0] R) (fr0 []) [] w := by kernel_rfl
  exact ca_of' (P := Tryz.prog) (g := 10) (fn := Tryz.f10) (c := C10) (m := 5) (rs := [.tmp 0]) (args := []) (pl := pl10) (ls := ls10) (w := w) (R := R) h1 Tryz.func10 h2 Tryz.ntmps10 h6 h3 h4 h5 (Eq.mp e h)
end Go.Proofs.YtehhhkcemmfjpaaGreatDoor

/- The library's maps.DeleteFunc over bindings; sweep, and what the table does by it. -/
namespace Go.Proofs.YtehhhkcemmfjpaaGreatDoor
open Go Go.Proofs.YtehhhkcemmfjpaaGreatDoor Go.Proofs.YtehhhkcemmfjpaaGreatDoor.St

/-- The bindings, as they lie in a map. -/
def bnL (B : List Bnd) : List (Bnd × Value) := B.map fun b => (b, .agg ⟨[]⟩)
abbrev BMap (w : World) (m : Nat) (B : List Bnd) : Prop := MapAt w m (kvL bndV (bnL B))
def kb : Value → Bnd
  | .agg ⟨[.string a, .string b, .string c]⟩ => ⟨a, b, c⟩
  | _ => default
theorem kb_bnd (b : Bnd) : kb (bndV b) = b := rfl
theorem bndV_inj {a b : Bnd} (h : bndV a = bndV b) : a = b := by rw [← kb_bnd a, h, kb_bnd]
theorem dfun_ok (m : Nat) (B : List Bnd) (p : Bnd → Bool) (del : Value) (w : World) (hm : BMap w m B) (hB : B.Nodup)
    (hdel : ∀ b w', Mod (on m) w w' → ∀ R : Value → World → Prop, (∀ w'', Mod no w' w'' → R (.bool (p b)) w'') → CaV Tryz.prog del #[.agg ⟨b.cs⟩, .agg ⟨[]⟩] w' R)
    (R : Value → World → Prop) (h : ∀ w', BMap w' m (B.filter fun b => !p b) → Mod (on m) w w' → R (.tuple #[]) w') :
    Ca Tryz.prog 85 #[.map (some m), del] w R := by
  refine ca85 (some m) del w R ?_
  obtain ⟨es0, clock, hes0, hkv, hn, hc⟩ := hm
  refine ⟨es0, clock, hes0, ?_⟩
  intro w1 e1
  have m1 : Mod no w w1 := by subst e1; exact Mod.alloc _ _
  have b1 : w1.heap[w.heap.size]? = some (.mapIter (some m) clock #[] clock) := by subst e1; exact new_at _ _
  clear e1
  have hmlt : m < w.heap.size := lt_of_heap hes0
  have hlen : B.length = es0.toList.length := by
    have := congrArg List.length hkv
    simpa [kvL, bnL] using this.symm
  have hkeys : es0.toList.map (fun e => kb e.key) = B := by
    have := congrArg (List.map fun x : Value × Value => kb x.1) hkv
    rw [List.map_map] at this
    rw [show (fun e : MapEntry => kb e.key) = ((fun x : Value × Value => kb x.1) ∘ fun e => (e.key, e.val)) from rfl, this, kvL, bnL, List.map_map, List.map_map]
    conv => rhs; rw [← List.map_id B]
    rfl
  have hkey : ∀ e ∈ es0.toList, e.key = bndV (kb e.key) ∧ e.val = .agg ⟨[]⟩ := by
    intro e he
    have : (e.key, e.val) ∈ kvL bndV (bnL B) := by rw [← hkv]; exact List.mem_map_of_mem he
    simp only [kvL, bnL, List.map_map, List.mem_map, Function.comp, Prod.mk.injEq] at this
    obtain ⟨b, _, h1, h2⟩ := this
    rw [← h1, ← h2, kb_bnd]
    exact ⟨rfl, rfl⟩
  refine ⟨fun w' => ∃ (es : Array MapEntry) (seen : Array Nat) (c0 : Nat), w'.heap[w.heap.size]? = some (.mapIter (some m) clock seen c0) ∧ clock ≤ c0 ∧ w'.heap[m]? = some (.map es clock) ∧
      es.toList = es0.toList.filter (fun e => !(seen.contains e.born && p (kb e.key))) ∧ Mod (on m) w w',
    fun w' => match w'.heap[w.heap.size]?, w'.heap[m]? with | some (.mapIter _ _ seen _), some (.map es _) => (leftOf es seen).size | _, _ => 0,
    ⟨es0, #[], clock, b1, Nat.le_refl _, m1.at' hes0, by rw [List.filter_eq_self.2]; simp, m1.of_no⟩, ?_⟩
  rintro _ w5 ⟨es, seen, c0, hit, hcc, hes, hfl, m5⟩
  have hsub : ∀ e ∈ es.toList, e ∈ es0.toList := fun e he => by rw [hfl] at he; exact (List.mem_filter.1 he).1
  have hnes : (es.toList.map (·.born)).Nodup := by rw [hfl]; exact hn.sublist (List.filter_sublist.map _)
  rcases next_at (P := Tryz.prog) (ty := 0) hit hes (fun e he => hc e (hsub e he)) hcc with ⟨h0, hrun⟩ | ⟨e, he, w8, hrun, m8, hit8⟩
  · refine ⟨_, w5, hrun, .inl ⟨rfl, h w5 ⟨es, clock, hes, ?_, hnes, fun e he => hc e (hsub e he)⟩ m5⟩⟩
    have hall : ∀ e ∈ es.toList, seen.contains e.born = true := by
      intro e he
      cases hs : seen.contains e.born with
      | true => rfl
      | false =>
        have hl : e ∈ (leftOf es seen).toList := by simp only [leftOf, Array.toList_filter]; exact List.mem_filter.2 ⟨he, by rw [hs]; rfl⟩
        rw [List.eq_nil_of_length_eq_zero (l := (leftOf es seen).toList) (by simpa using h0)] at hl
        cases hl
    have hfin : es.toList = es0.toList.filter fun e => !p (kb e.key) := by
      rw [hfl]
      apply List.filter_congr
      intro e he
      cases hp : p (kb e.key) with
      | false => simp
      | true =>
        cases hs : seen.contains e.born with
        | true => rfl
        | false =>
          have : e ∈ es.toList := by rw [hfl]; exact List.mem_filter.2 ⟨he, by rw [hs]; rfl⟩
          rw [hall e this] at hs
          cases hs
    rw [hfin]
    have : (B.filter fun b => !p b) = (es0.toList.filter fun e => !p (kb e.key)).map fun e => kb e.key := by
      rw [← hkeys, List.filter_map]; rfl
    rw [this, kvL, bnL, List.map_map, List.map_map]
    apply List.map_congr_left
    intro e he
    obtain ⟨h1, h2⟩ := hkey e (List.mem_filter.1 he).1
    simp only [Function.comp]
    rw [← h1, h2]
  · refine ⟨_, w8, hrun, .inr ⟨_, _, rfl, ?_⟩⟩
    have hmem := (mem_left he).1
    have hmem0 := hsub e hmem
    have hes8 := m8.at hes (fun hS => by cases hS; omega)
    refine ⟨e.key, e.val, entry_at hit8 hes8 hmem hnes, ?_⟩
    obtain ⟨hk, hv⟩ := hkey e hmem0
    have m58 : Mod (on m) w w8 := m5.trans' m8 fun k hk hT => by cases hT; omega
    have hsz8 : w.heap.size < w8.heap.size := lt_of_heap hit8
    rw [hk, hv]
    generalize hbd : kb e.key = b at hk
    intro w11 e11
    have m11 : Mod no w8 w11 := by subst e11; exact Mod.alloc _ _
    have b11 : w11.heap[w8.heap.size]? = some (.cells [Value.string (ByteArray.mk #[]), Value.string (ByteArray.mk #[]), Value.string (ByteArray.mk #[])].toArray 35 (0, 0)) := by subst e11; exact new_at _ _
    clear e11
    intro w12 e12
    have m12 : Mod no w11 w12 := by subst e12; exact Mod.alloc _ _
    clear e12
    refine (stCells_var (vs := b.cs) (m12.at' b11) rfl (fun v hv => bndL.one b v hv) fun w13 m13 h13 => ?_ : stCells _ _ _ _ _)
    have m13' : Mod no w8 w13 := (m11.trans m12).new m13 fun k hk => by cases hk; exact Nat.le_refl _
    refine ⟨_, by rw [cl1 h13]; rfl, _, by rw [cl1 h13]; rfl, _, by rw [cl1 h13]; rfl, ?_⟩
    refine hdel b w13 (m58.trans_no m13') _ fun w14 m14 => ⟨_, rfl, ?_⟩
    have h14 := m14.at' h13
    have m814 := m13'.trans m14
    have hes14 := m814.at' hes8
    have hit14 := m814.at' hit8
    have keep : ∀ x ∈ es0.toList, x.born = e.born → x = e := fun x hx hxe => by
      obtain ⟨i, hi, rfl⟩ := List.getElem_of_mem hx
      obtain ⟨j, hj, rfl⟩ := List.getElem_of_mem hmem0
      have hpw := List.pairwise_iff_getElem.1 hn
      rcases Nat.lt_trichotomy i j with h | h | h
      · exact ((hpw i j (by simpa using hi) (by simpa using hj) h) (by simp only [List.getElem_map]; exact hxe)).elim
      · subst h; rfl
      · exact ((hpw j i (by simpa using hj) (by simpa using hi) h) (by simp only [List.getElem_map]; exact hxe.symm)).elim
    refine ifK_of (fun hpb => ?_) (fun hpb => ?_)
    · refine ⟨_, by rw [cl1 h14]; rfl, _, by rw [cl1 h14]; rfl, _, by rw [cl1 h14]; rfl, ?_⟩
      have hLs : es.toList.map (fun e => (e.key, e.val)) = kvL bndV (es.toList.map fun e => (kb e.key, e.val)) := by
        rw [kvL, List.map_map]
        apply List.map_congr_left
        intro x hx
        rw [Function.comp, ← (hkey x (hsub x hx)).1]
      obtain ⟨w15, es', hrun15, m15, hes15, hfl15⟩ := delete_entry (keys_bnd bnd_s) (u := 35) (ty := 0) (t := 68) Tryz.underlying68 hes14 hLs hnes (by
          rw [List.map_map]
          have : (es.toList.map ((·.1) ∘ fun e : MapEntry => (kb e.key, e.val))) = es.toList.map fun e => kb e.key := rfl
          rw [this, hfl]
          refine List.Nodup.sublist (List.filter_sublist.map _) ?_
          rw [hkeys]; exact hB) hmem hk (fun a b => bndV_inj) trivial fun _ _ => trivial
      have hit15 := m15.at hit14 (fun hS => by cases hS; omega)
      refine ⟨_, w15, hrun15, rfl, ⟨es', seen.push e.born, clock, hit15, Nat.le_refl _, hes15, ?_, (m58.trans_no m814).trans m15⟩, ?_⟩
      · rw [hfl15, hfl, List.filter_filter]
        apply List.filter_congr
        intro x hx
        rw [contains_push]
        by_cases hxe : x.born = e.born
        · have := keep x hx hxe
          subst this
          simp [hbd, hpb]
        · have hb : (x.born == e.born) = false := beq_false_of_ne hxe
          simp only [hb, Bool.or_false, Bool.not_false, Bool.true_and]
      · have hlt : (leftOf es' (seen.push e.born)).size < (leftOf es seen).size := by
          refine Nat.lt_of_le_of_lt ?_ (left_shrinks es seen e he)
          have : (leftOf es' (seen.push e.born)).toList.Sublist (leftOf es (seen.push e.born)).toList := by
            simp only [leftOf, Array.toList_filter, hfl15]
            exact List.filter_sublist.filter _
          simpa using this.length_le
        simp only [hit15, hes15, hit, hes]
        exact hlt
    · refine ⟨⟨es, seen.push e.born, clock, hit14, Nat.le_refl _, hes14, ?_, m58.trans_no m814⟩, ?_⟩
      · rw [hfl]
        apply List.filter_congr
        intro x hx
        rw [contains_push]
        by_cases hxe : x.born = e.born
        · have := keep x hx hxe
          subst this
          simp [hbd, hpb]
        · have hb : (x.born == e.born) = false := beq_false_of_ne hxe
          simp only [hb, Bool.or_false, Bool.not_false, Bool.true_and]
      · simp only [hit14, hes14, hit, hes]
        exact left_shrinks es seen e he
end Go.Proofs.YtehhhkcemmfjpaaGreatDoor

/- The table: what it is, and what its smaller functions do. -/
namespace Go.Proofs.YtehhhkcemmfjpaaGreatDoor
open Go Go.Proofs.YtehhhkcemmfjpaaGreatDoor Go.Proofs.YtehhhkcemmfjpaaGreatDoor.St

/-- The exchanges, as they lie in a map. -/
def exL (D : List Exc) : List (ByteArray × Value) := D.map fun e => (e.n, .agg ⟨e.cs⟩)
abbrev XMap (w : World) (m : Nat) (D : List Exc) : Prop := MapAt w m (kvL Value.string (exL D))
/-- A table at t, with its maps m1 and m2. -/
structure Tbl (w : World) (t m1 m2 : Nat) (D : List Exc) (B : List Bnd) : Prop where
  cell : w.heap[t]? = some (.cells #[.map (some m1), .map (some m2)] 70 (0, 0))
  x : XMap w m1 D
  b : BMap w m2 B
  ne : m1 ≠ m2
  dn : (D.map (·.n)).Nodup
  bn : B.Nodup
abbrev of2 (m1 m2 : Nat) : Nat → Prop := fun k => k = m1 ∨ k = m2
theorem Tbl.t1 {w : World} {t m1 m2 : Nat} {D : List Exc} {B : List Bnd} (h : Tbl w t m1 m2 D B) : t ≠ m1 := by
  obtain ⟨es, c, he, _⟩ := h.x
  have := h.cell
  rintro rfl
  rw [he] at this; cases this
theorem Tbl.t2 {w : World} {t m1 m2 : Nat} {D : List Exc} {B : List Bnd} (h : Tbl w t m1 m2 D B) : t ≠ m2 := by
  obtain ⟨es, c, he, _⟩ := h.b
  have := h.cell
  rintro rfl
  rw [he] at this; cases this
theorem Tbl.mod {S : Nat → Prop} {w w' : World} {t m1 m2 : Nat} {D : List Exc} {B : List Bnd} (h : Tbl w t m1 m2 D B) (hm : Mod S w w') (ht : ¬ S t) (h1 : ¬ S m1) (h2 : ¬ S m2) : Tbl w' t m1 m2 D B :=
  ⟨hm.at h.cell ht, h.x.mod hm h1, h.b.mod hm h2, h.ne, h.dn, h.bn⟩
theorem Tbl.no {w w' : World} {t m1 m2 : Nat} {D : List Exc} {B : List Bnd} (h : Tbl w t m1 m2 D B) (hm : Mod no w w') : Tbl w' t m1 m2 D B := h.mod hm id id id
theorem bmap_len {w : World} {m : Nat} {B : List Bnd} (h : BMap w m B) : ∃ es clock, w.heap[m]? = some (.map es clock) ∧ es.size = B.length := by
  obtain ⟨es, clock, he, hk, _⟩ := h
  refine ⟨es, clock, he, ?_⟩
  have := congrArg List.length hk
  simpa [kvL, bnL] using this
theorem xmap_len {w : World} {m : Nat} {D : List Exc} (h : XMap w m D) : ∃ es clock, w.heap[m]? = some (.map es clock) ∧ es.size = D.length := by
  obtain ⟨es, clock, he, hk, _⟩ := h
  refine ⟨es, clock, he, ?_⟩
  have := congrArg List.length hk
  simpa [kvL, exL] using this

theorem made_nil (w : World) (R : Value → World → Prop) (h : R (.bool false) w) : Ca Tryz.prog 44 #[.pointer none] w R :=
  ca44 none w R (ifK_of (fun h => by cases h) fun _ => h)
theorem made_ok {w : World} {t m1 m2 : Nat} {D : List Exc} {B : List Bnd} (hT : Tbl w t m1 m2 D B) (R : Value → World → Prop) (h : R (.bool true) w) : Ca Tryz.prog 44 #[.pointer (some ⟨t, 0, none⟩)] w R :=
  ca44 (some ⟨t, 0, none⟩) w R (ifK_of (fun _ => ⟨some m1, by rw [cl1 hT.cell]; rfl, h⟩) fun h => by cases h)
/-- A table that no call made. -/
theorem made_zero {w : World} {t : Nat} {e : TypeId} {fz : Nat × Nat} {v : Value} (hT : w.heap[t]? = some (.cells #[.map none, v] e fz)) (R : Value → World → Prop) (h : R (.bool false) w) : Ca Tryz.prog 44 #[.pointer (some ⟨t, 0, none⟩)] w R :=
  ca44 (some ⟨t, 0, none⟩) w R (ifK_of (fun _ => ⟨none, by rw [cl1 hT]; rfl, h⟩) fun h => by cases h)

theorem new_ok (w : World) (R : Value → World → Prop) (h : ∀ w' t m1 m2, Tbl w' t m1 m2 [] [] → Mod no w w' → w.heap.size ≤ t → w.heap.size ≤ m1 → w.heap.size ≤ m2 → R (.pointer (some ⟨t, 0, none⟩)) w') : Ca Tryz.prog 10 #[] w R := by
  refine ca10 w R ?_
  intro w0 e0
  have m0 : Mod no w w0 := by subst e0; exact Mod.alloc _ _
  have b0 : w0.heap[w.heap.size]? = some (.map #[] 0) := by subst e0; exact new_at _ _
  have s0 : w0.heap.size = w.heap.size + 1 := by subst e0; simp
  clear e0
  intro w1 e1
  have m1 : Mod no w0 w1 := by subst e1; exact Mod.alloc _ _
  have b1 : w1.heap[w0.heap.size]? = some (.map #[] 0) := by subst e1; exact new_at _ _
  have s1 : w1.heap.size = w0.heap.size + 1 := by subst e1; simp
  clear e1
  intro w2 e2
  have m2 : Mod no w1 w2 := by subst e2; exact Mod.alloc _ _
  have b2 : w2.heap[w1.heap.size]? = some (.cells #[.map (some w.heap.size), .map (some w0.heap.size)] 70 (0, 0)) := by subst e2; exact new_at _ _
  clear e2
  exact h w2 w1.heap.size w.heap.size w0.heap.size ⟨b2, ⟨_, _, m2.at' (m1.at' b0), rfl, by simp, by simp⟩, ⟨_, _, m2.at' b1, rfl, by simp, by simp⟩, by omega, by simp, by simp⟩ ((m0.trans m1).trans m2) (by omega) (by omega) (by omega)

/-- What a test of bindings does. -/
abbrev Tests (so : Value) (p : Bnd → Bool) (w : World) (m : Nat) : Prop :=
  ∀ b w', Mod (on m) w w' → ∀ R : Value → World → Prop, (∀ w'', Mod no w' w'' → R (.bool (p b)) w'') → CaV Tryz.prog so #[.agg ⟨b.cs⟩] w' R
theorem sweep_ok (f : Fn) (fa ca : Array Value) (p : Bnd → Bool) {w : World} {t m1 m2 : Nat} {D : List Exc} {B : List Bnd} (hT : Tbl w t m1 m2 D B) (hl : B.length < 1099511627776) (hso : Tests (.func f fa ca) p w m2) (R : Value → World → Prop)
    (h : ∀ w', Tbl w' t m1 m2 D (B.filter fun b => !p b) → Mod (on m2) w w' → R (.int .i64 ((B.length : Int) - (B.filter fun b => !p b).length)) w') :
    Ca Tryz.prog 57 #[.pointer (some ⟨t, 0, none⟩), .func f fa ca] w R := by
  refine ca57 (some ⟨t, 0, none⟩) (.func f fa ca) w R ?_
  intro w0 e0
  have m0 : Mod no w w0 := by subst e0; exact Mod.alloc _ _
  have b0 : w0.heap[w.heap.size]? = some (.cells #[.func f fa ca] 45 (0, 0)) := by subst e0; exact new_at _ _
  clear e0
  have hT0 := hT.no m0
  obtain ⟨es, clock, hes, hlen⟩ := bmap_len hT0.b
  refine ⟨some m2, by rw [cl1 hT0.cell]; rfl, es, clock, hes, some m2, by rw [cl1 hT0.cell]; rfl, ?_⟩
  have hmlt : m2 < w.heap.size := by obtain ⟨_, _, hh, _⟩ := hT.b; exact lt_of_heap hh
  refine dfun_ok m2 B p _ w0 hT0.b hT.bn ?_ _ fun w7 hb7 m7 => ⟨rfl, ?_⟩
  · intro b w' mw R' hR'
    refine (ca86 b.x b.q b.p (some ⟨w.heap.size, 0, none⟩) w' R' ?_ : Ca _ _ _ _ _)
    have bb := mw.at b0 (fun hS => by cases hS; omega)
    intro u0 e0
    have u0m : Mod no w' u0 := by subst e0; exact Mod.alloc _ _
    have ub : u0.heap[w'.heap.size]? = some (.cells #[.string b.x, .string b.q, .string b.p] 35 (0, 0)) := by subst e0; exact new_at _ _
    clear e0
    intro u1 e1
    have u1m : Mod no u0 u1 := by subst e1; exact Mod.alloc _ _
    clear e1
    have ub := u1m.at' ub
    have bb := (u0m.trans u1m).at' bb
    refine ⟨_, by rw [cl bb]; rfl, _, by rw [cl1 ub]; rfl, _, by rw [cl1 ub]; rfl, _, by rw [cl1 ub]; rfl, ?_⟩
    exact hso b u1 ((m0.no_trans mw).trans_no (u0m.trans u1m)) _ fun u2 m2 => ⟨_, rfl, hR' u2 ((u0m.trans u1m).trans m2)⟩
  · have m07 := m0.no_trans m7
    have hT7 : Tbl w7 t m1 m2 D (B.filter fun b => !p b) := ⟨m07.at hT.cell (fun hS => hT.t2 hS), hT.x.mod m07 (fun hS => hT.ne hS), hb7, hT.ne, hT.dn, hT.bn.sublist List.filter_sublist⟩
    obtain ⟨es', clock', hes', hlen'⟩ := bmap_len hb7
    refine ⟨some m2, by rw [cl1 hT7.cell]; rfl, es', clock', hes', ?_⟩
    rw [hlen, hlen']
    have := h w7 hT7 m07
    have hle : (B.filter fun b => !p b).length ≤ B.length := List.length_filter_le _ _
    have e : IntKind.i64.wrap ((B.length : Int) - ((B.filter fun b => !p b).length : Nat)) = (B.length : Int) - ((B.filter fun b => !p b).length : Nat) := (by first | (simp only [IntKind.wrap_i64]; omega) | omega)
    show R (.int .i64 (IntKind.i64.wrap ((B.length : Int) - ((B.filter fun b => !p b).length : Nat)))) w7
    rw [e]
    exact this

/-! ### The tests -/
theorem toList_beq (x y : ByteArray) : (x.toList == y.toList) = decide (x = y) := by
  by_cases h : x = y
  · simp [h]
  · have : ¬ x.toList = y.toList := fun h' => h (ba_toList _ _ h')
    simp [h, this]
theorem test1 (n : ByteArray) {w : World} {k m : Nat} {e : TypeId} (hk : w.heap[k]? = some (.cells #[.string n] e (0, 0))) (hne : k ≠ m) : Tests (.func (.func 59) #[] #[.pointer (some ⟨k, 0, none⟩)]) (fun b => decide (b.x = n)) w m := by
  intro b w' mw R hR
  refine (ca59 b.x b.q b.p (some ⟨k, 0, none⟩) w' R ?_ : Ca _ _ _ _ _)
  have hk := mw.at hk hne
  intro u0 e0
  have u0m : Mod no w' u0 := by subst e0; exact Mod.alloc _ _
  have ub : u0.heap[w'.heap.size]? = some (.cells #[.string b.x, .string b.q, .string b.p] 35 (0, 0)) := by subst e0; exact new_at _ _
  clear e0
  refine ⟨_, by rw [cl1 ub]; rfl, _, by rw [cl (u0m.at' hk)]; rfl, ?_⟩
  rw [toList_beq]
  exact hR u0 u0m
theorem test2 (n : ByteArray) {w : World} {k m : Nat} {e : TypeId} (hk : w.heap[k]? = some (.cells #[.string n] e (0, 0))) (hne : k ≠ m) : Tests (.func (.func 74) #[] #[.pointer (some ⟨k, 0, none⟩)]) (fun b => decide (b.q = n)) w m := by
  intro b w' mw R hR
  refine (ca74 b.x b.q b.p (some ⟨k, 0, none⟩) w' R ?_ : Ca _ _ _ _ _)
  have hk := mw.at hk hne
  intro u0 e0
  have u0m : Mod no w' u0 := by subst e0; exact Mod.alloc _ _
  have ub : u0.heap[w'.heap.size]? = some (.cells #[.string b.x, .string b.q, .string b.p] 35 (0, 0)) := by subst e0; exact new_at _ _
  clear e0
  refine ⟨_, by rw [cl1 ub]; rfl, _, by rw [cl (u0m.at' hk)]; rfl, ?_⟩
  rw [toList_beq]
  exact hR u0 u0m
theorem test3 (n : Bnd) {w : World} {k m : Nat} {e : TypeId} (hk : w.heap[k]? = some (.cells #[.string n.x, .string n.q, .string n.p] e (0, 0))) (hne : k ≠ m) : Tests (.func (.func 58) #[] #[.pointer (some ⟨k, 0, none⟩)]) (fun b => decide (b = n)) w m := by
  intro b w' mw R hR
  refine (ca58 b.x b.q b.p (some ⟨k, 0, none⟩) w' R ?_ : Ca _ _ _ _ _)
  have hk := mw.at hk hne
  intro u0 e0
  have u0m : Mod no w' u0 := by subst e0; exact Mod.alloc _ _
  have ub : u0.heap[w'.heap.size]? = some (.cells #[.string b.x, .string b.q, .string b.p] 35 (0, 0)) := by subst e0; exact new_at _ _
  clear e0
  have hk := u0m.at' hk
  refine ⟨_, by rw [cl1 ub]; rfl, _, by rw [cl1 ub]; rfl, _, by rw [cl1 ub]; rfl, _, by rw [cl1 hk]; rfl, _, by rw [cl1 hk]; rfl, _, by rw [cl1 hk]; rfl, ?_⟩
  exact eqA_agg bnd_s.guard (bnd_s.eq b n) (hR u0 u0m)
end Go.Proofs.YtehhhkcemmfjpaaGreatDoor

/- The formulas of functions, printed by a program of mine (gen.py) out of the translation. -/
namespace Go.Proofs.YtehhhkcemmfjpaaGreatDoor
open Go Go.Proofs.YtehhhkcemmfjpaaGreatDoor.St
set_option maxRecDepth 100000

/-- (*staith/bind.Table).Find -/
noncomputable def C17 : Code := (Tryz.f17.body).getD .skip
def pl17 : Nat → Plan := fun _ => .done
def ls17 : Nat → List (Nat × LT) := fun _ => []
def W17 (t : Option Addr) (name : ByteArray) (w : World) (R : Value → World → Prop) : Prop :=
  (atW (World.alloc w (Obj.cells (Array.mk [Value.string (ByteArray.mk #[]), Value.int IntKind.i64 0, Value.bool false]) 33 (0, 0))) (fun w0 =>
    (Ca Tryz.prog (44) (Array.mk [Value.pointer t]) (w0) (fun v1 => (fun w2 =>
      (∃ b3 : Bool, ((v1 = Value.bool b3) ∧ (ifK (!b3)
        ((∃ v4 : Value, (World.cell? w2 (Addr.add (Addr.mk (Array.size (World.heap w)) 0 none) 0) = some v4)) ∧ ((World.frozen? w2 (Addr.add (Addr.mk (Array.size (World.heap w)) 0 none) 0) = false) ∧ (atW (World.setCell w2 (Addr.add (Addr.mk (Array.size (World.heap w)) 0 none) 0) (Value.string (ByteArray.mk #[]))) (fun w5 =>
          ((∃ v6 : Value, (World.cell? w5 (Addr.add (Addr.mk (Array.size (World.heap w)) 0 none) 1) = some v6)) ∧ ((World.frozen? w5 (Addr.add (Addr.mk (Array.size (World.heap w)) 0 none) 1) = false) ∧ (atW (World.setCell w5 (Addr.add (Addr.mk (Array.size (World.heap w)) 0 none) 1) (Value.int IntKind.i64 0)) (fun w7 =>
            ((∃ v8 : Value, (World.cell? w7 (Addr.add (Addr.mk (Array.size (World.heap w)) 0 none) 2) = some v8)) ∧ ((World.frozen? w7 (Addr.add (Addr.mk (Array.size (World.heap w)) 0 none) 2) = false) ∧ (atW (World.setCell w7 (Addr.add (Addr.mk (Array.size (World.heap w)) 0 none) 2) (Value.bool false)) (fun w9 =>
              (∃ s10 : ByteArray, ((World.cell? w9 (Addr.add (Addr.mk (Array.size (World.heap w)) 0 none) 0) = some (Value.string s10)) ∧ (∃ x11 : Int, ((World.cell? w9 (Addr.add (Addr.mk (Array.size (World.heap w)) 0 none) 1) = some (Value.int IntKind.i64 x11)) ∧ (∃ b12 : Bool, ((World.cell? w9 (Addr.add (Addr.mk (Array.size (World.heap w)) 0 none) 2) = some (Value.bool b12)) ∧ (R (Value.tuple (Array.mk [Value.agg (Array.mk (List.reverse [Value.bool b12, Value.int IntKind.i64 x11, Value.string s10])), Value.bool false])) (w9))))))))))))))))))))
        (onP (t) (fun a13 =>
          (∃ p14 : Option Nat, ((World.cell? w2 (Addr.add a13 0) = some (Value.map p14)) ∧ (∃ v15 : Value, (∃ w16 : World, ((Sem.run Tryz.prog (Instr.lookup 67 (Value.map p14) (Value.string name) true) w2 = Result.ok v15 w16) ∧ (∃ s17 : ByteArray, (∃ x18 : Int, (∃ b19 : Bool, (∃ b20 : Bool, ((v15 = Value.tuple (Array.mk (List.reverse [Value.bool b20, Value.agg (Array.mk (List.reverse [Value.bool b19, Value.int IntKind.i64 x18, Value.string s17]))]))) ∧ (atW (World.alloc w16 (Obj.cells (Array.mk [Value.string (ByteArray.mk #[]), Value.int IntKind.i64 0, Value.bool false]) 33 (0, 0))) (fun w21 =>
            ((∃ v22 : Value, (World.cell? w21 (Addr.add (Addr.mk (Array.size (World.heap w16)) 0 none) 0) = some v22)) ∧ ((World.frozen? w21 (Addr.add (Addr.mk (Array.size (World.heap w16)) 0 none) 0) = false) ∧ (atW (World.setCell w21 (Addr.add (Addr.mk (Array.size (World.heap w16)) 0 none) 0) (Value.string s17)) (fun w23 =>
              ((∃ v24 : Value, (World.cell? w23 (Addr.add (Addr.mk (Array.size (World.heap w16)) 0 none) 1) = some v24)) ∧ ((World.frozen? w23 (Addr.add (Addr.mk (Array.size (World.heap w16)) 0 none) 1) = false) ∧ (atW (World.setCell w23 (Addr.add (Addr.mk (Array.size (World.heap w16)) 0 none) 1) (Value.int IntKind.i64 x18)) (fun w25 =>
                ((∃ v26 : Value, (World.cell? w25 (Addr.add (Addr.mk (Array.size (World.heap w16)) 0 none) 2) = some v26)) ∧ ((World.frozen? w25 (Addr.add (Addr.mk (Array.size (World.heap w16)) 0 none) 2) = false) ∧ (atW (World.setCell w25 (Addr.add (Addr.mk (Array.size (World.heap w16)) 0 none) 2) (Value.bool b19)) (fun w27 =>
                  (∃ s28 : ByteArray, ((World.cell? w27 (Addr.add (Addr.mk (Array.size (World.heap w16)) 0 none) 0) = some (Value.string s28)) ∧ (∃ x29 : Int, ((World.cell? w27 (Addr.add (Addr.mk (Array.size (World.heap w16)) 0 none) 1) = some (Value.int IntKind.i64 x29)) ∧ (∃ b30 : Bool, ((World.cell? w27 (Addr.add (Addr.mk (Array.size (World.heap w16)) 0 none) 2) = some (Value.bool b30)) ∧ ((∃ v31 : Value, (World.cell? w27 (Addr.add (Addr.mk (Array.size (World.heap w)) 0 none) 0) = some v31)) ∧ ((World.frozen? w27 (Addr.add (Addr.mk (Array.size (World.heap w)) 0 none) 0) = false) ∧ (atW (World.setCell w27 (Addr.add (Addr.mk (Array.size (World.heap w)) 0 none) 0) (Value.string s28)) (fun w32 =>
                    ((∃ v33 : Value, (World.cell? w32 (Addr.add (Addr.mk (Array.size (World.heap w)) 0 none) 1) = some v33)) ∧ ((World.frozen? w32 (Addr.add (Addr.mk (Array.size (World.heap w)) 0 none) 1) = false) ∧ (atW (World.setCell w32 (Addr.add (Addr.mk (Array.size (World.heap w)) 0 none) 1) (Value.int IntKind.i64 x29)) (fun w34 =>
                      ((∃ v35 : Value, (World.cell? w34 (Addr.add (Addr.mk (Array.size (World.heap w)) 0 none) 2) = some v35)) ∧ ((World.frozen? w34 (Addr.add (Addr.mk (Array.size (World.heap w)) 0 none) 2) = false) ∧ (atW (World.setCell w34 (Addr.add (Addr.mk (Array.size (World.heap w)) 0 none) 2) (Value.bool b30)) (fun w36 =>
                        (∃ s37 : ByteArray, ((World.cell? w36 (Addr.add (Addr.mk (Array.size (World.heap w)) 0 none) 0) = some (Value.string s37)) ∧ (∃ x38 : Int, ((World.cell? w36 (Addr.add (Addr.mk (Array.size (World.heap w)) 0 none) 1) = some (Value.int IntKind.i64 x38)) ∧ (∃ b39 : Bool, ((World.cell? w36 (Addr.add (Addr.mk (Array.size (World.heap w)) 0 none) 2) = some (Value.bool b39)) ∧ (R (Value.tuple (Array.mk [Value.agg (Array.mk (List.reverse [Value.bool b39, Value.int IntKind.i64 x38, Value.string s37])), Value.bool b20])) (w36))))))))))))))))))))))))))))))))))))))))))))))))))))))))))))
theorem ca17 (t : Option Addr) (name : ByteArray) (w : World) (R : Value → World → Prop) (h : W17 t name w R) : Ca Tryz.prog 17 ⟨[(.pointer t), (.string name)]⟩ w R := by
  have h1 : Tryz.prog.follows .mixedOrders = true := by kernel_rfl
  have h2 : Tryz.f17.body = some C17 := by kernel_rfl
  have h3 : (Tryz.f17.name == "runtime.NumGoroutine") = false := by kernel_rfl
  have h6 : Tryz.f17.results.toList = [.cell 4 33, .tmp 5] := by kernel_rfl
  have h4 : Nat.ble 2 23 = true := by kernel_rfl
  have h5 : okCode 23 pl17 ls17 C17 0 = true := by kernel_rfl
  have e : W17 t name w R = wpC none Tryz.prog 23 pl17 ls17 C17 0 (endP Tryz.prog [.cell 4 33, .tmp 5] R) (fr0 [(.pointer t), (.string name)]) [] w := by kernel_rfl
  exact ca_of' (P := Tryz.prog) (g := 17) (fn := Tryz.f17) (c := C17) (m := 23) (rs := [.cell 4 33, .tmp 5]) (args := [(.pointer t), (.string name)]) (pl := pl17) (ls := ls17) (w := w) (R := R) h1 Tryz.func17 h2 Tryz.ntmps17 h6 h3 h4 h5 (Eq.mp e h)

/-- staith/bind.Good -/
noncomputable def C18 : Code := (Tryz.f18.body).getD .skip
def pl18 : Nat → Plan := fun _ => .done
def ls18 : Nat → List (Nat × LT) := fun _ => []
def W18 (x0_ : ByteArray) (x1_ : Int) (x2_ : Bool) (w : World) (R : Value → World → Prop) : Prop :=
  (atW (World.alloc w (Obj.cells (Array.mk [Value.string x0_, Value.int IntKind.i64 x1_, Value.bool x2_]) 33 (0, 0))) (fun w0 =>
    (∃ s1 : ByteArray, ((World.cell? w0 (Addr.add (Addr.mk (Array.size (World.heap w)) 0 none) 0) = some (Value.string s1)) ∧ (Ca Tryz.prog (53) (Array.mk [Value.string s1]) (w0) (fun v2 => (fun w3 =>
      (∃ b4 : Bool, ((v2 = Value.bool b4) ∧ (ifK (b4)
        (∃ x5 : Int, ((World.cell? w3 (Addr.add (Addr.mk (Array.size (World.heap w)) 0 none) 1) = some (Value.int IntKind.i64 x5)) ∧ (ifK (x5 == 1)
          (R (Value.bool true) (w3))
          (∃ x6 : Int, ((World.cell? w3 (Addr.add (Addr.mk (Array.size (World.heap w)) 0 none) 1) = some (Value.int IntKind.i64 x6)) ∧ (ifK (x6 == 2)
            (R (Value.bool true) (w3))
            (∃ x7 : Int, ((World.cell? w3 (Addr.add (Addr.mk (Array.size (World.heap w)) 0 none) 1) = some (Value.int IntKind.i64 x7)) ∧ (R (Value.bool (x7 == 3)) (w3))))))))))
        (R (Value.bool false) (w3))))))))))))
theorem ca18 (x0_ : ByteArray) (x1_ : Int) (x2_ : Bool) (w : World) (R : Value → World → Prop) (h : W18 x0_ x1_ x2_ w R) : Ca Tryz.prog 18 ⟨[(.agg ⟨[(.string x0_), (.int .i64 x1_), (.bool x2_)]⟩)]⟩ w R := by
  have h1 : Tryz.prog.follows .mixedOrders = true := by kernel_rfl
  have h2 : Tryz.f18.body = some C18 := by kernel_rfl
  have h3 : (Tryz.f18.name == "runtime.NumGoroutine") = false := by kernel_rfl
  have h6 : Tryz.f18.results.toList = [.tmp 2] := by kernel_rfl
  have h4 : Nat.ble 1 21 = true := by kernel_rfl
  have h5 : okCode 21 pl18 ls18 C18 0 = true := by kernel_rfl
  have e : W18 x0_ x1_ x2_ w R = wpC none Tryz.prog 21 pl18 ls18 C18 0 (endP Tryz.prog [.tmp 2] R) (fr0 [(.agg ⟨[(.string x0_), (.int .i64 x1_), (.bool x2_)]⟩)]) [] w := by kernel_rfl
  exact ca_of' (P := Tryz.prog) (g := 18) (fn := Tryz.f18) (c := C18) (m := 21) (rs := [.tmp 2]) (args := [(.agg ⟨[(.string x0_), (.int .i64 x1_), (.bool x2_)]⟩)]) (pl := pl18) (ls := ls18) (w := w) (R := R) h1 Tryz.func18 h2 Tryz.ntmps18 h6 h3 h4 h5 (Eq.mp e h)

/-- (*staith/bind.Table).Declare -/
noncomputable def C35 : Code := (Tryz.f35.body).getD .skip
def pl35 : Nat → Plan
  | 5 => (.quiet 0 (.quiet 1 (.quiet 2 (.quiet 3 (.quiet 4 (.quiet 5 (.fork (.eff 6 [] (.quiet 7 (.quiet 8 (.quiet 9 (.eff 10 [3, 5] (.eff 11 [] (.quiet 12 .done))))))) (.eff 10 [3, 5] (.eff 6 [] (.quiet 7 (.quiet 8 (.quiet 9 (.eff 11 [] (.quiet 12 .done))))))))))))))
  | 12 => (.quiet 0 (.quiet 1 (.quiet 2 (.quiet 3 (.quiet 4 (.quiet 5 (.quiet 6 (.eff 7 [] .done))))))))
  | _ => .done
def ls35 : Nat → List (Nat × LT)
  | 6 => [(0, .agg []), (5, (.one .ptr)), (6, (.one .bool))]
  | _ => []
def W35 (t : Option Addr) (x0_ : ByteArray) (x1_ : Int) (x2_ : Bool) (w : World) (R : Value → World → Prop) : Prop :=
  (atW (World.alloc w (Obj.cells (Array.mk [Value.string x0_, Value.int IntKind.i64 x1_, Value.bool x2_]) 33 (0, 0))) (fun w0 =>
    (Ca Tryz.prog (44) (Array.mk [Value.pointer t]) (w0) (fun v1 => (fun w2 =>
      (∃ b3 : Bool, ((v1 = Value.bool b3) ∧ (ifK (!b3)
        (R (Value.int IntKind.i64 1) (w2))
        (∃ s4 : ByteArray, ((World.cell? w2 (Addr.add (Addr.mk (Array.size (World.heap w)) 0 none) 0) = some (Value.string s4)) ∧ (∃ x5 : Int, ((World.cell? w2 (Addr.add (Addr.mk (Array.size (World.heap w)) 0 none) 1) = some (Value.int IntKind.i64 x5)) ∧ (∃ b6 : Bool, ((World.cell? w2 (Addr.add (Addr.mk (Array.size (World.heap w)) 0 none) 2) = some (Value.bool b6)) ∧ (Ca Tryz.prog (18) (Array.mk [Value.agg (Array.mk (List.reverse [Value.bool b6, Value.int IntKind.i64 x5, Value.string s4]))]) (w2) (fun v7 => (fun w8 =>
          (∃ b9 : Bool, ((v7 = Value.bool b9) ∧ (ifK (!b9)
            (R (Value.int IntKind.i64 2) (w8))
            (∃ z10 : Option Addr → Bool → World → Prop, ((atW (World.drew w8) (fun w11 =>
              (onP (t) (fun a12 =>
                (∃ p13 : Option Nat, ((World.cell? w11 (Addr.add a12 0) = some (Value.map p13)) ∧ (∃ s14 : ByteArray, ((World.cell? w11 (Addr.add (Addr.mk (Array.size (World.heap w)) 0 none) 0) = some (Value.string s14)) ∧ ((∃ v15 : Value, (∃ w16 : World, ((Sem.run Tryz.prog (Instr.lookup 67 (Value.map p13) (Value.string s14) true) w11 = Result.ok v15 w16) ∧ (∃ s17 : ByteArray, (∃ x18 : Int, (∃ b19 : Bool, (∃ b20 : Bool, ((v15 = Value.tuple (Array.mk (List.reverse [Value.bool b20, Value.agg (Array.mk (List.reverse [Value.bool b19, Value.int IntKind.i64 x18, Value.string s17]))]))) ∧ (atW (World.alloc w16 (Obj.cells (Array.mk [Value.string (ByteArray.mk #[]), Value.int IntKind.i64 0, Value.bool false]) 33 (0, 0))) (fun w21 =>
                  ((World.cell? w21 (Addr.add (Addr.add a12 0) 0) = some (Value.map p13)) ∧ ((World.cell? w21 (Addr.add (Addr.add (Addr.mk (Array.size (World.heap w)) 0 none) 0) 0) = some (Value.string s14)) ∧ ((∃ v22 : Value, (World.cell? w21 (Addr.add (Addr.mk (Array.size (World.heap w16)) 0 none) 0) = some v22)) ∧ ((World.frozen? w21 (Addr.add (Addr.mk (Array.size (World.heap w16)) 0 none) 0) = false) ∧ (atW (World.setCell w21 (Addr.add (Addr.mk (Array.size (World.heap w16)) 0 none) 0) (Value.string s17)) (fun w23 =>
                    ((∃ v24 : Value, (World.cell? w23 (Addr.add (Addr.mk (Array.size (World.heap w16)) 0 none) 1) = some v24)) ∧ ((World.frozen? w23 (Addr.add (Addr.mk (Array.size (World.heap w16)) 0 none) 1) = false) ∧ (atW (World.setCell w23 (Addr.add (Addr.mk (Array.size (World.heap w16)) 0 none) 1) (Value.int IntKind.i64 x18)) (fun w25 =>
                      ((∃ v26 : Value, (World.cell? w25 (Addr.add (Addr.mk (Array.size (World.heap w16)) 0 none) 2) = some v26)) ∧ ((World.frozen? w25 (Addr.add (Addr.mk (Array.size (World.heap w16)) 0 none) 2) = false) ∧ (atW (World.setCell w25 (Addr.add (Addr.mk (Array.size (World.heap w16)) 0 none) 2) (Value.bool b19)) (fun w27 =>
                        (z10 (some (Addr.mk (Array.size (World.heap w16)) 0 none)) (b20) (w27)))))))))))))))))))))))))) ∧ (atW (World.alloc w11 (Obj.cells (Array.mk [Value.string (ByteArray.mk #[]), Value.int IntKind.i64 0, Value.bool false]) 33 (0, 0))) (fun w28 =>
                  ((World.cell? w28 (Addr.add (Addr.add a12 0) 0) = some (Value.map p13)) ∧ ((World.cell? w28 (Addr.add (Addr.add (Addr.mk (Array.size (World.heap w)) 0 none) 0) 0) = some (Value.string s14)) ∧ (∃ v29 : Value, (∃ w30 : World, ((Sem.run Tryz.prog (Instr.lookup 67 (Value.map p13) (Value.string s14) true) w28 = Result.ok v29 w30) ∧ (∃ s31 : ByteArray, (∃ x32 : Int, (∃ b33 : Bool, (∃ b34 : Bool, ((v29 = Value.tuple (Array.mk (List.reverse [Value.bool b34, Value.agg (Array.mk (List.reverse [Value.bool b33, Value.int IntKind.i64 x32, Value.string s31]))]))) ∧ ((∃ v35 : Value, (World.cell? w30 (Addr.add (Addr.mk (Array.size (World.heap w11)) 0 none) 0) = some v35)) ∧ ((World.frozen? w30 (Addr.add (Addr.mk (Array.size (World.heap w11)) 0 none) 0) = false) ∧ (atW (World.setCell w30 (Addr.add (Addr.mk (Array.size (World.heap w11)) 0 none) 0) (Value.string s31)) (fun w36 =>
                    ((∃ v37 : Value, (World.cell? w36 (Addr.add (Addr.mk (Array.size (World.heap w11)) 0 none) 1) = some v37)) ∧ ((World.frozen? w36 (Addr.add (Addr.mk (Array.size (World.heap w11)) 0 none) 1) = false) ∧ (atW (World.setCell w36 (Addr.add (Addr.mk (Array.size (World.heap w11)) 0 none) 1) (Value.int IntKind.i64 x32)) (fun w38 =>
                      ((∃ v39 : Value, (World.cell? w38 (Addr.add (Addr.mk (Array.size (World.heap w11)) 0 none) 2) = some v39)) ∧ ((World.frozen? w38 (Addr.add (Addr.mk (Array.size (World.heap w11)) 0 none) 2) = false) ∧ (atW (World.setCell w38 (Addr.add (Addr.mk (Array.size (World.heap w11)) 0 none) 2) (Value.bool b33)) (fun w40 =>
                        (z10 (some (Addr.mk (Array.size (World.heap w11)) 0 none)) (b34) (w40))))))))))))))))))))))))))))))))))) ∧ (∀ (_ : Nat → Value), (∀ (p42 : Option Addr), (∀ (b43 : Bool), (∀ (w44 : World), ((z10 (p42) (b43) (w44)) → (ifK (b43)
              (onP (p42) (fun a45 =>
                (∃ s46 : ByteArray, ((World.cell? w44 (Addr.add a45 0) = some (Value.string s46)) ∧ (∃ x47 : Int, ((World.cell? w44 (Addr.add a45 1) = some (Value.int IntKind.i64 x47)) ∧ (∃ b48 : Bool, ((World.cell? w44 (Addr.add a45 2) = some (Value.bool b48)) ∧ (∃ s49 : ByteArray, ((World.cell? w44 (Addr.add (Addr.mk (Array.size (World.heap w)) 0 none) 0) = some (Value.string s49)) ∧ (∃ x50 : Int, ((World.cell? w44 (Addr.add (Addr.mk (Array.size (World.heap w)) 0 none) 1) = some (Value.int IntKind.i64 x50)) ∧ (∃ b51 : Bool, ((World.cell? w44 (Addr.add (Addr.mk (Array.size (World.heap w)) 0 none) 2) = some (Value.bool b51)) ∧ (eqA Tryz.prog 33 (Value.agg (Array.mk (List.reverse [Value.bool b48, Value.int IntKind.i64 x47, Value.string s46]))) (Value.agg (Array.mk (List.reverse [Value.bool b51, Value.int IntKind.i64 x50, Value.string s49]))) (w44) (fun b52 => (fun w53 =>
                  (ifK (b52)
                    (R (Value.int IntKind.i64 0) (w53))
                    (ifK (b43)
                      (R (Value.int IntKind.i64 12) (w53))
                      (onP (t) (fun a54 =>
                        (∃ p55 : Option Nat, ((World.cell? w53 (Addr.add a54 0) = some (Value.map p55)) ∧ (lenM (p55) (w53) (fun x56 =>
                          (ifK (decide (x56 ≥ 8))
                            (R (Value.int IntKind.i64 5) (w53))
                            (atW (World.drew w53) (fun w57 =>
                              (onP (t) (fun a58 =>
                                (∃ p59 : Option Nat, ((World.cell? w57 (Addr.add a58 0) = some (Value.map p59)) ∧ (∃ s60 : ByteArray, ((World.cell? w57 (Addr.add (Addr.mk (Array.size (World.heap w)) 0 none) 0) = some (Value.string s60)) ∧ (∃ s61 : ByteArray, ((World.cell? w57 (Addr.add (Addr.mk (Array.size (World.heap w)) 0 none) 0) = some (Value.string s61)) ∧ (∃ x62 : Int, ((World.cell? w57 (Addr.add (Addr.mk (Array.size (World.heap w)) 0 none) 1) = some (Value.int IntKind.i64 x62)) ∧ (∃ b63 : Bool, ((World.cell? w57 (Addr.add (Addr.mk (Array.size (World.heap w)) 0 none) 2) = some (Value.bool b63)) ∧ (∃ w64 : World, ((Sem.run Tryz.prog (Instr.mapUpdate 67 (Value.map p59) (Value.string s60) (Value.agg (Array.mk (List.reverse [Value.bool b63, Value.int IntKind.i64 x62, Value.string s61])))) w57 = Result.ok () w64) ∧ (R (Value.int IntKind.i64 0) (w64))))))))))))))))))))))))))))))))))))))))))))
              (ifK (b43)
                (R (Value.int IntKind.i64 12) (w44))
                (onP (t) (fun a65 =>
                  (∃ p66 : Option Nat, ((World.cell? w44 (Addr.add a65 0) = some (Value.map p66)) ∧ (lenM (p66) (w44) (fun x67 =>
                    (ifK (decide (x67 ≥ 8))
                      (R (Value.int IntKind.i64 5) (w44))
                      (atW (World.drew w44) (fun w68 =>
                        (onP (t) (fun a69 =>
                          (∃ p70 : Option Nat, ((World.cell? w68 (Addr.add a69 0) = some (Value.map p70)) ∧ (∃ s71 : ByteArray, ((World.cell? w68 (Addr.add (Addr.mk (Array.size (World.heap w)) 0 none) 0) = some (Value.string s71)) ∧ (∃ s72 : ByteArray, ((World.cell? w68 (Addr.add (Addr.mk (Array.size (World.heap w)) 0 none) 0) = some (Value.string s72)) ∧ (∃ x73 : Int, ((World.cell? w68 (Addr.add (Addr.mk (Array.size (World.heap w)) 0 none) 1) = some (Value.int IntKind.i64 x73)) ∧ (∃ b74 : Bool, ((World.cell? w68 (Addr.add (Addr.mk (Array.size (World.heap w)) 0 none) 2) = some (Value.bool b74)) ∧ (∃ w75 : World, ((Sem.run Tryz.prog (Instr.mapUpdate 67 (Value.map p70) (Value.string s71) (Value.agg (Array.mk (List.reverse [Value.bool b74, Value.int IntKind.i64 x73, Value.string s72])))) w68 = Result.ok () w75) ∧ (R (Value.int IntKind.i64 0) (w75))))))))))))))))))))))))))))))))))))))))))))))))))))))
theorem ca35 (t : Option Addr) (x0_ : ByteArray) (x1_ : Int) (x2_ : Bool) (w : World) (R : Value → World → Prop) (h : W35 t x0_ x1_ x2_ w R) : Ca Tryz.prog 35 ⟨[(.pointer t), (.agg ⟨[(.string x0_), (.int .i64 x1_), (.bool x2_)]⟩)]⟩ w R := by
  have h1 : Tryz.prog.follows .mixedOrders = true := by kernel_rfl
  have h2 : Tryz.f35.body = some C35 := by kernel_rfl
  have h3 : (Tryz.f35.name == "runtime.NumGoroutine") = false := by kernel_rfl
  have h6 : Tryz.f35.results.toList = [.tmp 4] := by kernel_rfl
  have h4 : Nat.ble 2 48 = true := by kernel_rfl
  have h5 : okCode 48 pl35 ls35 C35 0 = true := by kernel_rfl
  have e : W35 t x0_ x1_ x2_ w R = wpC none Tryz.prog 48 pl35 ls35 C35 0 (endP Tryz.prog [.tmp 4] R) (fr0 [(.pointer t), (.agg ⟨[(.string x0_), (.int .i64 x1_), (.bool x2_)]⟩)]) [] w := by kernel_rfl
  exact ca_of' (P := Tryz.prog) (g := 35) (fn := Tryz.f35) (c := C35) (m := 48) (rs := [.tmp 4]) (args := [(.pointer t), (.agg ⟨[(.string x0_), (.int .i64 x1_), (.bool x2_)]⟩)]) (pl := pl35) (ls := ls35) (w := w) (R := R) h1 Tryz.func35 h2 Tryz.ntmps35 h6 h3 h4 h5 (Eq.mp e h)

/-- (*staith/bind.Table).Bind -/
noncomputable def C21 : Code := (Tryz.f21.body).getD .skip
def pl21 : Nat → Plan
  | 3 => (.quiet 0 (.quiet 1 (.quiet 2 (.quiet 3 (.quiet 4 (.quiet 5 (.fork (.eff 6 [] (.quiet 7 (.quiet 8 (.quiet 9 (.eff 10 [3, 5] (.eff 11 [] (.quiet 12 .done))))))) (.eff 10 [3, 5] (.eff 6 [] (.quiet 7 (.quiet 8 (.quiet 9 (.eff 11 [] (.quiet 12 .done))))))))))))))
  | 4 => (.quiet 0 (.quiet 1 (.quiet 2 (.quiet 3 (.quiet 4 (.fork (.eff 5 [] (.quiet 6 (.quiet 7 (.quiet 8 (.eff 9 [3, 4] (.eff 10 [] (.quiet 11 .done))))))) (.eff 9 [3, 4] (.eff 5 [] (.quiet 6 (.quiet 7 (.quiet 8 (.eff 10 [] (.quiet 11 .done)))))))))))))
  | 13 => (.quiet 0 (.quiet 1 (.quiet 2 (.quiet 3 (.quiet 4 (.quiet 5 (.eff 6 [] .done)))))))
  | _ => .done
def ls21 : Nat → List (Nat × LT)
  | 4 => [(0, .agg []), (5, (.one .ptr)), (6, (.one .bool))]
  | 5 => [(0, .agg []), (8, (.one .bool))]
  | _ => []
def W21 (t : Option Addr) (b0_ : ByteArray) (b1_ : ByteArray) (b2_ : ByteArray) (w : World) (R : Value → World → Prop) : Prop :=
  (atW (World.alloc w (Obj.cells (Array.mk [Value.string b0_, Value.string b1_, Value.string b2_]) 35 (0, 0))) (fun w0 =>
    (Ca Tryz.prog (44) (Array.mk [Value.pointer t]) (w0) (fun v1 => (fun w2 =>
      (∃ b3 : Bool, ((v1 = Value.bool b3) ∧ (ifK (!b3)
        (R (Value.int IntKind.i64 1) (w2))
        (∃ z4 : Option Addr → Bool → World → Prop, ((atW (World.drew w2) (fun w5 =>
          (onP (t) (fun a6 =>
            (∃ p7 : Option Nat, ((World.cell? w5 (Addr.add a6 0) = some (Value.map p7)) ∧ (∃ s8 : ByteArray, ((World.cell? w5 (Addr.add (Addr.mk (Array.size (World.heap w)) 0 none) 0) = some (Value.string s8)) ∧ ((∃ v9 : Value, (∃ w10 : World, ((Sem.run Tryz.prog (Instr.lookup 67 (Value.map p7) (Value.string s8) true) w5 = Result.ok v9 w10) ∧ (∃ s11 : ByteArray, (∃ x12 : Int, (∃ b13 : Bool, (∃ b14 : Bool, ((v9 = Value.tuple (Array.mk (List.reverse [Value.bool b14, Value.agg (Array.mk (List.reverse [Value.bool b13, Value.int IntKind.i64 x12, Value.string s11]))]))) ∧ (atW (World.alloc w10 (Obj.cells (Array.mk [Value.string (ByteArray.mk #[]), Value.int IntKind.i64 0, Value.bool false]) 33 (0, 0))) (fun w15 =>
              ((World.cell? w15 (Addr.add (Addr.add a6 0) 0) = some (Value.map p7)) ∧ ((World.cell? w15 (Addr.add (Addr.add (Addr.mk (Array.size (World.heap w)) 0 none) 0) 0) = some (Value.string s8)) ∧ ((∃ v16 : Value, (World.cell? w15 (Addr.add (Addr.mk (Array.size (World.heap w10)) 0 none) 0) = some v16)) ∧ ((World.frozen? w15 (Addr.add (Addr.mk (Array.size (World.heap w10)) 0 none) 0) = false) ∧ (atW (World.setCell w15 (Addr.add (Addr.mk (Array.size (World.heap w10)) 0 none) 0) (Value.string s11)) (fun w17 =>
                ((∃ v18 : Value, (World.cell? w17 (Addr.add (Addr.mk (Array.size (World.heap w10)) 0 none) 1) = some v18)) ∧ ((World.frozen? w17 (Addr.add (Addr.mk (Array.size (World.heap w10)) 0 none) 1) = false) ∧ (atW (World.setCell w17 (Addr.add (Addr.mk (Array.size (World.heap w10)) 0 none) 1) (Value.int IntKind.i64 x12)) (fun w19 =>
                  ((∃ v20 : Value, (World.cell? w19 (Addr.add (Addr.mk (Array.size (World.heap w10)) 0 none) 2) = some v20)) ∧ ((World.frozen? w19 (Addr.add (Addr.mk (Array.size (World.heap w10)) 0 none) 2) = false) ∧ (atW (World.setCell w19 (Addr.add (Addr.mk (Array.size (World.heap w10)) 0 none) 2) (Value.bool b13)) (fun w21 =>
                    (z4 (some (Addr.mk (Array.size (World.heap w10)) 0 none)) (b14) (w21)))))))))))))))))))))))))) ∧ (atW (World.alloc w5 (Obj.cells (Array.mk [Value.string (ByteArray.mk #[]), Value.int IntKind.i64 0, Value.bool false]) 33 (0, 0))) (fun w22 =>
              ((World.cell? w22 (Addr.add (Addr.add a6 0) 0) = some (Value.map p7)) ∧ ((World.cell? w22 (Addr.add (Addr.add (Addr.mk (Array.size (World.heap w)) 0 none) 0) 0) = some (Value.string s8)) ∧ (∃ v23 : Value, (∃ w24 : World, ((Sem.run Tryz.prog (Instr.lookup 67 (Value.map p7) (Value.string s8) true) w22 = Result.ok v23 w24) ∧ (∃ s25 : ByteArray, (∃ x26 : Int, (∃ b27 : Bool, (∃ b28 : Bool, ((v23 = Value.tuple (Array.mk (List.reverse [Value.bool b28, Value.agg (Array.mk (List.reverse [Value.bool b27, Value.int IntKind.i64 x26, Value.string s25]))]))) ∧ ((∃ v29 : Value, (World.cell? w24 (Addr.add (Addr.mk (Array.size (World.heap w5)) 0 none) 0) = some v29)) ∧ ((World.frozen? w24 (Addr.add (Addr.mk (Array.size (World.heap w5)) 0 none) 0) = false) ∧ (atW (World.setCell w24 (Addr.add (Addr.mk (Array.size (World.heap w5)) 0 none) 0) (Value.string s25)) (fun w30 =>
                ((∃ v31 : Value, (World.cell? w30 (Addr.add (Addr.mk (Array.size (World.heap w5)) 0 none) 1) = some v31)) ∧ ((World.frozen? w30 (Addr.add (Addr.mk (Array.size (World.heap w5)) 0 none) 1) = false) ∧ (atW (World.setCell w30 (Addr.add (Addr.mk (Array.size (World.heap w5)) 0 none) 1) (Value.int IntKind.i64 x26)) (fun w32 =>
                  ((∃ v33 : Value, (World.cell? w32 (Addr.add (Addr.mk (Array.size (World.heap w5)) 0 none) 2) = some v33)) ∧ ((World.frozen? w32 (Addr.add (Addr.mk (Array.size (World.heap w5)) 0 none) 2) = false) ∧ (atW (World.setCell w32 (Addr.add (Addr.mk (Array.size (World.heap w5)) 0 none) 2) (Value.bool b27)) (fun w34 =>
                    (z4 (some (Addr.mk (Array.size (World.heap w5)) 0 none)) (b28) (w34))))))))))))))))))))))))))))))))))) ∧ (∀ (_ : Nat → Value), (∀ (p36 : Option Addr), (∀ (b37 : Bool), (∀ (w38 : World), ((z4 (p36) (b37) (w38)) → (∃ z39 : Bool → World → Prop, ((atW (World.drew w38) (fun w40 =>
          (onP (t) (fun a41 =>
            (∃ p42 : Option Nat, ((World.cell? w40 (Addr.add a41 1) = some (Value.map p42)) ∧ (∃ s43 : ByteArray, ((World.cell? w40 (Addr.add (Addr.mk (Array.size (World.heap w)) 0 none) 0) = some (Value.string s43)) ∧ (∃ s44 : ByteArray, ((World.cell? w40 (Addr.add (Addr.mk (Array.size (World.heap w)) 0 none) 1) = some (Value.string s44)) ∧ (∃ s45 : ByteArray, ((World.cell? w40 (Addr.add (Addr.mk (Array.size (World.heap w)) 0 none) 2) = some (Value.string s45)) ∧ ((∃ v46 : Value, (∃ w47 : World, ((Sem.run Tryz.prog (Instr.lookup 68 (Value.map p42) (Value.agg (Array.mk (List.reverse [Value.string s45, Value.string s44, Value.string s43]))) true) w40 = Result.ok v46 w47) ∧ (∃ b48 : Bool, ((v46 = Value.tuple (Array.mk (List.reverse [Value.bool b48, Value.agg (Array.mk (List.reverse []))]))) ∧ (atW (World.alloc w47 (Obj.cells (Array.mk []) 85 (0, 0))) (fun w49 =>
              ((World.cell? w49 (Addr.add (Addr.add a41 1) 0) = some (Value.map p42)) ∧ ((World.cell? w49 (Addr.add (Addr.mk (Array.size (World.heap w)) 0 none) 0) = some (Value.string s43)) ∧ ((World.cell? w49 (Addr.add (Addr.mk (Array.size (World.heap w)) 0 none) 1) = some (Value.string s44)) ∧ ((World.cell? w49 (Addr.add (Addr.mk (Array.size (World.heap w)) 0 none) 2) = some (Value.string s45)) ∧ (z39 (b48) (w49))))))))))))) ∧ (atW (World.alloc w40 (Obj.cells (Array.mk []) 85 (0, 0))) (fun w50 =>
              ((World.cell? w50 (Addr.add (Addr.add a41 1) 0) = some (Value.map p42)) ∧ ((World.cell? w50 (Addr.add (Addr.mk (Array.size (World.heap w)) 0 none) 0) = some (Value.string s43)) ∧ ((World.cell? w50 (Addr.add (Addr.mk (Array.size (World.heap w)) 0 none) 1) = some (Value.string s44)) ∧ ((World.cell? w50 (Addr.add (Addr.mk (Array.size (World.heap w)) 0 none) 2) = some (Value.string s45)) ∧ (∃ v51 : Value, (∃ w52 : World, ((Sem.run Tryz.prog (Instr.lookup 68 (Value.map p42) (Value.agg (Array.mk (List.reverse [Value.string s45, Value.string s44, Value.string s43]))) true) w50 = Result.ok v51 w52) ∧ (∃ b53 : Bool, ((v51 = Value.tuple (Array.mk (List.reverse [Value.bool b53, Value.agg (Array.mk (List.reverse []))]))) ∧ (z39 (b53) (w52)))))))))))))))))))))))))) ∧ (∀ (_ : Nat → Value), (∀ (b55 : Bool), (∀ (w56 : World), ((z39 (b55) (w56)) → (∃ s57 : ByteArray, ((World.cell? w56 (Addr.add (Addr.mk (Array.size (World.heap w)) 0 none) 1) = some (Value.string s57)) ∧ (Ca Tryz.prog (53) (Array.mk [Value.string s57]) (w56) (fun v58 => (fun w59 =>
          (∃ b60 : Bool, ((v58 = Value.bool b60) ∧ (ifK (!b60)
            (R (Value.int IntKind.i64 2) (w59))
            (ifK (!b37)
              (R (Value.int IntKind.i64 3) (w59))
              (onP (p36) (fun a61 =>
                (∃ s62 : ByteArray, ((World.cell? w59 (Addr.add a61 0) = some (Value.string s62)) ∧ (∃ x63 : Int, ((World.cell? w59 (Addr.add a61 1) = some (Value.int IntKind.i64 x63)) ∧ (∃ b64 : Bool, ((World.cell? w59 (Addr.add a61 2) = some (Value.bool b64)) ∧ (∃ s65 : ByteArray, ((World.cell? w59 (Addr.add (Addr.mk (Array.size (World.heap w)) 0 none) 2) = some (Value.string s65)) ∧ (Ca Tryz.prog (56) (Array.mk [Value.agg (Array.mk (List.reverse [Value.bool b64, Value.int IntKind.i64 x63, Value.string s62])), Value.string s65]) (w59) (fun v66 => (fun w67 =>
                  (∃ b68 : Bool, ((v66 = Value.bool b68) ∧ (ifK (!b68)
                    (R (Value.int IntKind.i64 2) (w67))
                    (ifK (!b55)
                      (onP (t) (fun a69 =>
                        (∃ p70 : Option Nat, ((World.cell? w67 (Addr.add a69 1) = some (Value.map p70)) ∧ (lenM (p70) (w67) (fun x71 =>
                          (ifK (decide (x71 ≥ 32))
                            (R (Value.int IntKind.i64 5) (w67))
                            (atW (World.drew w67) (fun w72 =>
                              (onP (t) (fun a73 =>
                                (∃ p74 : Option Nat, ((World.cell? w72 (Addr.add a73 1) = some (Value.map p74)) ∧ (∃ s75 : ByteArray, ((World.cell? w72 (Addr.add (Addr.mk (Array.size (World.heap w)) 0 none) 0) = some (Value.string s75)) ∧ (∃ s76 : ByteArray, ((World.cell? w72 (Addr.add (Addr.mk (Array.size (World.heap w)) 0 none) 1) = some (Value.string s76)) ∧ (∃ s77 : ByteArray, ((World.cell? w72 (Addr.add (Addr.mk (Array.size (World.heap w)) 0 none) 2) = some (Value.string s77)) ∧ (∃ w78 : World, ((Sem.run Tryz.prog (Instr.mapUpdate 68 (Value.map p74) (Value.agg (Array.mk (List.reverse [Value.string s77, Value.string s76, Value.string s75]))) (Value.agg (Array.mk (Array.toList (Array.mk []))))) w72 = Result.ok () w78) ∧ (R (Value.int IntKind.i64 0) (w78)))))))))))))))))))))))
                      (atW (World.drew w67) (fun w79 =>
                        (onP (t) (fun a80 =>
                          (∃ p81 : Option Nat, ((World.cell? w79 (Addr.add a80 1) = some (Value.map p81)) ∧ (∃ s82 : ByteArray, ((World.cell? w79 (Addr.add (Addr.mk (Array.size (World.heap w)) 0 none) 0) = some (Value.string s82)) ∧ (∃ s83 : ByteArray, ((World.cell? w79 (Addr.add (Addr.mk (Array.size (World.heap w)) 0 none) 1) = some (Value.string s83)) ∧ (∃ s84 : ByteArray, ((World.cell? w79 (Addr.add (Addr.mk (Array.size (World.heap w)) 0 none) 2) = some (Value.string s84)) ∧ (∃ w85 : World, ((Sem.run Tryz.prog (Instr.mapUpdate 68 (Value.map p81) (Value.agg (Array.mk (List.reverse [Value.string s84, Value.string s83, Value.string s82]))) (Value.agg (Array.mk (Array.toList (Array.mk []))))) w79 = Result.ok () w85) ∧ (R (Value.int IntKind.i64 0) (w85)))))))))))))))))))))))))))))))))))))))))))))))))))))))))))))))
theorem ca21 (t : Option Addr) (b0_ : ByteArray) (b1_ : ByteArray) (b2_ : ByteArray) (w : World) (R : Value → World → Prop) (h : W21 t b0_ b1_ b2_ w R) : Ca Tryz.prog 21 ⟨[(.pointer t), (.agg ⟨[(.string b0_), (.string b1_), (.string b2_)]⟩)]⟩ w R := by
  have h1 : Tryz.prog.follows .mixedOrders = true := by kernel_rfl
  have h2 : Tryz.f21.body = some C21 := by kernel_rfl
  have h3 : (Tryz.f21.name == "runtime.NumGoroutine") = false := by kernel_rfl
  have h6 : Tryz.f21.results.toList = [.tmp 4] := by kernel_rfl
  have h4 : Nat.ble 2 62 = true := by kernel_rfl
  have h5 : okCode 62 pl21 ls21 C21 0 = true := by kernel_rfl
  have e : W21 t b0_ b1_ b2_ w R = wpC none Tryz.prog 62 pl21 ls21 C21 0 (endP Tryz.prog [.tmp 4] R) (fr0 [(.pointer t), (.agg ⟨[(.string b0_), (.string b1_), (.string b2_)]⟩)]) [] w := by kernel_rfl
  exact ca_of' (P := Tryz.prog) (g := 21) (fn := Tryz.f21) (c := C21) (m := 62) (rs := [.tmp 4]) (args := [(.pointer t), (.agg ⟨[(.string b0_), (.string b1_), (.string b2_)]⟩)]) (pl := pl21) (ls := ls21) (w := w) (R := R) h1 Tryz.func21 h2 Tryz.ntmps21 h6 h3 h4 h5 (Eq.mp e h)

/-- (*staith/bind.Table).Drop -/
noncomputable def C23 : Code := (Tryz.f23.body).getD .skip
def pl23 : Nat → Plan
  | 3 => (.quiet 0 (.quiet 1 (.quiet 2 (.quiet 3 (.quiet 4 (.fork (.eff 5 [] (.quiet 6 (.quiet 7 (.quiet 8 (.eff 9 [3, 4] (.eff 10 [] (.quiet 11 .done))))))) (.eff 9 [3, 4] (.eff 5 [] (.quiet 6 (.quiet 7 (.quiet 8 (.eff 10 [] (.quiet 11 .done)))))))))))))
  | 6 => (.quiet 0 (.quiet 1 (.quiet 2 (.quiet 3 (.quiet 4 (.eff 5 [] .done))))))
  | _ => .done
def ls23 : Nat → List (Nat × LT)
  | 5 => [(0, .agg []), (6, (.one .bool))]
  | _ => []
def W23 (t : Option Addr) (name : ByteArray) (w : World) (R : Value → World → Prop) : Prop :=
  (atW (World.alloc w (Obj.cells (Array.mk [Value.string name]) 9 (0, 0))) (fun w0 =>
    (Ca Tryz.prog (44) (Array.mk [Value.pointer t]) (w0) (fun v1 => (fun w2 =>
      (∃ b3 : Bool, ((v1 = Value.bool b3) ∧ (ifK (!b3)
        (R (Value.int IntKind.i64 1) (w2))
        (∃ z4 : Bool → World → Prop, ((atW (World.drew w2) (fun w5 =>
          (onP (t) (fun a6 =>
            (∃ p7 : Option Nat, ((World.cell? w5 (Addr.add a6 0) = some (Value.map p7)) ∧ (∃ s8 : ByteArray, ((World.cell? w5 (Addr.mk (Array.size (World.heap w)) 0 none) = some (Value.string s8)) ∧ ((∃ v9 : Value, (∃ w10 : World, ((Sem.run Tryz.prog (Instr.lookup 67 (Value.map p7) (Value.string s8) true) w5 = Result.ok v9 w10) ∧ (∃ s11 : ByteArray, (∃ x12 : Int, (∃ b13 : Bool, (∃ b14 : Bool, ((v9 = Value.tuple (Array.mk (List.reverse [Value.bool b14, Value.agg (Array.mk (List.reverse [Value.bool b13, Value.int IntKind.i64 x12, Value.string s11]))]))) ∧ (atW (World.alloc w10 (Obj.cells (Array.mk [Value.string (ByteArray.mk #[]), Value.int IntKind.i64 0, Value.bool false]) 33 (0, 0))) (fun w15 =>
              ((World.cell? w15 (Addr.add (Addr.add a6 0) 0) = some (Value.map p7)) ∧ ((World.cell? w15 (Addr.add (Addr.mk (Array.size (World.heap w)) 0 none) 0) = some (Value.string s8)) ∧ ((∃ v16 : Value, (World.cell? w15 (Addr.add (Addr.mk (Array.size (World.heap w10)) 0 none) 0) = some v16)) ∧ ((World.frozen? w15 (Addr.add (Addr.mk (Array.size (World.heap w10)) 0 none) 0) = false) ∧ (atW (World.setCell w15 (Addr.add (Addr.mk (Array.size (World.heap w10)) 0 none) 0) (Value.string s11)) (fun w17 =>
                ((∃ v18 : Value, (World.cell? w17 (Addr.add (Addr.mk (Array.size (World.heap w10)) 0 none) 1) = some v18)) ∧ ((World.frozen? w17 (Addr.add (Addr.mk (Array.size (World.heap w10)) 0 none) 1) = false) ∧ (atW (World.setCell w17 (Addr.add (Addr.mk (Array.size (World.heap w10)) 0 none) 1) (Value.int IntKind.i64 x12)) (fun w19 =>
                  ((∃ v20 : Value, (World.cell? w19 (Addr.add (Addr.mk (Array.size (World.heap w10)) 0 none) 2) = some v20)) ∧ ((World.frozen? w19 (Addr.add (Addr.mk (Array.size (World.heap w10)) 0 none) 2) = false) ∧ (atW (World.setCell w19 (Addr.add (Addr.mk (Array.size (World.heap w10)) 0 none) 2) (Value.bool b13)) (fun w21 =>
                    (z4 (b14) (w21)))))))))))))))))))))))))) ∧ (atW (World.alloc w5 (Obj.cells (Array.mk [Value.string (ByteArray.mk #[]), Value.int IntKind.i64 0, Value.bool false]) 33 (0, 0))) (fun w22 =>
              ((World.cell? w22 (Addr.add (Addr.add a6 0) 0) = some (Value.map p7)) ∧ ((World.cell? w22 (Addr.add (Addr.mk (Array.size (World.heap w)) 0 none) 0) = some (Value.string s8)) ∧ (∃ v23 : Value, (∃ w24 : World, ((Sem.run Tryz.prog (Instr.lookup 67 (Value.map p7) (Value.string s8) true) w22 = Result.ok v23 w24) ∧ (∃ s25 : ByteArray, (∃ x26 : Int, (∃ b27 : Bool, (∃ b28 : Bool, ((v23 = Value.tuple (Array.mk (List.reverse [Value.bool b28, Value.agg (Array.mk (List.reverse [Value.bool b27, Value.int IntKind.i64 x26, Value.string s25]))]))) ∧ ((∃ v29 : Value, (World.cell? w24 (Addr.add (Addr.mk (Array.size (World.heap w5)) 0 none) 0) = some v29)) ∧ ((World.frozen? w24 (Addr.add (Addr.mk (Array.size (World.heap w5)) 0 none) 0) = false) ∧ (atW (World.setCell w24 (Addr.add (Addr.mk (Array.size (World.heap w5)) 0 none) 0) (Value.string s25)) (fun w30 =>
                ((∃ v31 : Value, (World.cell? w30 (Addr.add (Addr.mk (Array.size (World.heap w5)) 0 none) 1) = some v31)) ∧ ((World.frozen? w30 (Addr.add (Addr.mk (Array.size (World.heap w5)) 0 none) 1) = false) ∧ (atW (World.setCell w30 (Addr.add (Addr.mk (Array.size (World.heap w5)) 0 none) 1) (Value.int IntKind.i64 x26)) (fun w32 =>
                  ((∃ v33 : Value, (World.cell? w32 (Addr.add (Addr.mk (Array.size (World.heap w5)) 0 none) 2) = some v33)) ∧ ((World.frozen? w32 (Addr.add (Addr.mk (Array.size (World.heap w5)) 0 none) 2) = false) ∧ (atW (World.setCell w32 (Addr.add (Addr.mk (Array.size (World.heap w5)) 0 none) 2) (Value.bool b27)) (fun w34 =>
                    (z4 (b28) (w34))))))))))))))))))))))))))))))))))) ∧ (∀ (_ : Nat → Value), (∀ (b36 : Bool), (∀ (w37 : World), ((z4 (b36) (w37)) → (ifK (!b36)
          (R (Value.int IntKind.i64 3) (w37))
          (atW (World.drew w37) (fun w38 =>
            (onP (t) (fun a39 =>
              (∃ p40 : Option Nat, ((World.cell? w38 (Addr.add a39 0) = some (Value.map p40)) ∧ (∃ s41 : ByteArray, ((World.cell? w38 (Addr.mk (Array.size (World.heap w)) 0 none) = some (Value.string s41)) ∧ (∃ v42 : Value, (∃ w43 : World, ((Sem.run Tryz.prog (Builtin.delete_ (Array.mk [67, 9]) 0 (Array.mk [Value.map p40, Value.string s41])) w38 = Result.ok v42 w43) ∧ ((v42 = Value.tuple (Array.mk (List.reverse []))) ∧ (Ca Tryz.prog (57) (Array.mk [Value.pointer t, Value.func (Fn.func 59) (Array.mk []) (Array.mk [Value.pointer (some (Addr.mk (Array.size (World.heap w)) 0 none))])]) (w43) (fun v44 => (fun w45 =>
                (∃ x46 : Int, ((v44 = Value.int IntKind.i64 x46) ∧ (R (Value.int IntKind.i64 0) (w45))))))))))))))))))))))))))))))))))
theorem ca23 (t : Option Addr) (name : ByteArray) (w : World) (R : Value → World → Prop) (h : W23 t name w R) : Ca Tryz.prog 23 ⟨[(.pointer t), (.string name)]⟩ w R := by
  have h1 : Tryz.prog.follows .mixedOrders = true := by kernel_rfl
  have h2 : Tryz.f23.body = some C23 := by kernel_rfl
  have h3 : (Tryz.f23.name == "runtime.NumGoroutine") = false := by kernel_rfl
  have h6 : Tryz.f23.results.toList = [.tmp 4] := by kernel_rfl
  have h4 : Nat.ble 2 29 = true := by kernel_rfl
  have h5 : okCode 29 pl23 ls23 C23 0 = true := by kernel_rfl
  have e : W23 t name w R = wpC none Tryz.prog 29 pl23 ls23 C23 0 (endP Tryz.prog [.tmp 4] R) (fr0 [(.pointer t), (.string name)]) [] w := by kernel_rfl
  exact ca_of' (P := Tryz.prog) (g := 23) (fn := Tryz.f23) (c := C23) (m := 29) (rs := [.tmp 4]) (args := [(.pointer t), (.string name)]) (pl := pl23) (ls := ls23) (w := w) (R := R) h1 Tryz.func23 h2 Tryz.ntmps23 h6 h3 h4 h5 (Eq.mp e h)

/-- staith/bind.may -/
noncomputable def C56 : Code := (Tryz.f56.body).getD .skip
def pl56 : Nat → Plan := fun _ => .done
def ls56 : Nat → List (Nat × LT) := fun _ => []
def W56 (x0_ : ByteArray) (x1_ : Int) (x2_ : Bool) (pattern : ByteArray) (w : World) (R : Value → World → Prop) : Prop :=
  (atW (World.alloc w (Obj.cells (Array.mk [Value.string x0_, Value.int IntKind.i64 x1_, Value.bool x2_]) 33 (0, 0))) (fun w0 =>
    (∃ x1 : Int, ((World.cell? w0 (Addr.add (Addr.mk (Array.size (World.heap w)) 0 none) 1) = some (Value.int IntKind.i64 x1)) ∧ (ifK (x1 == 1)
      (Ca Tryz.prog (66) (Array.mk [Value.string pattern]) (w0) (fun v2 => (fun w3 =>
        (∃ b4 : Bool, ((v2 = Value.bool b4) ∧ (R (Value.bool b4) (w3)))))))
      (ifK (x1 == 3)
        (Ca Tryz.prog (84) (Array.mk [Value.string pattern]) (w0) (fun v5 => (fun w6 =>
          (∃ b7 : Bool, ((v5 = Value.bool b7) ∧ (R (Value.bool b7) (w6)))))))
        (R (Value.bool (ByteArray.toList pattern == ByteArray.toList (ByteArray.mk #[]))) (w0))))))))
theorem ca56 (x0_ : ByteArray) (x1_ : Int) (x2_ : Bool) (pattern : ByteArray) (w : World) (R : Value → World → Prop) (h : W56 x0_ x1_ x2_ pattern w R) : Ca Tryz.prog 56 ⟨[(.agg ⟨[(.string x0_), (.int .i64 x1_), (.bool x2_)]⟩), (.string pattern)]⟩ w R := by
  have h1 : Tryz.prog.follows .mixedOrders = true := by kernel_rfl
  have h2 : Tryz.f56.body = some C56 := by kernel_rfl
  have h3 : (Tryz.f56.name == "runtime.NumGoroutine") = false := by kernel_rfl
  have h6 : Tryz.f56.results.toList = [.tmp 4] := by kernel_rfl
  have h4 : Nat.ble 2 17 = true := by kernel_rfl
  have h5 : okCode 17 pl56 ls56 C56 0 = true := by kernel_rfl
  have e : W56 x0_ x1_ x2_ pattern w R = wpC none Tryz.prog 17 pl56 ls56 C56 0 (endP Tryz.prog [.tmp 4] R) (fr0 [(.agg ⟨[(.string x0_), (.int .i64 x1_), (.bool x2_)]⟩), (.string pattern)]) [] w := by kernel_rfl
  exact ca_of' (P := Tryz.prog) (g := 56) (fn := Tryz.f56) (c := C56) (m := 17) (rs := [.tmp 4]) (args := [(.agg ⟨[(.string x0_), (.int .i64 x1_), (.bool x2_)]⟩), (.string pattern)]) (pl := pl56) (ls := ls56) (w := w) (R := R) h1 Tryz.func56 h2 Tryz.ntmps56 h6 h3 h4 h5 (Eq.mp e h)

/-- staith/topic.Name -/
noncomputable def C53 : Code := (Tryz.f53.body).getD .skip
def pl53 : Nat → Plan := fun _ => .done
def ls53 : Nat → List (Nat × LT) := fun _ => []
def W53 (s : ByteArray) (w : World) (R : Value → World → Prop) : Prop :=
  (ifK (decide ((↑(ByteArray.size s) : Int) ≤ 20))
    (Ca Tryz.prog (82) (Array.mk [Value.string s]) (w) (fun v0 => (fun w1 =>
      (∃ b2 : Bool, ((v0 = Value.bool b2) ∧ (R (Value.bool b2) (w1)))))))
    (R (Value.bool false) (w)))
theorem ca53 (s : ByteArray) (w : World) (R : Value → World → Prop) (h : W53 s w R) : Ca Tryz.prog 53 ⟨[(.string s)]⟩ w R := by
  have h1 : Tryz.prog.follows .mixedOrders = true := by kernel_rfl
  have h2 : Tryz.f53.body = some C53 := by kernel_rfl
  have h3 : (Tryz.f53.name == "runtime.NumGoroutine") = false := by kernel_rfl
  have h6 : Tryz.f53.results.toList = [.tmp 2] := by kernel_rfl
  have h4 : Nat.ble 1 10 = true := by kernel_rfl
  have h5 : okCode 10 pl53 ls53 C53 0 = true := by kernel_rfl
  have e : W53 s w R = wpC none Tryz.prog 10 pl53 ls53 C53 0 (endP Tryz.prog [.tmp 2] R) (fr0 [(.string s)]) [] w := by kernel_rfl
  exact ca_of' (P := Tryz.prog) (g := 53) (fn := Tryz.f53) (c := C53) (m := 10) (rs := [.tmp 2]) (args := [(.string s)]) (pl := pl53) (ls := ls53) (w := w) (R := R) h1 Tryz.func53 h2 Tryz.ntmps53 h6 h3 h4 h5 (Eq.mp e h)

/-- staith/topic.plain -/
noncomputable def C82 : Code := (Tryz.f82.body).getD .skip
def pl82 : Nat → Plan := fun _ => .done
def ls82 : Nat → List (Nat × LT)
  | 3 => []
  | _ => []
def W82 (w_ : ByteArray) (w : World) (R : Value → World → Prop) : Prop :=
  (atW (World.alloc w (Obj.stringIter w_ 0)) (fun w0 =>
    (∃ z1 : World → Prop, (∃ z2 : World → Nat, ((z1 (w0)) ∧ (∀ (_ : Nat → Value), (∀ (w4 : World), ((z1 (w4)) → (nxtS (Array.size (World.heap w)) (w4) (fun _ => (fun x6 => (fun w7 =>
      (ifK (decide (x6 ≥ 97))
        (ifK (decide (x6 ≤ 122))
          ((z1 (w7)) ∧ (z2 w7 < z2 w4))
          (ifK (decide (x6 ≥ 48))
            (ifK (decide (x6 ≤ 57))
              ((z1 (w7)) ∧ (z2 w7 < z2 w4))
              (ifK (x6 == 45)
                ((z1 (w7)) ∧ (z2 w7 < z2 w4))
                (ifK (x6 == 95)
                  ((z1 (w7)) ∧ (z2 w7 < z2 w4))
                  (R (Value.bool false) (w7)))))
            (ifK (x6 == 45)
              ((z1 (w7)) ∧ (z2 w7 < z2 w4))
              (ifK (x6 == 95)
                ((z1 (w7)) ∧ (z2 w7 < z2 w4))
                (R (Value.bool false) (w7))))))
        (ifK (decide (x6 ≥ 48))
          (ifK (decide (x6 ≤ 57))
            ((z1 (w7)) ∧ (z2 w7 < z2 w4))
            (ifK (x6 == 45)
              ((z1 (w7)) ∧ (z2 w7 < z2 w4))
              (ifK (x6 == 95)
                ((z1 (w7)) ∧ (z2 w7 < z2 w4))
                (R (Value.bool false) (w7)))))
          (ifK (x6 == 45)
            ((z1 (w7)) ∧ (z2 w7 < z2 w4))
            (ifK (x6 == 95)
              ((z1 (w7)) ∧ (z2 w7 < z2 w4))
              (R (Value.bool false) (w7))))))))) (fun w8 =>
      (R (Value.bool !ByteArray.toList w_ == ByteArray.toList (ByteArray.mk #[])) (w8))))))))))))
theorem ca82 (w_ : ByteArray) (w : World) (R : Value → World → Prop) (h : W82 w_ w R) : Ca Tryz.prog 82 ⟨[(.string w_)]⟩ w R := by
  have h1 : Tryz.prog.follows .mixedOrders = true := by kernel_rfl
  have h2 : Tryz.f82.body = some C82 := by kernel_rfl
  have h3 : (Tryz.f82.name == "runtime.NumGoroutine") = false := by kernel_rfl
  have h6 : Tryz.f82.results.toList = [.tmp 2] := by kernel_rfl
  have h4 : Nat.ble 1 29 = true := by kernel_rfl
  have h5 : okCode 29 pl82 ls82 C82 0 = true := by kernel_rfl
  have e : W82 w_ w R = wpC none Tryz.prog 29 pl82 ls82 C82 0 (endP Tryz.prog [.tmp 2] R) (fr0 [(.string w_)]) [] w := by kernel_rfl
  exact ca_of' (P := Tryz.prog) (g := 82) (fn := Tryz.f82) (c := C82) (m := 29) (rs := [.tmp 2]) (args := [(.string w_)]) (pl := pl82) (ls := ls82) (w := w) (R := R) h1 Tryz.func82 h2 Tryz.ntmps82 h6 h3 h4 h5 (Eq.mp e h)

/-- staith/topic.Key -/
noncomputable def C66 : Code := (Tryz.f66.body).getD .skip
def pl66 : Nat → Plan := fun _ => .done
def ls66 : Nat → List (Nat × LT) := fun _ => []
def W66 (s : ByteArray) (w : World) (R : Value → World → Prop) : Prop :=
  (Ca Tryz.prog (89) (Array.mk [Value.string s, Value.func (Fn.func 82) #[] #[]]) (w) (fun v0 => (fun w1 =>
    (∃ b2 : Bool, ((v0 = Value.bool b2) ∧ (R (Value.bool b2) (w1)))))))
theorem ca66 (s : ByteArray) (w : World) (R : Value → World → Prop) (h : W66 s w R) : Ca Tryz.prog 66 ⟨[(.string s)]⟩ w R := by
  have h1 : Tryz.prog.follows .mixedOrders = true := by kernel_rfl
  have h2 : Tryz.f66.body = some C66 := by kernel_rfl
  have h3 : (Tryz.f66.name == "runtime.NumGoroutine") = false := by kernel_rfl
  have h6 : Tryz.f66.results.toList = [.tmp 2] := by kernel_rfl
  have h4 : Nat.ble 1 5 = true := by kernel_rfl
  have h5 : okCode 5 pl66 ls66 C66 0 = true := by kernel_rfl
  have e : W66 s w R = wpC none Tryz.prog 5 pl66 ls66 C66 0 (endP Tryz.prog [.tmp 2] R) (fr0 [(.string s)]) [] w := by kernel_rfl
  exact ca_of' (P := Tryz.prog) (g := 66) (fn := Tryz.f66) (c := C66) (m := 5) (rs := [.tmp 2]) (args := [(.string s)]) (pl := pl66) (ls := ls66) (w := w) (R := R) h1 Tryz.func66 h2 Tryz.ntmps66 h6 h3 h4 h5 (Eq.mp e h)

/-- staith/topic.Pattern -/
noncomputable def C84 : Code := (Tryz.f84.body).getD .skip
def pl84 : Nat → Plan := fun _ => .done
def ls84 : Nat → List (Nat × LT) := fun _ => []
def W84 (s : ByteArray) (w : World) (R : Value → World → Prop) : Prop :=
  (Ca Tryz.prog (89) (Array.mk [Value.string s, Value.func (Fn.func 103) #[] #[]]) (w) (fun v0 => (fun w1 =>
    (∃ b2 : Bool, ((v0 = Value.bool b2) ∧ (R (Value.bool b2) (w1)))))))
theorem ca84 (s : ByteArray) (w : World) (R : Value → World → Prop) (h : W84 s w R) : Ca Tryz.prog 84 ⟨[(.string s)]⟩ w R := by
  have h1 : Tryz.prog.follows .mixedOrders = true := by kernel_rfl
  have h2 : Tryz.f84.body = some C84 := by kernel_rfl
  have h3 : (Tryz.f84.name == "runtime.NumGoroutine") = false := by kernel_rfl
  have h6 : Tryz.f84.results.toList = [.tmp 2] := by kernel_rfl
  have h4 : Nat.ble 1 5 = true := by kernel_rfl
  have h5 : okCode 5 pl84 ls84 C84 0 = true := by kernel_rfl
  have e : W84 s w R = wpC none Tryz.prog 5 pl84 ls84 C84 0 (endP Tryz.prog [.tmp 2] R) (fr0 [(.string s)]) [] w := by kernel_rfl
  exact ca_of' (P := Tryz.prog) (g := 84) (fn := Tryz.f84) (c := C84) (m := 5) (rs := [.tmp 2]) (args := [(.string s)]) (pl := pl84) (ls := ls84) (w := w) (R := R) h1 Tryz.func84 h2 Tryz.ntmps84 h6 h3 h4 h5 (Eq.mp e h)

/-- staith/topic.Pattern$1 -/
noncomputable def C103 : Code := (Tryz.f103.body).getD .skip
def pl103 : Nat → Plan := fun _ => .done
def ls103 : Nat → List (Nat × LT) := fun _ => []
def W103 (w_ : ByteArray) (w : World) (R : Value → World → Prop) : Prop :=
  (ifK (ByteArray.toList w_ == ByteArray.toList (ByteArray.mk #[42]))
    (R (Value.bool true) (w))
    (ifK (ByteArray.toList w_ == ByteArray.toList (ByteArray.mk #[35]))
      (R (Value.bool true) (w))
      (Ca Tryz.prog (82) (Array.mk [Value.string w_]) (w) (fun v0 => (fun w1 =>
        (∃ b2 : Bool, ((v0 = Value.bool b2) ∧ (R (Value.bool b2) (w1)))))))))
theorem ca103 (w_ : ByteArray) (w : World) (R : Value → World → Prop) (h : W103 w_ w R) : Ca Tryz.prog 103 ⟨[(.string w_)]⟩ w R := by
  have h1 : Tryz.prog.follows .mixedOrders = true := by kernel_rfl
  have h2 : Tryz.f103.body = some C103 := by kernel_rfl
  have h3 : (Tryz.f103.name == "runtime.NumGoroutine") = false := by kernel_rfl
  have h6 : Tryz.f103.results.toList = [.tmp 2] := by kernel_rfl
  have h4 : Nat.ble 1 13 = true := by kernel_rfl
  have h5 : okCode 13 pl103 ls103 C103 0 = true := by kernel_rfl
  have e : W103 w_ w R = wpC none Tryz.prog 13 pl103 ls103 C103 0 (endP Tryz.prog [.tmp 2] R) (fr0 [(.string w_)]) [] w := by kernel_rfl
  exact ca_of' (P := Tryz.prog) (g := 103) (fn := Tryz.f103) (c := C103) (m := 13) (rs := [.tmp 2]) (args := [(.string w_)]) (pl := pl103) (ls := ls103) (w := w) (R := R) h1 Tryz.func103 h2 Tryz.ntmps103 h6 h3 h4 h5 (Eq.mp e h)

/-- staith/topic.made -/
noncomputable def C89 : Code := (Tryz.f89.body).getD .skip
def pl89 : Nat → Plan := fun _ => .done
def ls89 : Nat → List (Nat × LT) := fun _ => []
def W89 (s : ByteArray) (so : Value) (w : World) (R : Value → World → Prop) : Prop :=
  (atW (World.alloc w (Obj.cells (Value.cells so) 88 (0, 0))) (fun w0 =>
    (Ca Tryz.prog (105) (Array.mk [Value.string s]) (w0) (fun v1 => (fun w2 =>
      (∃ p3 : Option Addr, (∃ n4 : Nat, (∃ n5 : Nat, ((v1 = Value.slice p3 n4 n5) ∧ (ifK (decide ((↑(ByteArray.size s) : Int) ≤ 60))
        (ifK (decide ((↑n4 : Int) ≤ 12))
          (Ca Tryz.prog (107) (Array.mk [Value.slice p3 n4 n5, Value.func (Fn.func 106) (Array.mk []) (Array.mk [Value.pointer (some (Addr.mk (Array.size (World.heap w)) 0 none))])]) (w2) (fun v6 => (fun w7 =>
            (∃ b8 : Bool, ((v6 = Value.bool b8) ∧ (R (Value.bool !b8) (w7)))))))
          (R (Value.bool false) (w2)))
        (R (Value.bool false) (w2))))))))))))
theorem ca89 (s : ByteArray) (so : Value) (w : World) (R : Value → World → Prop) (h : W89 s so w R) : Ca Tryz.prog 89 ⟨[(.string s), so]⟩ w R := by
  have h1 : Tryz.prog.follows .mixedOrders = true := by kernel_rfl
  have h2 : Tryz.f89.body = some C89 := by kernel_rfl
  have h3 : (Tryz.f89.name == "runtime.NumGoroutine") = false := by kernel_rfl
  have h6 : Tryz.f89.results.toList = [.tmp 4] := by kernel_rfl
  have h4 : Nat.ble 2 24 = true := by kernel_rfl
  have h5 : okCode 24 pl89 ls89 C89 0 = true := by kernel_rfl
  have e : W89 s so w R = wpC none Tryz.prog 24 pl89 ls89 C89 0 (endP Tryz.prog [.tmp 4] R) (fr0 [(.string s), so]) [] w := by kernel_rfl
  exact ca_of' (P := Tryz.prog) (g := 89) (fn := Tryz.f89) (c := C89) (m := 24) (rs := [.tmp 4]) (args := [(.string s), so]) (pl := pl89) (ls := ls89) (w := w) (R := R) h1 Tryz.func89 h2 Tryz.ntmps89 h6 h3 h4 h5 (Eq.mp e h)

/-- staith/topic.made$1 -/
noncomputable def C106 : Code := (Tryz.f106.body).getD .skip
def pl106 : Nat → Plan := fun _ => .done
def ls106 : Nat → List (Nat × LT) := fun _ => []
def W106 (w_ : ByteArray) (c0 : Option Addr) (w : World) (R : Value → World → Prop) : Prop :=
  (onP (c0) (fun a0 =>
    (∃ v1 : Value, ((World.cell? w a0 = some v1) ∧ (CaV Tryz.prog (v1) (Array.mk [Value.string w_]) (w) (fun v2 => (fun w3 =>
      (∃ b4 : Bool, ((v2 = Value.bool b4) ∧ (R (Value.bool !b4) (w3)))))))))))
theorem ca106 (w_ : ByteArray) (c0 : Option Addr) (w : World) (R : Value → World → Prop) (h : W106 w_ c0 w R) : Ca Tryz.prog 106 ⟨[(.string w_), (.pointer c0)]⟩ w R := by
  have h1 : Tryz.prog.follows .mixedOrders = true := by kernel_rfl
  have h2 : Tryz.f106.body = some C106 := by kernel_rfl
  have h3 : (Tryz.f106.name == "runtime.NumGoroutine") = false := by kernel_rfl
  have h6 : Tryz.f106.results.toList = [.tmp 3] := by kernel_rfl
  have h4 : Nat.ble 2 8 = true := by kernel_rfl
  have h5 : okCode 8 pl106 ls106 C106 0 = true := by kernel_rfl
  have e : W106 w_ c0 w R = wpC none Tryz.prog 8 pl106 ls106 C106 0 (endP Tryz.prog [.tmp 3] R) (fr0 [(.string w_), (.pointer c0)]) [] w := by kernel_rfl
  exact ca_of' (P := Tryz.prog) (g := 106) (fn := Tryz.f106) (c := C106) (m := 8) (rs := [.tmp 3]) (args := [(.string w_), (.pointer c0)]) (pl := pl106) (ls := ls106) (w := w) (R := R) h1 Tryz.func106 h2 Tryz.ntmps106 h6 h3 h4 h5 (Eq.mp e h)

/-- staith/topic.Words -/
noncomputable def C105 : Code := (Tryz.f105.body).getD .skip
def pl105 : Nat → Plan := fun _ => .done
def ls105 : Nat → List (Nat × LT) := fun _ => []
def W105 (s : ByteArray) (w : World) (R : Value → World → Prop) : Prop :=
  (ifK (ByteArray.toList s == ByteArray.toList (ByteArray.mk #[]))
    (R (Value.slice none 0 0) (w))
    (atW (World.alloc w (Obj.cells (Array.mk [Value.slice none 0 0]) 55 (0, 0))) (fun w0 =>
      (Ca Tryz.prog (137) (Array.mk [Value.string s, Value.string (ByteArray.mk #[46])]) (w0) (fun v1 => (fun w2 =>
        (∃ v3 : Value, ((v1 = v3) ∧ (rfW Tryz.prog (v3) (w2) (fun v4 => (fun w5 => (fun z6 => (fun z7 =>
          (onS (v4) (fun s8 =>
            (z6 (fun w9 =>
              (∃ p10 : Option Addr, (∃ n11 : Nat, (∃ n12 : Nat, ((World.cell? w9 (Addr.mk (Array.size (World.heap w)) 0 none) = some (Value.slice p10 n11 n12)) ∧ (atW (World.alloc w9 (Obj.cells (Array.mk [Value.string s8]) 9 (0, 0))) (fun w13 =>
                (∃ v14 : Value, (∃ w15 : World, ((Sem.run Tryz.prog (Builtin.append_ (Array.mk [55, 55]) 55 (Array.mk [Value.slice p10 n11 n12, Value.slice (some (Addr.mk (Array.size (World.heap w9)) 0 none)) 1 1])) w13 = Result.ok v14 w15) ∧ (∃ p16 : Option Addr, (∃ n17 : Nat, (∃ n18 : Nat, ((v14 = Value.slice p16 n17 n18) ∧ ((∃ v19 : Value, (World.cell? w15 (Addr.add (Addr.mk (Array.size (World.heap w)) 0 none) 0) = some v19)) ∧ ((World.frozen? w15 (Addr.add (Addr.mk (Array.size (World.heap w)) 0 none) 0) = false) ∧ (atW (World.setCell w15 (Addr.add (Addr.mk (Array.size (World.heap w)) 0 none) 0) (Value.slice p16 n17 n18)) (fun w20 =>
                  (z7 (w20)))))))))))))))))))) (w5)))))))) (fun w21 =>
          (∃ p22 : Option Addr, (∃ n23 : Nat, (∃ n24 : Nat, ((World.cell? w21 (Addr.mk (Array.size (World.heap w)) 0 none) = some (Value.slice p22 n23 n24)) ∧ (((World.heap w21)[Array.size (World.heap w2)]? = some (Obj.deferred (some []))) ∧ (atW (World.putObj w21 (Array.size (World.heap w2)) (Obj.deferred none)) (fun w25 =>
            (R (Value.slice p22 n23 n24) (w25)))))))))))))))))))
theorem ca105 (s : ByteArray) (w : World) (R : Value → World → Prop) (h : W105 s w R) : Ca Tryz.prog 105 ⟨[(.string s)]⟩ w R := by
  have h1 : Tryz.prog.follows .mixedOrders = true := by kernel_rfl
  have h2 : Tryz.f105.body = some C105 := by kernel_rfl
  have h3 : (Tryz.f105.name == "runtime.NumGoroutine") = false := by kernel_rfl
  have h6 : Tryz.f105.results.toList = [.tmp 2] := by kernel_rfl
  have h4 : Nat.ble 1 15 = true := by kernel_rfl
  have h5 : okCode 15 pl105 ls105 C105 0 = true := by kernel_rfl
  have e : W105 s w R = wpC none Tryz.prog 15 pl105 ls105 C105 0 (endP Tryz.prog [.tmp 2] R) (fr0 [(.string s)]) [] w := by kernel_rfl
  exact ca_of' (P := Tryz.prog) (g := 105) (fn := Tryz.f105) (c := C105) (m := 15) (rs := [.tmp 2]) (args := [(.string s)]) (pl := pl105) (ls := ls105) (w := w) (R := R) h1 Tryz.func105 h2 Tryz.ntmps105 h6 h3 h4 h5 (Eq.mp e h)

/-- slices.ContainsFunc[[]string,string] -/
noncomputable def C107 : Code := (Tryz.f107.body).getD .skip
def pl107 : Nat → Plan := fun _ => .done
def ls107 : Nat → List (Nat × LT) := fun _ => []
def W107 (sa : Option Addr) (sl : Nat) (sc : Nat) (f : Value) (w : World) (R : Value → World → Prop) : Prop :=
  (Ca Tryz.prog (138) (Array.mk [Value.slice sa sl sc, f]) (w) (fun v0 => (fun w1 =>
    (∃ x2 : Int, ((v0 = Value.int IntKind.i64 x2) ∧ (R (Value.bool (decide (x2 ≥ 0))) (w1)))))))
theorem ca107 (sa : Option Addr) (sl : Nat) (sc : Nat) (f : Value) (w : World) (R : Value → World → Prop) (h : W107 sa sl sc f w R) : Ca Tryz.prog 107 ⟨[(.slice sa sl sc), f]⟩ w R := by
  have h1 : Tryz.prog.follows .mixedOrders = true := by kernel_rfl
  have h2 : Tryz.f107.body = some C107 := by kernel_rfl
  have h3 : (Tryz.f107.name == "runtime.NumGoroutine") = false := by kernel_rfl
  have h6 : Tryz.f107.results.toList = [.tmp 4] := by kernel_rfl
  have h4 : Nat.ble 2 9 = true := by kernel_rfl
  have h5 : okCode 9 pl107 ls107 C107 0 = true := by kernel_rfl
  have e : W107 sa sl sc f w R = wpC none Tryz.prog 9 pl107 ls107 C107 0 (endP Tryz.prog [.tmp 4] R) (fr0 [(.slice sa sl sc), f]) [] w := by kernel_rfl
  exact ca_of' (P := Tryz.prog) (g := 107) (fn := Tryz.f107) (c := C107) (m := 9) (rs := [.tmp 4]) (args := [(.slice sa sl sc), f]) (pl := pl107) (ls := ls107) (w := w) (R := R) h1 Tryz.func107 h2 Tryz.ntmps107 h6 h3 h4 h5 (Eq.mp e h)

/-- slices.IndexFunc[[]string,string] -/
noncomputable def C138 : Code := (Tryz.f138.body).getD .skip
def pl138 : Nat → Plan := fun _ => .done
def ls138 : Nat → List (Nat × LT)
  | 3 => [(8, (.one (.int .i64)))]
  | _ => []
def W138 (sa : Option Addr) (sl : Nat) (_sc : Nat) (f : Value) (w : World) (R : Value → World → Prop) : Prop :=
  (∃ z0 : Int → World → Prop, (∃ z1 : Int → World → Nat, ((z0 (0) (w)) ∧ (∀ (_ : Nat → Value), (∀ (x3 : Int), (∀ (w4 : World), ((z0 (x3) (w4)) → (ifK (decide (x3 < (↑sl : Int)))
    (∃ a5 : Addr, ((sa = some a5) ∧ (((0 : Int) ≤ x3) ∧ (((x3 : Int) < (↑sl : Int)) ∧ (∃ s6 : ByteArray, ((World.cell? w4 (Addr.add a5 (Int.toNat x3 * 1)) = some (Value.string s6)) ∧ (CaV Tryz.prog (f) (Array.mk [Value.string s6]) (w4) (fun v7 => (fun w8 =>
      (∃ b9 : Bool, ((v7 = Value.bool b9) ∧ (ifK (b9)
        (R (Value.int IntKind.i64 x3) (w8))
        ((z0 (IntKind.wrap IntKind.i64 (x3 + 1)) (w8)) ∧ (z1 (IntKind.wrap IntKind.i64 (x3 + 1)) w8 < z1 x3 w4))))))))))))))
    (R (Value.int IntKind.i64 (-1)) (w4))))))))))
theorem ca138 (sa : Option Addr) (sl : Nat) (sc : Nat) (f : Value) (w : World) (R : Value → World → Prop) (h : W138 sa sl sc f w R) : Ca Tryz.prog 138 ⟨[(.slice sa sl sc), f]⟩ w R := by
  have h1 : Tryz.prog.follows .mixedOrders = true := by kernel_rfl
  have h2 : Tryz.f138.body = some C138 := by kernel_rfl
  have h3 : (Tryz.f138.name == "runtime.NumGoroutine") = false := by kernel_rfl
  have h6 : Tryz.f138.results.toList = [.tmp 4] := by kernel_rfl
  have h4 : Nat.ble 2 19 = true := by kernel_rfl
  have h5 : okCode 19 pl138 ls138 C138 0 = true := by kernel_rfl
  have e : W138 sa sl sc f w R = wpC none Tryz.prog 19 pl138 ls138 C138 0 (endP Tryz.prog [.tmp 4] R) (fr0 [(.slice sa sl sc), f]) [] w := by kernel_rfl
  exact ca_of' (P := Tryz.prog) (g := 138) (fn := Tryz.f138) (c := C138) (m := 19) (rs := [.tmp 4]) (args := [(.slice sa sl sc), f]) (pl := pl138) (ls := ls138) (w := w) (R := R) h1 Tryz.func138 h2 Tryz.ntmps138 h6 h3 h4 h5 (Eq.mp e h)
end Go.Proofs.YtehhhkcemmfjpaaGreatDoor

/- The program's functions 'plain' and 'Name': what a name is (Con2, for any seat). -/
namespace Go.Proofs.YtehhhkcemmfjpaaGreatDoor
open Go Go.Proofs.YtehhhkcemmfjpaaGreatDoor.St

def letter (c : Nat) : Bool := (decide (97 ≤ c) && decide (c ≤ 122)) || (decide (48 ≤ c) && decide (c ≤ 57)) || c == 45 || c == 95
def lettersB (s : ByteArray) : Bool := s.data.toList.all (fun b => letter b.toNat)
def plainB (s : ByteArray) : Bool := lettersB s && !(ByteArray.toList s == ByteArray.toList (ByteArray.mk #[]))
def nameB (s : ByteArray) : Bool := decide ((s.size : Int) ≤ 20) && plainB s

theorem decode_high (s : ByteArray) (pos : Nat) (h : pos < s.size) (ha : ¬ (s[pos]'h).toNat < 128) : 128 ≤ (Utf8.decode s pos).1 := by
  have e : s.get! (pos + 0) = s[pos]'h := by
    show s.get! pos = _
    simp [ByteArray.get!, getElem!_pos, h]
    rfl
  simp only [Utf8.decode, e, ha, if_false]
  repeat' split
  all_goals simp_all [Utf8.runeError] <;> omega

theorem lettersB_at {s : ByteArray} (h : lettersB s = true) {pos : Nat} (hp : pos < s.size) : letter (s[pos]'hp).toNat = true := by
  rw [lettersB, List.all_eq_true] at h
  exact h _ (by simp [ByteArray.getElem_eq_getElem_data])

theorem lettersB_of {s : ByteArray} (h : ∀ (pos : Nat) (hp : pos < s.size), letter (s[pos]'hp).toNat = true) : lettersB s = true := by
  rw [lettersB, List.all_eq_true]
  intro x hx
  obtain ⟨i, hi, rfl⟩ := List.getElem_of_mem hx
  exact h i (by simpa using hi)

def itPos (w : World) (k n : Nat) : Nat := match w.heap[k]? with | some (.stringIter _ p) => n - p | _ => 0
theorem itPos_of {w : World} {k n p : Nat} {s : ByteArray} (h : w.heap[k]? = some (.stringIter s p)) : itPos w k n = n - p := by simp [itPos, h]

theorem plain_ok (s : ByteArray) (w : World) (R : Value → World → Prop) (h : ∀ w', Mod no w w' → R (.bool (plainB s)) w') : Ca Tryz.prog 82 #[.string s] w R := by
  refine ca82 s w R ?_
  intro w1 e
  subst e
  refine ⟨fun w' => ∃ pos, pos ≤ s.size ∧ w'.heap[w.heap.size]? = some (.stringIter s pos) ∧ Mod no w w' ∧ ∀ (i : Nat) (hi : i < s.size), i < pos → letter (s[i]'hi).toNat = true,
    fun w' => itPos w' w.heap.size s.size, ⟨0, Nat.zero_le _, new_at w _, Mod.alloc w _, fun _ _ h => absurd h (Nat.not_lt_zero _)⟩, ?_⟩
  rintro _ w4 ⟨pos, hle, hit, hm, hgood⟩
  refine ⟨s, pos, hit, ifK_of (fun hp => ?_) (fun hp => ?_)⟩
  · have hp : pos < s.size := of_decide_eq_true hp
    intro w7 e7
    have hm7 : Mod no w w7 := by subst e7; exact hm.new (Mod.putObj w4 _ _) fun k hk => by cases hk; exact Nat.le_refl _
    have hit7 : w7.heap[w.heap.size]? = some (.stringIter s (pos + (Utf8.decode s pos).2)) := by subst e7; exact put_at _ hit
    have hA : letter (Utf8.decode s pos).1 = true → (∃ pos, pos ≤ s.size ∧ w7.heap[w.heap.size]? = some (.stringIter s pos) ∧ Mod no w w7 ∧ ∀ (i : Nat) (hi : i < s.size), i < pos → letter (s[i]'hi).toNat = true) ∧
        itPos w7 w.heap.size s.size < itPos w4 w.heap.size s.size := by
      intro hl
      have hlow : (s[pos]'hp).toNat < 128 := by
        apply Decidable.byContradiction
        intro hh
        have := decode_high s pos hp hh
        simp [letter] at hl
        omega
      have hd := decode_ascii s pos hp hlow
      rw [hd] at hit7 hl
      rw [itPos_of hit, itPos_of hit7]
      refine ⟨⟨pos + 1, hp, hit7, hm7, fun i hi hlt => ?_⟩, by simp only; omega⟩
      by_cases e : i = pos
      · subst e; exact hl
      · exact hgood i hi (by omega)
    have hB : letter (Utf8.decode s pos).1 = false → R (.bool false) w7 := by
      intro hl
      have : plainB s = false := by
        rw [plainB]
        cases hall : lettersB s with
        | false => rfl
        | true =>
          have := lettersB_at hall hp
          by_cases hlow : (s[pos]'hp).toNat < 128
          · rw [decode_ascii s pos hp hlow] at hl; rw [this] at hl; cases hl
          · simp [letter] at this; omega
      have h' := h w7 hm7
      rwa [this] at h'
    have hL : letter (Utf8.decode s pos).1 = ((decide (((Utf8.decode s pos).1 : Int) ≥ 97) && decide (((Utf8.decode s pos).1 : Int) ≤ 122)) || (decide (((Utf8.decode s pos).1 : Int) ≥ 48) && decide (((Utf8.decode s pos).1 : Int) ≤ 57)) ||
        (((Utf8.decode s pos).1 : Int) == 45) || (((Utf8.decode s pos).1 : Int) == 95)) := by
      rw [letter]
      congr 1
      · congr 1
        · congr 1
          · congr 1 <;> exact decide_eq_decide.2 (by omega)
          · congr 1 <;> exact decide_eq_decide.2 (by omega)
        · rw [Bool.eq_iff_iff]; simp; omega
      · rw [Bool.eq_iff_iff]; simp; omega
    rw [hL] at hA hB
    clear hL
    revert hA hB
    dsimp only
    generalize ((∃ pos, pos ≤ s.size ∧ w7.heap[w.heap.size]? = some (.stringIter s pos) ∧ Mod no w w7 ∧ ∀ (i : Nat) (hi : i < s.size), i < pos → letter (s[i]'hi).toNat = true) ∧ itPos w7 w.heap.size s.size < itPos w4 w.heap.size s.size) = A
    generalize decide (((Utf8.decode s pos).1 : Int) ≥ 97) = b1
    generalize decide (((Utf8.decode s pos).1 : Int) ≤ 122) = b2
    generalize decide (((Utf8.decode s pos).1 : Int) ≥ 48) = b3
    generalize decide (((Utf8.decode s pos).1 : Int) ≤ 57) = b4
    generalize (((Utf8.decode s pos).1 : Int) == 45) = b5
    generalize (((Utf8.decode s pos).1 : Int) == 95) = b6
    intro hA hB
    cases b1 <;> cases b2 <;> cases b3 <;> cases b4 <;> cases b5 <;> cases b6 <;> first | exact hA rfl | exact hB rfl
  · have hp : ¬ pos < s.size := of_decide_eq_false hp
    have : lettersB s = true := lettersB_of fun i hi => hgood i hi (by omega)
    have h' := h w4 hm
    rwa [plainB, this, Bool.true_and] at h'

theorem name_ok (s : ByteArray) (w : World) (R : Value → World → Prop) (h : ∀ w', Mod no w w' → R (.bool (nameB s)) w') : Ca Tryz.prog 53 #[.string s] w R := by
  refine ca53 s w R (ifK_of (fun hb => ?_) (fun hb => ?_))
  · refine plain_ok s w _ fun w' hm => ⟨_, rfl, ?_⟩
    have h' := h w' hm
    rwa [nameB, hb, Bool.true_and] at h'
  · have h' := h w (Mod.refl _ _)
    rwa [nameB, hb, Bool.false_and] at h'
end Go.Proofs.YtehhhkcemmfjpaaGreatDoor

/- The table's functions: Find, Good, Declare, Drop, Unbind, Forget. -/
namespace Go.Proofs.YtehhhkcemmfjpaaGreatDoor
open Go Go.Proofs.YtehhhkcemmfjpaaGreatDoor Go.Proofs.YtehhhkcemmfjpaaGreatDoor.St

def exc0 : Exc := ⟨ByteArray.mk #[], 0, false⟩
def findX (n : ByteArray) (D : List Exc) : Option Exc := D.find? fun e => n == e.n
abbrev fx (n : ByteArray) (D : List Exc) : Exc := (findX n D).getD exc0
abbrev hx (n : ByteArray) (D : List Exc) : Bool := (findX n D).isSome
theorem getX (n : ByteArray) : ∀ D : List Exc, getG n (exL D) = (findX n D).map fun e => .agg ⟨e.cs⟩
  | [] => rfl
  | e :: D => by
    have ih := getX n D
    simp only [getG, exL, findX, List.map_cons, List.find?_cons] at ih ⊢
    cases h : (n == e.n) with
    | true => rfl
    | false => exact ih
theorem getB (b : Bnd) : ∀ B : List Bnd, getG b (bnL B) = if b ∈ B then some (.agg ⟨[]⟩) else none
  | [] => rfl
  | x :: B => by
    have ih := getB b B
    simp only [getG, bnL, List.map_cons, List.find?_cons] at ih ⊢
    by_cases h : b = x
    · have : (b == x) = true := decide_eq_true h
      simp [this, h]
    · have hb : (b == x) = false := decide_eq_false h
      simp only [hb]
      rw [ih]
      simp [h]
theorem zero_of {t : TypeId} {z : Value} (h : (Tryz.prog.info? t).bind (·.zero) = some z) (w : World) : (zeroValue t).run Tryz.prog w = .ok z w := by
  cases hi : Tryz.prog.info? t with
  | none => rw [hi] at h; cases h
  | some i => rw [hi] at h; exact run_zeroValue' hi h
theorem look_x {w : World} {m : Nat} {D : List Exc} (h : XMap w m D) (n : ByteArray) :
    Sem.run Tryz.prog (Instr.lookup 67 (.map (some m)) (.string n) true) w = Result.ok (.tuple #[.agg ⟨(fx n D).cs⟩, .bool (hx n D)]) w := by
  rw [lookup_k (keys_string Tryz.underlying9) Tryz.underlying67 (z := .agg ⟨exc0.cs⟩) (zero_of (by kernel_rfl)) h n trivial (fun _ _ => trivial) true, getX]
  cases h : findX n D <;> simp [fx, hx, h]
theorem look_b {w : World} {m : Nat} {B : List Bnd} (h : BMap w m B) (b : Bnd) :
    Sem.run Tryz.prog (Instr.lookup 68 (.map (some m)) (.agg ⟨b.cs⟩) true) w = Result.ok (.tuple #[.agg ⟨[]⟩, .bool (decide (b ∈ B))]) w := by
  have := lookup_k (keys_bnd bnd_s) Tryz.underlying68 (z := .agg ⟨[]⟩) (zero_of (by kernel_rfl)) h b trivial (fun _ _ => trivial) true
  rw [getB] at this
  refine this.trans ?_
  by_cases hb : b ∈ B <;> simp [hb]

theorem put3 {k : Nat} {e : TypeId} {w : World} {x y z a b c : Value} {K : World → Prop} (h : w.heap[k]? = some (.cells #[x, y, z] e (0, 0))) (hk : ∀ w', Mod (on k) w w' → w'.heap[k]? = some (.cells #[a, b, c] e (0, 0)) → K w') :
    (∃ v : Value, w.cell? (Addr.add ⟨k, 0, none⟩ 0) = some v) ∧ w.frozen? (Addr.add ⟨k, 0, none⟩ 0) = false ∧ atW (w.setCell (Addr.add ⟨k, 0, none⟩ 0) a) fun w1 =>
    (∃ v : Value, w1.cell? (Addr.add ⟨k, 0, none⟩ 1) = some v) ∧ w1.frozen? (Addr.add ⟨k, 0, none⟩ 1) = false ∧ atW (w1.setCell (Addr.add ⟨k, 0, none⟩ 1) b) fun w2 =>
    (∃ v : Value, w2.cell? (Addr.add ⟨k, 0, none⟩ 2) = some v) ∧ w2.frozen? (Addr.add ⟨k, 0, none⟩ 2) = false ∧ atW (w2.setCell (Addr.add ⟨k, 0, none⟩ 2) c) K := by
  refine ⟨⟨x, by rw [cl1 h]; rfl⟩, fz1 h _, fun w1 e1 => ?_⟩
  have h1 : w1.heap[k]? = some (.cells #[a, y, z] e (0, 0)) := by subst e1; rw [set1 h]; rfl
  have m1 : Mod (on k) w w1 := by subst e1; exact Mod.set1 _ _ _ _
  clear e1
  refine ⟨⟨y, by rw [cl1 h1]; rfl⟩, fz1 h1 _, fun w2 e2 => ?_⟩
  have h2 : w2.heap[k]? = some (.cells #[a, b, z] e (0, 0)) := by subst e2; rw [set1 h1]; rfl
  have m2 : Mod (on k) w1 w2 := by subst e2; exact Mod.set1 _ _ _ _
  clear e2
  refine ⟨⟨z, by rw [cl1 h2]; rfl⟩, fz1 h2 _, fun w3 e3 => ?_⟩
  have h3 : w3.heap[k]? = some (.cells #[a, b, c] e (0, 0)) := by subst e3; rw [set1 h2]; rfl
  have m3 : Mod (on k) w2 w3 := by subst e3; exact Mod.set1 _ _ _ _
  clear e3
  exact hk w3 ((m1.trans m2).trans m3) h3

/-- The three cells of an exchange. -/
abbrev Xc (w : World) (k : Nat) (x : Exc) : Prop := w.heap[k]? = some (.cells #[.string x.n, .int .i64 x.k, .bool x.f] 33 (0, 0))
abbrev Bc (w : World) (k : Nat) (x : Bnd) : Prop := w.heap[k]? = some (.cells #[.string x.x, .string x.q, .string x.p] 35 (0, 0))

section
variable {w : World} {t m1 m2 : Nat} {D : List Exc} {B : List Bnd} (hT : Tbl w t m1 m2 D B)
include hT
theorem find_ok (n : ByteArray) (R : Value → World → Prop) (h : ∀ w', Mod no w w' → R (.tuple #[.agg ⟨(fx n D).cs⟩, .bool (hx n D)]) w') :
    Ca Tryz.prog 17 #[.pointer (some ⟨t, 0, none⟩), .string n] w R := by
  refine ca17 (some ⟨t, 0, none⟩) n w R ?_
  intro w0 e0
  have m0 : Mod no w w0 := by subst e0; exact Mod.alloc _ _
  have b0 : Xc w0 w.heap.size exc0 := by subst e0; exact new_at _ _
  clear e0
  have hT0 := hT.no m0
  refine made_ok hT0 _ ⟨true, rfl, ifK_of (fun h => by cases h) fun _ => ?_⟩
  refine ⟨some m1, by rw [cl1 hT0.cell]; rfl, _, _, look_x hT0.x n, _, _, _, _, rfl, ?_⟩
  intro w1 e1
  have n1 : Mod no w0 w1 := by subst e1; exact Mod.alloc _ _
  have b1 : Xc w1 w0.heap.size exc0 := by subst e1; exact new_at _ _
  clear e1
  refine put3 b1 fun w2 n2 b2 => ?_
  refine ⟨_, by rw [cl1 b2]; rfl, _, by rw [cl1 b2]; rfl, _, by rw [cl1 b2]; rfl, ?_⟩
  have n12 : Mod no w0 w2 := n1.new n2 fun k hk => by cases hk; exact Nat.le_refl _
  refine put3 (n12.at' b0) fun w3 n3 b3 => ?_
  refine ⟨_, by rw [cl1 b3]; rfl, _, by rw [cl1 b3]; rfl, _, by rw [cl1 b3]; rfl, ?_⟩
  exact h w3 ((m0.trans n12).new n3 fun k hk => by cases hk; exact Nat.le_refl _)
end

/-- Whether an exchange may be. -/
def goodX (x : Exc) : Bool := nameB x.n && (x.k == 1 || x.k == 2 || x.k == 3)
theorem good_ok (x : Exc) (w : World) (R : Value → World → Prop) (h : ∀ w', Mod no w w' → R (.bool (goodX x)) w') : Ca Tryz.prog 18 #[.agg ⟨x.cs⟩] w R := by
  refine (ca18 x.n x.k x.f w R ?_ : Ca _ _ _ _ _)
  intro w0 e0
  have m0 : Mod no w w0 := by subst e0; exact Mod.alloc _ _
  have b0 : Xc w0 w.heap.size x := by subst e0; exact new_at _ _
  clear e0
  refine ⟨_, by rw [cl1 b0]; rfl, name_ok _ _ _ fun w1 m1 => ⟨_, rfl, ?_⟩⟩
  have b1 := m1.at' b0
  have m01 := m0.trans m1
  have h := h w1 m01
  unfold goodX at h
  refine ifK_of (fun hn => ?_) (fun hn => ?_)
  · rw [hn, Bool.true_and] at h
    refine ⟨_, by rw [cl1 b1]; rfl, ifK_of (fun h1 => ?_) (fun h1 => ?_)⟩
    · rw [h1] at h; exact h
    · rw [h1] at h
      refine ⟨_, by rw [cl1 b1]; rfl, ifK_of (fun h2 => ?_) (fun h2 => ?_)⟩
      · rw [h2] at h; exact h
      · rw [h2] at h; exact ⟨_, by rw [cl1 b1]; rfl, h⟩
  · rw [hn, Bool.false_and] at h; exact h
end Go.Proofs.YtehhhkcemmfjpaaGreatDoor

/- The table's functions: Declare, Drop, Unbind, Forget. -/
namespace Go.Proofs.YtehhhkcemmfjpaaGreatDoor
open Go Go.Proofs.YtehhhkcemmfjpaaGreatDoor Go.Proofs.YtehhhkcemmfjpaaGreatDoor.St

theorem findX_none {n : ByteArray} {D : List Exc} : findX n D = none ↔ n ∉ D.map (·.n) := by
  unfold findX
  rw [List.find?_eq_none]
  constructor
  · intro h hn
    obtain ⟨e, he, rfl⟩ := List.mem_map.1 hn
    exact h e he (beq_self_eq_true _)
  · intro h e he hb
    exact h (List.mem_map.2 ⟨e, he, (eq_of_beq hb).symm⟩)
theorem findX_some {n : ByteArray} {D : List Exc} {e : Exc} (h : findX n D = some e) : e ∈ D ∧ e.n = n := ⟨List.mem_of_find?_eq_some h, (eq_of_beq (List.find?_some (p := fun e : Exc => n == e.n) (l := D) h)).symm⟩
theorem exL_fst (D : List Exc) : (exL D).map (·.1) = D.map (·.n) := by rw [exL, List.map_map]; rfl
theorem bnL_fst (B : List Bnd) : (bnL B).map (·.1) = B := by
  rw [bnL, List.map_map]
  conv => rhs; rw [← List.map_id B]
  rfl
def excV (x : Exc) : Value := .agg ⟨[.string x.n, .int .i64 x.k, .bool x.f]⟩
theorem put_x {w : World} {m : Nat} {D : List Exc} (h : XMap w m D) (x : Exc) (hn : x.n ∉ D.map (·.n)) :
    ∃ w', Sem.run Tryz.prog (Instr.mapUpdate 67 (.map (some m)) (.string x.n) (excV x)) w = Result.ok () w' ∧ Mod (on m) w w' ∧ XMap w' m (D ++ [x]) := by
  obtain ⟨w', h1, h2, h3⟩ := update_k (keys_string Tryz.underlying9) Tryz.underlying67 h x.n trivial (fun _ _ => trivial) (excV x)
  refine ⟨w', h1, h2, ?_⟩
  rw [setG_none (by rw [exL_fst]; exact hn)] at h3
  have : exL (D ++ [x]) = exL D ++ [(x.n, excV x)] := by rw [exL, List.map_append]; rfl
  rw [XMap, this]
  exact h3
theorem delX (n : ByteArray) : ∀ {D : List Exc}, (D.map (·.n)).Nodup → delG n (exL D) = exL (D.filter fun e => !(e.n == n))
  | [], _ => rfl
  | e :: D, h => by
    rw [List.map_cons, List.nodup_cons] at h
    simp only [exL, List.map_cons, delG]
    by_cases he : n = e.n
    · subst he
      rw [if_pos (beq_self_eq_true _), List.filter_cons_of_neg (by simp), List.filter_eq_self.2]
      intro y hy
      have : (y.n == e.n) = false := beq_false_of_ne fun h' => h.1 (by rw [← h']; exact List.mem_map_of_mem hy)
      simp [this]
    · have hne : (e.n == n) = false := beq_false_of_ne fun h' => he h'.symm
      rw [if_neg (fun h' => he (eq_of_beq h')), List.filter_cons_of_pos (by simp [hne]), List.map_cons]
      congr 1
      exact delX n h.2
theorem del_x {w : World} {m : Nat} {D : List Exc} (h : XMap w m D) (n : ByteArray) (hD : (D.map (·.n)).Nodup) :
    ∃ w', Sem.run Tryz.prog (Builtin.delete_ #[67, 9] 0 #[.map (some m), .string n]) w = Result.ok (.tuple #[]) w' ∧ Mod (on m) w w' ∧ XMap w' m (D.filter fun e => !(e.n == n)) := by
  obtain ⟨w', h1, h2, h3⟩ := delete_k (keys_string Tryz.underlying9) (u := 9) (ty := 0) Tryz.underlying67 h n trivial (fun _ _ => trivial)
  refine ⟨w', h1, h2, ?_⟩
  rw [delX n hD] at h3
  exact h3

/-! ### What Declare answers, and leaves -/
def declR (x : Exc) (D : List Exc) : Int := if goodX x then (match findX x.n D with | some y => if y = x then 0 else 12 | none => if D.length ≥ 8 then 5 else 0) else 2
def declD (x : Exc) (D : List Exc) : List Exc := if goodX x && (findX x.n D).isNone && decide (D.length < 8) then D ++ [x] else D

section
variable {w : World} {t m1 m2 : Nat} {D : List Exc} {B : List Bnd} (hT : Tbl w t m1 m2 D B)
include hT
theorem declare_ok (x : Exc) (R : Value → World → Prop) (h : ∀ w', Tbl w' t m1 m2 (declD x D) B → Mod (on m1) w w' → R (.int .i64 (declR x D)) w') :
    Ca Tryz.prog 35 #[.pointer (some ⟨t, 0, none⟩), .agg ⟨x.cs⟩] w R := by
  refine (ca35 (some ⟨t, 0, none⟩) x.n x.k x.f w R ?_ : Ca _ _ _ _ _)
  intro w0 e0
  have n0 : Mod no w w0 := by subst e0; exact Mod.alloc _ _
  have b0 : Xc w0 w.heap.size x := by subst e0; exact new_at _ _
  clear e0
  have hT0 := hT.no n0
  refine made_ok hT0 _ ⟨true, rfl, ifK_of (fun h => by cases h) fun _ => ?_⟩
  refine ⟨_, by rw [cl1 b0]; rfl, _, by rw [cl1 b0]; rfl, _, by rw [cl1 b0]; rfl, ?_⟩
  refine (good_ok x w0 _ fun w8 n8 => ?_ : Ca _ _ _ _ _)
  refine ⟨_, rfl, ?_⟩
  have n08 := n0.trans n8
  refine ifK_of (fun hg => ?_) (fun hg => ?_)
  · have hg : goodX x = false := by simpa using hg
    have h' := h w8 (by rw [declD, hg]; exact hT.no n08) n08.of_no
    rw [declR, hg] at h'
    exact h'
  have hg : goodX x = true := by simpa using hg
  refine ⟨fun p b w' => ∃ k, p = some ⟨k, 0, none⟩ ∧ Xc w' k (fx x.n D) ∧ b = hx x.n D ∧ Xc w' w.heap.size x ∧ Tbl w' t m1 m2 D B ∧ Mod no w w', ?_, ?_⟩
  · intro w11 e11
    have n11 : Mod no w8 w11 := by subst e11; exact Mod.drew _
    clear e11
    have b11 := n11.at' (n8.at' b0)
    have n011 := n08.trans n11
    have hT11 := hT.no n011
    refine ⟨some m1, by rw [cl1 hT11.cell]; rfl, _, by rw [cl1 b11]; rfl, ⟨_, _, look_x hT11.x x.n, _, _, _, _, rfl, ?_⟩, ?_⟩
    · intro w21 e21
      have n21 : Mod no w11 w21 := by subst e21; exact Mod.alloc _ _
      have b21 : Xc w21 w11.heap.size exc0 := by subst e21; exact new_at _ _
      clear e21
      have hT21 := hT11.no n21
      have bx := n21.at' b11
      refine ⟨by rw [cl2 hT21.cell]; rfl, by rw [cl2 bx]; rfl, put3 b21 fun w27 n27 b27 => ?_⟩
      have n1127 : Mod no w11 w27 := n21.new n27 fun k hk => by cases hk; exact Nat.le_refl _
      exact ⟨_, rfl, b27, rfl, n1127.at' b11, hT11.no n1127, n011.trans n1127⟩
    · intro w21 e21
      have n21 : Mod no w11 w21 := by subst e21; exact Mod.alloc _ _
      have b21 : Xc w21 w11.heap.size exc0 := by subst e21; exact new_at _ _
      clear e21
      have hT21 := hT11.no n21
      have bx := n21.at' b11
      refine ⟨by rw [cl2 hT21.cell]; rfl, by rw [cl2 bx]; rfl, _, _, look_x hT21.x x.n, _, _, _, _, rfl, put3 b21 fun w27 n27 b27 => ?_⟩
      have n1127 : Mod no w11 w27 := n21.new n27 fun k hk => by cases hk; exact Nat.le_refl _
      exact ⟨_, rfl, b27, rfl, n1127.at' b11, hT11.no n1127, n011.trans n1127⟩
  rintro _ _ _ w44 ⟨k, rfl, bk, rfl, bx, hT44, n44⟩
  have add : ∀ w' , Mod no w w' → Tbl w' t m1 m2 D B → Xc w' w.heap.size x → findX x.n D = none →
      (∃ p66 : Option Nat, w'.cell? (Addr.add ⟨t, 0, none⟩ 0) = some (.map p66) ∧ lenM p66 w' fun x67 => ifK (decide (x67 ≥ 8)) (R (.int .i64 5) w') (atW w'.drew fun w68 =>
        ∃ p70 : Option Nat, w68.cell? (Addr.add ⟨t, 0, none⟩ 0) = some (.map p70) ∧ ∃ s71 : ByteArray, w68.cell? (Addr.add ⟨w.heap.size, 0, none⟩ 0) = some (.string s71) ∧ ∃ s72 : ByteArray, w68.cell? (Addr.add ⟨w.heap.size, 0, none⟩ 0) = some (.string s72) ∧
        ∃ x73 : Int, w68.cell? (Addr.add ⟨w.heap.size, 0, none⟩ 1) = some (.int .i64 x73) ∧ ∃ b74 : Bool, w68.cell? (Addr.add ⟨w.heap.size, 0, none⟩ 2) = some (.bool b74) ∧
        ∃ w75 : World, Sem.run Tryz.prog (Instr.mapUpdate 67 (.map p70) (.string s71) (.agg ⟨[.string s72, .int .i64 x73, .bool b74]⟩)) w68 = Result.ok () w75 ∧ R (.int .i64 0) w75)) := by
    intro w' nw hTw bw hf
    obtain ⟨es, clock, hes, hlen⟩ := xmap_len hTw.x
    refine ⟨some m1, by rw [cl1 hTw.cell]; rfl, es, clock, hes, ifK_dec (fun hge => ?_) (fun hlt => ?_)⟩
    · rw [hlen] at hge
      have h' := h w' (by rw [declD, hg, hf, show decide (D.length < 8) = false from decide_eq_false (by omega)]; exact hTw) nw.of_no
      rw [declR, hg, hf] at h'
      simp only [if_true] at h'
      rw [if_pos (by omega)] at h'
      exact h'
    · rw [hlen] at hlt
      intro w68 e68
      have n68 : Mod no w' w68 := by subst e68; exact Mod.drew _
      clear e68
      have hT68 := hTw.no n68
      have b68 := n68.at' bw
      have hnm : x.n ∉ D.map (·.n) := findX_none.1 hf
      obtain ⟨w75, hr, n75, hx75⟩ := put_x hT68.x x hnm
      refine ⟨some m1, by rw [cl1 hT68.cell]; rfl, _, by rw [cl1 b68]; rfl, _, by rw [cl1 b68]; rfl, _, by rw [cl1 b68]; rfl, _, by rw [cl1 b68]; rfl, w75, hr, ?_⟩
      have h' := h w75 (by
        rw [declD, hg, hf, show decide (D.length < 8) = true from decide_eq_true (by omega)]
        show Tbl w75 t m1 m2 (D ++ [x]) B
        refine ⟨n75.at hT68.cell hT.t1, hx75, hT68.b.mod n75 (fun hS => hT.ne hS.symm), hT.ne, ?_, hT.bn⟩
        rw [List.map_append, List.nodup_append]
        refine ⟨hT.dn, by simp, fun a ha b hb => ?_⟩
        simp only [List.map_cons, List.map_nil, List.mem_singleton] at hb
        rintro rfl
        exact hnm (hb ▸ ha)) ((nw.trans n68).no_trans n75)
      rw [declR, hg, hf] at h'
      simp only [if_true] at h'
      rw [if_neg (by omega)] at h'
      exact h'
  cases hf : findX x.n D with
  | none =>
    have hb : hx x.n D = false := by rw [hx, hf]; rfl
    rw [hb]
    exact ifK_of (fun h => by cases h) fun _ => ifK_of (fun h => by cases h) fun _ => add w44 n44 hT44 bx hf
  | some y =>
    have hb : hx x.n D = true := by rw [hx, hf]; rfl
    have hy : fx x.n D = y := by rw [fx, hf]; rfl
    rw [hb]
    rw [hy] at bk
    refine ifK_of (fun _ => ?_) fun h => by cases h
    refine ⟨_, by rw [cl1 bk]; rfl, _, by rw [cl1 bk]; rfl, _, by rw [cl1 bk]; rfl, _, by rw [cl1 bx]; rfl, _, by rw [cl1 bx]; rfl, _, by rw [cl1 bx]; rfl, ?_⟩
    have hD : declD x D = D := by rw [declD, hf]; simp
    refine eqA_agg exc_s.guard (exc_s.eq y x) (ifK_dec (fun he => ?_) (fun he => ifK_of (fun _ => ?_) fun h => by cases h))
    · have h' := h w44 (by rw [hD]; exact hT44) n44.of_no
      rw [declR, hg, hf] at h'
      simp only [if_true, if_pos he] at h'
      exact h'
    · have h' := h w44 (by rw [hD]; exact hT44) n44.of_no
      rw [declR, hg, hf] at h'
      simp only [if_true, if_neg he] at h'
      exact h'
theorem forget_ok (n : ByteArray) (hl : B.length < 1099511627776) (R : Value → World → Prop) (h : ∀ w', Tbl w' t m1 m2 D (B.filter fun b => !decide (b.q = n)) → Mod (on m2) w w' → R (.int .i64 ((B.length : Int) - (B.filter fun b => !decide (b.q = n)).length)) w') :
    Ca Tryz.prog 41 #[.pointer (some ⟨t, 0, none⟩), .string n] w R := by
  refine ca41 (some ⟨t, 0, none⟩) n w R ?_
  intro w0 e0
  have n0 : Mod no w w0 := by subst e0; exact Mod.alloc _ _
  have b0 : w0.heap[w.heap.size]? = some (.cells #[.string n] 9 (0, 0)) := by subst e0; exact new_at _ _
  clear e0
  have hT0 := hT.no n0
  refine made_ok hT0 _ ⟨true, rfl, ifK_of (fun h => by cases h) fun _ => ?_⟩
  have hmlt : m2 < w.heap.size := by obtain ⟨_, _, hh, _⟩ := hT.b; exact lt_of_heap hh
  exact sweep_ok _ _ _ _ hT0 hl (test2 n b0 (by omega)) _ fun w1 hT1 n1 => ⟨_, rfl, h w1 hT1 (n0.no_trans n1)⟩
omit hT in
theorem filter_len_eq {p : Bnd → Bool} {B : List Bnd} : (B.length : Int) - (B.filter fun b => !p b).length = 0 ↔ ∀ b ∈ B, p b = false := by
  have hle : (B.filter fun b => !p b).length ≤ B.length := List.length_filter_le _ _
  constructor
  · intro h
    have := List.length_filter_eq_length_iff.1 (show (B.filter fun b => !p b).length = B.length by omega)
    intro b hb
    simpa using this b hb
  · intro h
    have : (B.filter fun b => !p b).length = B.length := List.length_filter_eq_length_iff.2 fun b hb => by simp [h b hb]
    omega
theorem unbind_ok (x : Bnd) (hl : B.length < 1099511627776) (R : Value → World → Prop) (h : ∀ w', Tbl w' t m1 m2 D (B.filter fun b => !decide (b = x)) → Mod (on m2) w w' → R (.int .i64 (if x ∈ B then 0 else 3)) w') :
    Ca Tryz.prog 22 #[.pointer (some ⟨t, 0, none⟩), .agg ⟨x.cs⟩] w R := by
  refine (ca22 (some ⟨t, 0, none⟩) x.x x.q x.p w R ?_ : Ca _ _ _ _ _)
  intro w0 e0
  have n0 : Mod no w w0 := by subst e0; exact Mod.alloc _ _
  have b0 : Bc w0 w.heap.size x := by subst e0; exact new_at _ _
  clear e0
  have hT0 := hT.no n0
  refine made_ok hT0 _ ⟨true, rfl, ifK_of (fun h => by cases h) fun _ => ?_⟩
  have hmlt : m2 < w.heap.size := by obtain ⟨_, _, hh, _⟩ := hT.b; exact lt_of_heap hh
  refine sweep_ok _ _ _ _ hT0 hl (test3 x b0 (by omega)) _ fun w1 hT1 n1 => ⟨_, rfl, ?_⟩
  have h' := h w1 hT1 (n0.no_trans n1)
  by_cases hx : x ∈ B
  · rw [if_pos hx] at h'
    refine ifK_eq (fun h0 => ?_) (fun _ => h')
    have := filter_len_eq.1 h0 x hx
    simp at this
  · rw [if_neg hx] at h'
    refine ifK_eq (fun _ => h') (fun h0 => absurd (filter_len_eq.2 fun b hb => ?_) h0)
    exact decide_eq_false fun e => hx (e ▸ hb)
theorem drop_ok (n : ByteArray) (hl : B.length < 1099511627776) (R : Value → World → Prop)
    (h : ∀ w', Tbl w' t m1 m2 (if hx n D then D.filter fun e => !(e.n == n) else D) (if hx n D then B.filter fun b => !decide (b.x = n) else B) → Mod (of2 m1 m2) w w' → R (.int .i64 (if hx n D then 0 else 3)) w') :
    Ca Tryz.prog 23 #[.pointer (some ⟨t, 0, none⟩), .string n] w R := by
  refine ca23 (some ⟨t, 0, none⟩) n w R ?_
  intro w0 e0
  have n0 : Mod no w w0 := by subst e0; exact Mod.alloc _ _
  have b0 : w0.heap[w.heap.size]? = some (.cells #[.string n] 9 (0, 0)) := by subst e0; exact new_at _ _
  clear e0
  have hT0 := hT.no n0
  refine made_ok hT0 _ ⟨true, rfl, ifK_of (fun h => by cases h) fun _ => ?_⟩
  have hm2 : m2 < w.heap.size := by obtain ⟨_, _, hh, _⟩ := hT.b; exact lt_of_heap hh
  have hm1 : m1 < w.heap.size := by obtain ⟨_, _, hh, _⟩ := hT.x; exact lt_of_heap hh
  refine ⟨fun b w' => b = hx n D ∧ w'.heap[w.heap.size]? = some (.cells #[.string n] 9 (0, 0)) ∧ Tbl w' t m1 m2 D B ∧ Mod no w w', ?_, ?_⟩
  · intro w11 e11
    have n11 : Mod no w0 w11 := by subst e11; exact Mod.drew _
    clear e11
    have b11 := n11.at' b0
    have n011 := n0.trans n11
    have hT11 := hT.no n011
    refine ⟨some m1, by rw [cl1 hT11.cell]; rfl, _, by rw [cl b11]; rfl, ⟨_, _, look_x hT11.x n, _, _, _, _, rfl, ?_⟩, ?_⟩
    · intro w21 e21
      have n21 : Mod no w11 w21 := by subst e21; exact Mod.alloc _ _
      have b21 : Xc w21 w11.heap.size exc0 := by subst e21; exact new_at _ _
      clear e21
      have hT21 := hT11.no n21
      have bx := n21.at' b11
      refine ⟨by rw [cl2 hT21.cell]; rfl, by rw [cl1 bx]; rfl, put3 b21 fun w27 n27 b27 => ?_⟩
      have n1127 : Mod no w11 w27 := n21.new n27 fun k hk => by cases hk; exact Nat.le_refl _
      exact ⟨rfl, n1127.at' b11, hT11.no n1127, n011.trans n1127⟩
    · intro w21 e21
      have n21 : Mod no w11 w21 := by subst e21; exact Mod.alloc _ _
      have b21 : Xc w21 w11.heap.size exc0 := by subst e21; exact new_at _ _
      clear e21
      have hT21 := hT11.no n21
      have bx := n21.at' b11
      refine ⟨by rw [cl2 hT21.cell]; rfl, by rw [cl1 bx]; rfl, _, _, look_x hT21.x n, _, _, _, _, rfl, put3 b21 fun w27 n27 b27 => ?_⟩
      have n1127 : Mod no w11 w27 := n21.new n27 fun k hk => by cases hk; exact Nat.le_refl _
      exact ⟨rfl, n1127.at' b11, hT11.no n1127, n011.trans n1127⟩
  rintro _ _ w44 ⟨rfl, bn, hT44, n44⟩
  cases hh : hx n D with
  | false =>
    refine ifK_of (fun _ => ?_) fun h => by cases h
    have h' := h w44 (by rw [hh]; exact hT44) n44.of_no
    rw [hh] at h'
    exact h'
  | true =>
    refine ifK_of (fun h => by cases h) fun _ => ?_
    rw [hh] at h
    intro w38 e38
    have n38 : Mod no w44 w38 := by subst e38; exact Mod.drew _
    clear e38
    have hT38 := hT44.no n38
    have b38 := n38.at' bn
    have n038 := n44.trans n38
    obtain ⟨w43, hr, n43, hx43⟩ := del_x hT38.x n hT.dn
    refine ⟨some m1, by rw [cl1 hT38.cell]; rfl, _, by rw [cl b38]; rfl, _, w43, hr, rfl, ?_⟩
    have hT43 : Tbl w43 t m1 m2 (D.filter fun e => !(e.n == n)) B := ⟨n43.at hT38.cell hT.t1, hx43, hT38.b.mod n43 (fun hS => hT.ne hS.symm), hT.ne, hT.dn.sublist (List.filter_sublist.map _), hT.bn⟩
    have b43 := n43.at b38 (show ¬ w.heap.size = m1 by omega)
    refine sweep_ok _ _ _ _ hT43 hl (test1 n b43 (by omega)) _ fun w45 hT45 n45 => ⟨_, rfl, ?_⟩
    exact h w45 hT45 (((n038.no_trans n43).mono fun k _ hk => .inl hk).trans (n45.mono fun k _ hk => .inr hk))
end
end Go.Proofs.YtehhhkcemmfjpaaGreatDoor

/- The formulas of functions, printed by a program of mine (gen.py) out of the translation. -/
namespace Go.Proofs.YtehhhkcemmfjpaaGreatDoor
open Go Go.Proofs.YtehhhkcemmfjpaaGreatDoor.St
set_option maxRecDepth 100000

/-- strings.SplitSeq -/
noncomputable def C137 : Code := (Tryz.f137.body).getD .skip
def pl137 : Nat → Plan := fun _ => .done
def ls137 : Nat → List (Nat × LT) := fun _ => []
def W137 (s : ByteArray) (sep : ByteArray) (w : World) (R : Value → World → Prop) : Prop :=
  (Ca Tryz.prog (150) (Array.mk [Value.string s, Value.string sep, Value.int IntKind.i64 0]) (w) (fun v0 => (fun w1 =>
    (∃ v2 : Value, ((v0 = v2) ∧ (R (v2) (w1)))))))
theorem ca137 (s : ByteArray) (sep : ByteArray) (w : World) (R : Value → World → Prop) (h : W137 s sep w R) : Ca Tryz.prog 137 ⟨[(.string s), (.string sep)]⟩ w R := by
  have h1 : Tryz.prog.follows .mixedOrders = true := by kernel_rfl
  have h2 : Tryz.f137.body = some C137 := by kernel_rfl
  have h3 : (Tryz.f137.name == "runtime.NumGoroutine") = false := by kernel_rfl
  have h6 : Tryz.f137.results.toList = [.tmp 4] := by kernel_rfl
  have h4 : Nat.ble 2 8 = true := by kernel_rfl
  have h5 : okCode 8 pl137 ls137 C137 0 = true := by kernel_rfl
  have e : W137 s sep w R = wpC none Tryz.prog 8 pl137 ls137 C137 0 (endP Tryz.prog [.tmp 4] R) (fr0 [(.string s), (.string sep)]) [] w := by kernel_rfl
  exact ca_of' (P := Tryz.prog) (g := 137) (fn := Tryz.f137) (c := C137) (m := 8) (rs := [.tmp 4]) (args := [(.string s), (.string sep)]) (pl := pl137) (ls := ls137) (w := w) (R := R) h1 Tryz.func137 h2 Tryz.ntmps137 h6 h3 h4 h5 (Eq.mp e h)

/-- strings.splitSeq -/
noncomputable def C150 : Code := (Tryz.f150.body).getD .skip
def pl150 : Nat → Plan := fun _ => .done
def ls150 : Nat → List (Nat × LT) := fun _ => []
def W150 (s : ByteArray) (sep : ByteArray) (sepSave : Int) (w : World) (R : Value → World → Prop) : Prop :=
  (atW (World.alloc w (Obj.cells (Array.mk [Value.string s]) 9 (0, 0))) (fun w0 =>
    (atW (World.alloc w0 (Obj.cells (Array.mk [Value.string sep]) 9 (0, 0))) (fun w1 =>
      (atW (World.alloc w1 (Obj.cells (Array.mk [Value.int IntKind.i64 sepSave]) 3 (0, 0))) (fun w2 =>
        (R (Value.func (Fn.func 154) (Array.mk []) (Array.mk [Value.pointer (some (Addr.mk (Array.size (World.heap w0)) 0 none)), Value.pointer (some (Addr.mk (Array.size (World.heap w)) 0 none)), Value.pointer (some (Addr.mk (Array.size (World.heap w1)) 0 none))])) (w2))))))))
theorem ca150 (s : ByteArray) (sep : ByteArray) (sepSave : Int) (w : World) (R : Value → World → Prop) (h : W150 s sep sepSave w R) : Ca Tryz.prog 150 ⟨[(.string s), (.string sep), (.int .i64 sepSave)]⟩ w R := by
  have h1 : Tryz.prog.follows .mixedOrders = true := by kernel_rfl
  have h2 : Tryz.f150.body = some C150 := by kernel_rfl
  have h3 : (Tryz.f150.name == "runtime.NumGoroutine") = false := by kernel_rfl
  have h6 : Tryz.f150.results.toList = [.tmp 6] := by kernel_rfl
  have h4 : Nat.ble 3 8 = true := by kernel_rfl
  have h5 : okCode 8 pl150 ls150 C150 0 = true := by kernel_rfl
  have e : W150 s sep sepSave w R = wpC none Tryz.prog 8 pl150 ls150 C150 0 (endP Tryz.prog [.tmp 6] R) (fr0 [(.string s), (.string sep), (.int .i64 sepSave)]) [] w := by kernel_rfl
  exact ca_of' (P := Tryz.prog) (g := 150) (fn := Tryz.f150) (c := C150) (m := 8) (rs := [.tmp 6]) (args := [(.string s), (.string sep), (.int .i64 sepSave)]) (pl := pl150) (ls := ls150) (w := w) (R := R) h1 Tryz.func150 h2 Tryz.ntmps150 h6 h3 h4 h5 (Eq.mp e h)

/-- strings.splitSeq$1 -/
noncomputable def C154 : Code := (Tryz.f154.body).getD .skip
def pl154 : Nat → Plan := fun _ => .done
def ls154 : Nat → List (Nat × LT)
  | 3 => []
  | 10 => []
  | _ => []
def W154 (yield : Value) (c0 : Option Addr) (c1 : Option Addr) (c2 : Option Addr) (w : World) (R : Value → World → Prop) : Prop :=
  (onP (c0) (fun a0 =>
    (∃ s1 : ByteArray, ((World.cell? w a0 = some (Value.string s1)) ∧ (ifK ((↑(ByteArray.size s1) : Int) == 0)
      (∃ z2 : World → Prop, (∃ z3 : World → Nat, ((z2 (w)) ∧ (∀ (_ : Nat → Value), (∀ (w5 : World), ((z2 (w5)) → (onP (c1) (fun a6 =>
        (∃ s7 : ByteArray, ((World.cell? w5 a6 = some (Value.string s7)) ∧ (ifK (decide ((↑(ByteArray.size s7) : Int) > 0))
          (onP (c1) (fun a8 =>
            (∃ s9 : ByteArray, ((World.cell? w5 a8 = some (Value.string s9)) ∧ (Ca Tryz.prog (155) (Array.mk [Value.string s9]) (w5) (fun v10 => (fun w11 =>
              (∃ x12 : Int, (∃ x13 : Int, ((v10 = Value.tuple (Array.mk (List.reverse [Value.int IntKind.i64 x13, Value.int IntKind.i32 x12]))) ∧ (onP (c1) (fun a14 =>
                (∃ s15 : ByteArray, ((World.cell? w11 a14 = some (Value.string s15)) ∧ (((0 : Int) ≤ 0) ∧ (((0 : Int) ≤ x13) ∧ (((x13 : Int) ≤ (↑(ByteArray.size s15) : Int)) ∧ (CaV Tryz.prog (yield) (Array.mk [Value.string (ByteArray.extract s15 0 (Int.toNat x13))]) (w11) (fun v16 => (fun w17 =>
                  (∃ b18 : Bool, ((v16 = Value.bool b18) ∧ (ifK (!b18)
                    (R (Value.tuple (Array.mk (List.reverse []))) (w17))
                    (onP (c1) (fun a19 =>
                      (∃ s20 : ByteArray, ((World.cell? w17 a19 = some (Value.string s20)) ∧ (((0 : Int) ≤ x13) ∧ (((x13 : Int) ≤ (↑(ByteArray.size s20) : Int)) ∧ ((((↑(ByteArray.size s20) : Int) : Int) ≤ (↑(ByteArray.size s20) : Int)) ∧ (onP (c1) (fun a21 =>
                        ((∃ v22 : Value, (World.cell? w17 (Addr.add a21 0) = some v22)) ∧ ((World.frozen? w17 (Addr.add a21 0) = false) ∧ (atW (World.setCell w17 (Addr.add a21 0) (Value.string (ByteArray.extract s20 (Int.toNat x13) (Int.toNat (↑(ByteArray.size s20) : Int))))) (fun w23 =>
                          ((z2 (w23)) ∧ (z3 w23 < z3 w5))))))))))))))))))))))))))))))))))))))
          (R (Value.tuple (Array.mk (List.reverse []))) (w5)))))))))))))
      (∃ z24 : World → Prop, (∃ z25 : World → Nat, ((z24 (w)) ∧ (∀ (_ : Nat → Value), (∀ (w27 : World), ((z24 (w27)) → (onP (c1) (fun a28 =>
        (∃ s29 : ByteArray, ((World.cell? w27 a28 = some (Value.string s29)) ∧ (onP (c0) (fun a30 =>
          (∃ s31 : ByteArray, ((World.cell? w27 a30 = some (Value.string s31)) ∧ (Ca Tryz.prog (156) (Array.mk [Value.string s29, Value.string s31]) (w27) (fun v32 => (fun w33 =>
            (∃ x34 : Int, ((v32 = Value.int IntKind.i64 x34) ∧ (ifK (decide (x34 < 0))
              (onP (c1) (fun a35 =>
                (∃ s36 : ByteArray, ((World.cell? w33 a35 = some (Value.string s36)) ∧ (CaV Tryz.prog (yield) (Array.mk [Value.string s36]) (w33) (fun v37 => (fun w38 =>
                  (∃ b39 : Bool, ((v37 = Value.bool b39) ∧ (R (Value.tuple (Array.mk (List.reverse []))) (w38)))))))))))
              (onP (c1) (fun a40 =>
                (∃ s41 : ByteArray, ((World.cell? w33 a40 = some (Value.string s41)) ∧ (onP (c2) (fun a42 =>
                  (∃ x43 : Int, ((World.cell? w33 a42 = some (Value.int IntKind.i64 x43)) ∧ (((0 : Int) ≤ 0) ∧ (((0 : Int) ≤ IntKind.wrap IntKind.i64 (x34 + x43)) ∧ (((IntKind.wrap IntKind.i64 (x34 + x43) : Int) ≤ (↑(ByteArray.size s41) : Int)) ∧ (CaV Tryz.prog (yield) (Array.mk [Value.string (ByteArray.extract s41 0 (Int.toNat (IntKind.wrap IntKind.i64 (x34 + x43))))]) (w33) (fun v44 => (fun w45 =>
                    (∃ b46 : Bool, ((v44 = Value.bool b46) ∧ (ifK (!b46)
                      (R (Value.tuple (Array.mk (List.reverse []))) (w45))
                      (onP (c1) (fun a47 =>
                        (∃ s48 : ByteArray, ((World.cell? w45 a47 = some (Value.string s48)) ∧ (onP (c0) (fun a49 =>
                          (∃ s50 : ByteArray, ((World.cell? w45 a49 = some (Value.string s50)) ∧ (((0 : Int) ≤ IntKind.wrap IntKind.i64 (x34 + (↑(ByteArray.size s50) : Int))) ∧ (((IntKind.wrap IntKind.i64 (x34 + (↑(ByteArray.size s50) : Int)) : Int) ≤ (↑(ByteArray.size s48) : Int)) ∧ ((((↑(ByteArray.size s48) : Int) : Int) ≤ (↑(ByteArray.size s48) : Int)) ∧ (onP (c1) (fun a51 =>
                            ((∃ v52 : Value, (World.cell? w45 (Addr.add a51 0) = some v52)) ∧ ((World.frozen? w45 (Addr.add a51 0) = false) ∧ (atW (World.setCell w45 (Addr.add a51 0) (Value.string (ByteArray.extract s48 (Int.toNat (IntKind.wrap IntKind.i64 (x34 + (↑(ByteArray.size s50) : Int)))) (Int.toNat (↑(ByteArray.size s48) : Int))))) (fun w53 =>
                              ((z24 (w53)) ∧ (z25 w53 < z25 w27)))))))))))))))))))))))))))))))))))))))))))))))))))))))))))))
theorem ca154 (yield : Value) (c0 : Option Addr) (c1 : Option Addr) (c2 : Option Addr) (w : World) (R : Value → World → Prop) (h : W154 yield c0 c1 c2 w R) : Ca Tryz.prog 154 ⟨[yield, (.pointer c0), (.pointer c1), (.pointer c2)]⟩ w R := by
  have h1 : Tryz.prog.follows .mixedOrders = true := by kernel_rfl
  have h2 : Tryz.f154.body = some C154 := by kernel_rfl
  have h3 : (Tryz.f154.name == "runtime.NumGoroutine") = false := by kernel_rfl
  have h6 : Tryz.f154.results.toList = [] := by kernel_rfl
  have h4 : Nat.ble 4 52 = true := by kernel_rfl
  have h5 : okCode 52 pl154 ls154 C154 0 = true := by kernel_rfl
  have e : W154 yield c0 c1 c2 w R = wpC none Tryz.prog 52 pl154 ls154 C154 0 (endP Tryz.prog [] R) (fr0 [yield, (.pointer c0), (.pointer c1), (.pointer c2)]) [] w := by kernel_rfl
  exact ca_of' (P := Tryz.prog) (g := 154) (fn := Tryz.f154) (c := C154) (m := 52) (rs := []) (args := [yield, (.pointer c0), (.pointer c1), (.pointer c2)]) (pl := pl154) (ls := ls154) (w := w) (R := R) h1 Tryz.func154 h2 Tryz.ntmps154 h6 h3 h4 h5 (Eq.mp e h)

/-- strings.Index -/
noncomputable def C156 : Code := (Tryz.f156.body).getD .skip
def pl156 : Nat → Plan := fun _ => .done
def ls156 : Nat → List (Nat × LT) := fun _ => []
def W156 (s : ByteArray) (substr : ByteArray) (w : World) (R : Value → World → Prop) : Prop :=
  (Ca Tryz.prog (158) (Array.mk [Value.string s, Value.string substr]) (w) (fun v0 => (fun w1 =>
    (∃ x2 : Int, ((v0 = Value.int IntKind.i64 x2) ∧ (R (Value.int IntKind.i64 x2) (w1)))))))
theorem ca156 (s : ByteArray) (substr : ByteArray) (w : World) (R : Value → World → Prop) (h : W156 s substr w R) : Ca Tryz.prog 156 ⟨[(.string s), (.string substr)]⟩ w R := by
  have h1 : Tryz.prog.follows .mixedOrders = true := by kernel_rfl
  have h2 : Tryz.f156.body = some C156 := by kernel_rfl
  have h3 : (Tryz.f156.name == "runtime.NumGoroutine") = false := by kernel_rfl
  have h6 : Tryz.f156.results.toList = [.tmp 4] := by kernel_rfl
  have h4 : Nat.ble 2 8 = true := by kernel_rfl
  have h5 : okCode 8 pl156 ls156 C156 0 = true := by kernel_rfl
  have e : W156 s substr w R = wpC none Tryz.prog 8 pl156 ls156 C156 0 (endP Tryz.prog [.tmp 4] R) (fr0 [(.string s), (.string substr)]) [] w := by kernel_rfl
  exact ca_of' (P := Tryz.prog) (g := 156) (fn := Tryz.f156) (c := C156) (m := 8) (rs := [.tmp 4]) (args := [(.string s), (.string substr)]) (pl := pl156) (ls := ls156) (w := w) (R := R) h1 Tryz.func156 h2 Tryz.ntmps156 h6 h3 h4 h5 (Eq.mp e h)

/-- internal/stringslite.Index -/
noncomputable def C158 : Code := (Tryz.f158.body).getD .skip
def pl158 : Nat → Plan := fun _ => .done
def ls158 : Nat → List (Nat × LT)
  | 17 => [(8, (.one (.int .i64))), (10, (.one (.int .i64)))]
  | _ => []
def W158 (s : ByteArray) (substr : ByteArray) (w : World) (R : Value → World → Prop) : Prop :=
  (ifK ((↑(ByteArray.size substr) : Int) == 0)
    (R (Value.int IntKind.i64 0) (w))
    (ifK (ByteArray.toList substr == ByteArray.toList s)
      (R (Value.int IntKind.i64 0) (w))
      (ifK ((↑(ByteArray.size substr) : Int) == 1)
        (((0 : Int) ≤ 0) ∧ (((0 : Int) < (↑(ByteArray.size substr) : Int)) ∧ (Ca Tryz.prog (159) (Array.mk [Value.string s, Value.int IntKind.u8 (byteAt substr 0)]) (w) (fun v0 => (fun w1 =>
          (∃ x2 : Int, ((v0 = Value.int IntKind.i64 x2) ∧ (R (Value.int IntKind.i64 x2) (w1)))))))))
        (ifK (decide ((↑(ByteArray.size substr) : Int) ≥ (↑(ByteArray.size s) : Int)))
          (R (Value.int IntKind.i64 (-1)) (w))
          (∃ x3 : Int, ((World.cell? w (Addr.mk 2 0 none) = some (Value.int IntKind.i64 x3)) ∧ (ifK (decide ((↑(ByteArray.size substr) : Int) ≤ x3))
            (ifK (decide ((↑(ByteArray.size s) : Int) ≤ 64))
              (Ca Tryz.prog (160) (Array.mk [Value.string s, Value.string substr]) (w) (fun v4 => (fun w5 =>
                (∃ x6 : Int, ((v4 = Value.int IntKind.i64 x6) ∧ (R (Value.int IntKind.i64 x6) (w5)))))))
              (((0 : Int) ≤ 0) ∧ (((0 : Int) < (↑(ByteArray.size substr) : Int)) ∧ (((0 : Int) ≤ 1) ∧ (((1 : Int) < (↑(ByteArray.size substr) : Int)) ∧ (∃ z7 : Int → Int → World → Prop, (∃ z8 : Int → Int → World → Nat, ((z7 (0) (0) (w)) ∧ (∀ (_ : Nat → Value), (∀ (x10 : Int), (∀ (x11 : Int), (∀ (w12 : World), ((z7 (x10) (x11) (w12)) → (ifK (decide (x10 < IntKind.wrap IntKind.i64 (IntKind.wrap IntKind.i64 ((↑(ByteArray.size s) : Int) - (↑(ByteArray.size substr) : Int)) + 1)))
                (((0 : Int) ≤ x10) ∧ (((x10 : Int) < (↑(ByteArray.size s) : Int)) ∧ (ifK (byteAt s (Int.toNat x10) != byteAt substr 0)
                  (((0 : Int) ≤ IntKind.wrap IntKind.i64 (x10 + 1)) ∧ (((IntKind.wrap IntKind.i64 (x10 + 1) : Int) ≤ IntKind.wrap IntKind.i64 (IntKind.wrap IntKind.i64 ((↑(ByteArray.size s) : Int) - (↑(ByteArray.size substr) : Int)) + 1)) ∧ (((IntKind.wrap IntKind.i64 (IntKind.wrap IntKind.i64 ((↑(ByteArray.size s) : Int) - (↑(ByteArray.size substr) : Int)) + 1) : Int) ≤ (↑(ByteArray.size s) : Int)) ∧ (Ca Tryz.prog (159) (Array.mk [Value.string (ByteArray.extract s (Int.toNat (IntKind.wrap IntKind.i64 (x10 + 1))) (Int.toNat (IntKind.wrap IntKind.i64 (IntKind.wrap IntKind.i64 ((↑(ByteArray.size s) : Int) - (↑(ByteArray.size substr) : Int)) + 1)))), Value.int IntKind.u8 (byteAt substr 0)]) (w12) (fun v13 => (fun w14 =>
                    (∃ x15 : Int, ((v13 = Value.int IntKind.i64 x15) ∧ (ifK (decide (x15 < 0))
                      (R (Value.int IntKind.i64 (-1)) (w14))
                      (((0 : Int) ≤ IntKind.wrap IntKind.i64 (IntKind.wrap IntKind.i64 (x10 + IntKind.wrap IntKind.i64 (x15 + 1)) + 1)) ∧ (((IntKind.wrap IntKind.i64 (IntKind.wrap IntKind.i64 (x10 + IntKind.wrap IntKind.i64 (x15 + 1)) + 1) : Int) < (↑(ByteArray.size s) : Int)) ∧ (ifK (byteAt s (Int.toNat (IntKind.wrap IntKind.i64 (IntKind.wrap IntKind.i64 (x10 + IntKind.wrap IntKind.i64 (x15 + 1)) + 1))) == byteAt substr 1)
                        (((0 : Int) ≤ IntKind.wrap IntKind.i64 (x10 + IntKind.wrap IntKind.i64 (x15 + 1))) ∧ (((IntKind.wrap IntKind.i64 (x10 + IntKind.wrap IntKind.i64 (x15 + 1)) : Int) ≤ IntKind.wrap IntKind.i64 (IntKind.wrap IntKind.i64 (x10 + IntKind.wrap IntKind.i64 (x15 + 1)) + (↑(ByteArray.size substr) : Int))) ∧ (((IntKind.wrap IntKind.i64 (IntKind.wrap IntKind.i64 (x10 + IntKind.wrap IntKind.i64 (x15 + 1)) + (↑(ByteArray.size substr) : Int)) : Int) ≤ (↑(ByteArray.size s) : Int)) ∧ (ifK (ByteArray.toList (ByteArray.extract s (Int.toNat (IntKind.wrap IntKind.i64 (x10 + IntKind.wrap IntKind.i64 (x15 + 1)))) (Int.toNat (IntKind.wrap IntKind.i64 (IntKind.wrap IntKind.i64 (x10 + IntKind.wrap IntKind.i64 (x15 + 1)) + (↑(ByteArray.size substr) : Int))))) == ByteArray.toList substr)
                          (R (Value.int IntKind.i64 (IntKind.wrap IntKind.i64 (x10 + IntKind.wrap IntKind.i64 (x15 + 1)))) (w14))
                          (∃ x16 : Int, ((World.cell? w14 (Addr.mk 2 0 none) = some (Value.int IntKind.i64 x16)) ∧ (ifK (decide ((↑(ByteArray.size substr) : Int) ≤ x16))
                            (Ca Tryz.prog (161) (Array.mk [Value.int IntKind.i64 (IntKind.wrap IntKind.i64 (IntKind.wrap IntKind.i64 (x10 + IntKind.wrap IntKind.i64 (x15 + 1)) + 1))]) (w14) (fun v17 => (fun w18 =>
                              (∃ x19 : Int, ((v17 = Value.int IntKind.i64 x19) ∧ (ifK (decide (IntKind.wrap IntKind.i64 (x11 + 1) > x19))
                                (((0 : Int) ≤ IntKind.wrap IntKind.i64 (IntKind.wrap IntKind.i64 (x10 + IntKind.wrap IntKind.i64 (x15 + 1)) + 1)) ∧ (((IntKind.wrap IntKind.i64 (IntKind.wrap IntKind.i64 (x10 + IntKind.wrap IntKind.i64 (x15 + 1)) + 1) : Int) ≤ (↑(ByteArray.size s) : Int)) ∧ ((((↑(ByteArray.size s) : Int) : Int) ≤ (↑(ByteArray.size s) : Int)) ∧ (Ca Tryz.prog (160) (Array.mk [Value.string (ByteArray.extract s (Int.toNat (IntKind.wrap IntKind.i64 (IntKind.wrap IntKind.i64 (x10 + IntKind.wrap IntKind.i64 (x15 + 1)) + 1))) (Int.toNat (↑(ByteArray.size s) : Int))), Value.string substr]) (w18) (fun v20 => (fun w21 =>
                                  (∃ x22 : Int, ((v20 = Value.int IntKind.i64 x22) ∧ (ifK (decide (x22 ≥ 0))
                                    (R (Value.int IntKind.i64 (IntKind.wrap IntKind.i64 (x22 + IntKind.wrap IntKind.i64 (IntKind.wrap IntKind.i64 (x10 + IntKind.wrap IntKind.i64 (x15 + 1)) + 1)))) (w21))
                                    (R (Value.int IntKind.i64 (-1)) (w21)))))))))))
                                (∃ x23 : Int, ((World.cell? w18 (Addr.mk 2 0 none) = some (Value.int IntKind.i64 x23)) ∧ (ifK (decide ((↑(ByteArray.size substr) : Int) > x23))
                                  (((0 : Int) ≤ 4) ∧ (ifK (decide (IntKind.wrap IntKind.i64 (x11 + 1) ≥ IntKind.wrap IntKind.i64 (4 + Int.fdiv (IntKind.wrap IntKind.i64 (IntKind.wrap IntKind.i64 (x10 + IntKind.wrap IntKind.i64 (x15 + 1)) + 1)) (2 ^ 4))))
                                    (ifK (decide (IntKind.wrap IntKind.i64 (IntKind.wrap IntKind.i64 (x10 + IntKind.wrap IntKind.i64 (x15 + 1)) + 1) < IntKind.wrap IntKind.i64 (IntKind.wrap IntKind.i64 ((↑(ByteArray.size s) : Int) - (↑(ByteArray.size substr) : Int)) + 1)))
                                      (((0 : Int) ≤ IntKind.wrap IntKind.i64 (IntKind.wrap IntKind.i64 (x10 + IntKind.wrap IntKind.i64 (x15 + 1)) + 1)) ∧ (((IntKind.wrap IntKind.i64 (IntKind.wrap IntKind.i64 (x10 + IntKind.wrap IntKind.i64 (x15 + 1)) + 1) : Int) ≤ (↑(ByteArray.size s) : Int)) ∧ ((((↑(ByteArray.size s) : Int) : Int) ≤ (↑(ByteArray.size s) : Int)) ∧ (Ca Tryz.prog (162) (Array.mk [Value.string (ByteArray.extract s (Int.toNat (IntKind.wrap IntKind.i64 (IntKind.wrap IntKind.i64 (x10 + IntKind.wrap IntKind.i64 (x15 + 1)) + 1))) (Int.toNat (↑(ByteArray.size s) : Int))), Value.string substr]) (w18) (fun v24 => (fun w25 =>
                                        (∃ x26 : Int, ((v24 = Value.int IntKind.i64 x26) ∧ (ifK (decide (x26 < 0))
                                          (R (Value.int IntKind.i64 (-1)) (w25))
                                          (R (Value.int IntKind.i64 (IntKind.wrap IntKind.i64 (IntKind.wrap IntKind.i64 (IntKind.wrap IntKind.i64 (x10 + IntKind.wrap IntKind.i64 (x15 + 1)) + 1) + x26))) (w25)))))))))))
                                      ((z7 (IntKind.wrap IntKind.i64 (IntKind.wrap IntKind.i64 (x10 + IntKind.wrap IntKind.i64 (x15 + 1)) + 1)) (IntKind.wrap IntKind.i64 (x11 + 1)) (w18)) ∧ (z8 (IntKind.wrap IntKind.i64 (IntKind.wrap IntKind.i64 (x10 + IntKind.wrap IntKind.i64 (x15 + 1)) + 1)) (IntKind.wrap IntKind.i64 (x11 + 1)) w18 < z8 x10 x11 w12)))
                                    ((z7 (IntKind.wrap IntKind.i64 (IntKind.wrap IntKind.i64 (x10 + IntKind.wrap IntKind.i64 (x15 + 1)) + 1)) (IntKind.wrap IntKind.i64 (x11 + 1)) (w18)) ∧ (z8 (IntKind.wrap IntKind.i64 (IntKind.wrap IntKind.i64 (x10 + IntKind.wrap IntKind.i64 (x15 + 1)) + 1)) (IntKind.wrap IntKind.i64 (x11 + 1)) w18 < z8 x10 x11 w12))))
                                  ((z7 (IntKind.wrap IntKind.i64 (IntKind.wrap IntKind.i64 (x10 + IntKind.wrap IntKind.i64 (x15 + 1)) + 1)) (IntKind.wrap IntKind.i64 (x11 + 1)) (w18)) ∧ (z8 (IntKind.wrap IntKind.i64 (IntKind.wrap IntKind.i64 (x10 + IntKind.wrap IntKind.i64 (x15 + 1)) + 1)) (IntKind.wrap IntKind.i64 (x11 + 1)) w18 < z8 x10 x11 w12)))))))))))
                            (∃ x27 : Int, ((World.cell? w14 (Addr.mk 2 0 none) = some (Value.int IntKind.i64 x27)) ∧ (ifK (decide ((↑(ByteArray.size substr) : Int) > x27))
                              (((0 : Int) ≤ 4) ∧ (ifK (decide (IntKind.wrap IntKind.i64 (x11 + 1) ≥ IntKind.wrap IntKind.i64 (4 + Int.fdiv (IntKind.wrap IntKind.i64 (IntKind.wrap IntKind.i64 (x10 + IntKind.wrap IntKind.i64 (x15 + 1)) + 1)) (2 ^ 4))))
                                (ifK (decide (IntKind.wrap IntKind.i64 (IntKind.wrap IntKind.i64 (x10 + IntKind.wrap IntKind.i64 (x15 + 1)) + 1) < IntKind.wrap IntKind.i64 (IntKind.wrap IntKind.i64 ((↑(ByteArray.size s) : Int) - (↑(ByteArray.size substr) : Int)) + 1)))
                                  (((0 : Int) ≤ IntKind.wrap IntKind.i64 (IntKind.wrap IntKind.i64 (x10 + IntKind.wrap IntKind.i64 (x15 + 1)) + 1)) ∧ (((IntKind.wrap IntKind.i64 (IntKind.wrap IntKind.i64 (x10 + IntKind.wrap IntKind.i64 (x15 + 1)) + 1) : Int) ≤ (↑(ByteArray.size s) : Int)) ∧ ((((↑(ByteArray.size s) : Int) : Int) ≤ (↑(ByteArray.size s) : Int)) ∧ (Ca Tryz.prog (162) (Array.mk [Value.string (ByteArray.extract s (Int.toNat (IntKind.wrap IntKind.i64 (IntKind.wrap IntKind.i64 (x10 + IntKind.wrap IntKind.i64 (x15 + 1)) + 1))) (Int.toNat (↑(ByteArray.size s) : Int))), Value.string substr]) (w14) (fun v28 => (fun w29 =>
                                    (∃ x30 : Int, ((v28 = Value.int IntKind.i64 x30) ∧ (ifK (decide (x30 < 0))
                                      (R (Value.int IntKind.i64 (-1)) (w29))
                                      (R (Value.int IntKind.i64 (IntKind.wrap IntKind.i64 (IntKind.wrap IntKind.i64 (IntKind.wrap IntKind.i64 (x10 + IntKind.wrap IntKind.i64 (x15 + 1)) + 1) + x30))) (w29)))))))))))
                                  ((z7 (IntKind.wrap IntKind.i64 (IntKind.wrap IntKind.i64 (x10 + IntKind.wrap IntKind.i64 (x15 + 1)) + 1)) (IntKind.wrap IntKind.i64 (x11 + 1)) (w14)) ∧ (z8 (IntKind.wrap IntKind.i64 (IntKind.wrap IntKind.i64 (x10 + IntKind.wrap IntKind.i64 (x15 + 1)) + 1)) (IntKind.wrap IntKind.i64 (x11 + 1)) w14 < z8 x10 x11 w12)))
                                ((z7 (IntKind.wrap IntKind.i64 (IntKind.wrap IntKind.i64 (x10 + IntKind.wrap IntKind.i64 (x15 + 1)) + 1)) (IntKind.wrap IntKind.i64 (x11 + 1)) (w14)) ∧ (z8 (IntKind.wrap IntKind.i64 (IntKind.wrap IntKind.i64 (x10 + IntKind.wrap IntKind.i64 (x15 + 1)) + 1)) (IntKind.wrap IntKind.i64 (x11 + 1)) w14 < z8 x10 x11 w12))))
                              ((z7 (IntKind.wrap IntKind.i64 (IntKind.wrap IntKind.i64 (x10 + IntKind.wrap IntKind.i64 (x15 + 1)) + 1)) (IntKind.wrap IntKind.i64 (x11 + 1)) (w14)) ∧ (z8 (IntKind.wrap IntKind.i64 (IntKind.wrap IntKind.i64 (x10 + IntKind.wrap IntKind.i64 (x15 + 1)) + 1)) (IntKind.wrap IntKind.i64 (x11 + 1)) w14 < z8 x10 x11 w12))))))))))))
                        (∃ x31 : Int, ((World.cell? w14 (Addr.mk 2 0 none) = some (Value.int IntKind.i64 x31)) ∧ (ifK (decide ((↑(ByteArray.size substr) : Int) ≤ x31))
                          (Ca Tryz.prog (161) (Array.mk [Value.int IntKind.i64 (IntKind.wrap IntKind.i64 (IntKind.wrap IntKind.i64 (x10 + IntKind.wrap IntKind.i64 (x15 + 1)) + 1))]) (w14) (fun v32 => (fun w33 =>
                            (∃ x34 : Int, ((v32 = Value.int IntKind.i64 x34) ∧ (ifK (decide (IntKind.wrap IntKind.i64 (x11 + 1) > x34))
                              (((0 : Int) ≤ IntKind.wrap IntKind.i64 (IntKind.wrap IntKind.i64 (x10 + IntKind.wrap IntKind.i64 (x15 + 1)) + 1)) ∧ (((IntKind.wrap IntKind.i64 (IntKind.wrap IntKind.i64 (x10 + IntKind.wrap IntKind.i64 (x15 + 1)) + 1) : Int) ≤ (↑(ByteArray.size s) : Int)) ∧ ((((↑(ByteArray.size s) : Int) : Int) ≤ (↑(ByteArray.size s) : Int)) ∧ (Ca Tryz.prog (160) (Array.mk [Value.string (ByteArray.extract s (Int.toNat (IntKind.wrap IntKind.i64 (IntKind.wrap IntKind.i64 (x10 + IntKind.wrap IntKind.i64 (x15 + 1)) + 1))) (Int.toNat (↑(ByteArray.size s) : Int))), Value.string substr]) (w33) (fun v35 => (fun w36 =>
                                (∃ x37 : Int, ((v35 = Value.int IntKind.i64 x37) ∧ (ifK (decide (x37 ≥ 0))
                                  (R (Value.int IntKind.i64 (IntKind.wrap IntKind.i64 (x37 + IntKind.wrap IntKind.i64 (IntKind.wrap IntKind.i64 (x10 + IntKind.wrap IntKind.i64 (x15 + 1)) + 1)))) (w36))
                                  (R (Value.int IntKind.i64 (-1)) (w36)))))))))))
                              (∃ x38 : Int, ((World.cell? w33 (Addr.mk 2 0 none) = some (Value.int IntKind.i64 x38)) ∧ (ifK (decide ((↑(ByteArray.size substr) : Int) > x38))
                                (((0 : Int) ≤ 4) ∧ (ifK (decide (IntKind.wrap IntKind.i64 (x11 + 1) ≥ IntKind.wrap IntKind.i64 (4 + Int.fdiv (IntKind.wrap IntKind.i64 (IntKind.wrap IntKind.i64 (x10 + IntKind.wrap IntKind.i64 (x15 + 1)) + 1)) (2 ^ 4))))
                                  (ifK (decide (IntKind.wrap IntKind.i64 (IntKind.wrap IntKind.i64 (x10 + IntKind.wrap IntKind.i64 (x15 + 1)) + 1) < IntKind.wrap IntKind.i64 (IntKind.wrap IntKind.i64 ((↑(ByteArray.size s) : Int) - (↑(ByteArray.size substr) : Int)) + 1)))
                                    (((0 : Int) ≤ IntKind.wrap IntKind.i64 (IntKind.wrap IntKind.i64 (x10 + IntKind.wrap IntKind.i64 (x15 + 1)) + 1)) ∧ (((IntKind.wrap IntKind.i64 (IntKind.wrap IntKind.i64 (x10 + IntKind.wrap IntKind.i64 (x15 + 1)) + 1) : Int) ≤ (↑(ByteArray.size s) : Int)) ∧ ((((↑(ByteArray.size s) : Int) : Int) ≤ (↑(ByteArray.size s) : Int)) ∧ (Ca Tryz.prog (162) (Array.mk [Value.string (ByteArray.extract s (Int.toNat (IntKind.wrap IntKind.i64 (IntKind.wrap IntKind.i64 (x10 + IntKind.wrap IntKind.i64 (x15 + 1)) + 1))) (Int.toNat (↑(ByteArray.size s) : Int))), Value.string substr]) (w33) (fun v39 => (fun w40 =>
                                      (∃ x41 : Int, ((v39 = Value.int IntKind.i64 x41) ∧ (ifK (decide (x41 < 0))
                                        (R (Value.int IntKind.i64 (-1)) (w40))
                                        (R (Value.int IntKind.i64 (IntKind.wrap IntKind.i64 (IntKind.wrap IntKind.i64 (IntKind.wrap IntKind.i64 (x10 + IntKind.wrap IntKind.i64 (x15 + 1)) + 1) + x41))) (w40)))))))))))
                                    ((z7 (IntKind.wrap IntKind.i64 (IntKind.wrap IntKind.i64 (x10 + IntKind.wrap IntKind.i64 (x15 + 1)) + 1)) (IntKind.wrap IntKind.i64 (x11 + 1)) (w33)) ∧ (z8 (IntKind.wrap IntKind.i64 (IntKind.wrap IntKind.i64 (x10 + IntKind.wrap IntKind.i64 (x15 + 1)) + 1)) (IntKind.wrap IntKind.i64 (x11 + 1)) w33 < z8 x10 x11 w12)))
                                  ((z7 (IntKind.wrap IntKind.i64 (IntKind.wrap IntKind.i64 (x10 + IntKind.wrap IntKind.i64 (x15 + 1)) + 1)) (IntKind.wrap IntKind.i64 (x11 + 1)) (w33)) ∧ (z8 (IntKind.wrap IntKind.i64 (IntKind.wrap IntKind.i64 (x10 + IntKind.wrap IntKind.i64 (x15 + 1)) + 1)) (IntKind.wrap IntKind.i64 (x11 + 1)) w33 < z8 x10 x11 w12))))
                                ((z7 (IntKind.wrap IntKind.i64 (IntKind.wrap IntKind.i64 (x10 + IntKind.wrap IntKind.i64 (x15 + 1)) + 1)) (IntKind.wrap IntKind.i64 (x11 + 1)) (w33)) ∧ (z8 (IntKind.wrap IntKind.i64 (IntKind.wrap IntKind.i64 (x10 + IntKind.wrap IntKind.i64 (x15 + 1)) + 1)) (IntKind.wrap IntKind.i64 (x11 + 1)) w33 < z8 x10 x11 w12)))))))))))
                          (∃ x42 : Int, ((World.cell? w14 (Addr.mk 2 0 none) = some (Value.int IntKind.i64 x42)) ∧ (ifK (decide ((↑(ByteArray.size substr) : Int) > x42))
                            (((0 : Int) ≤ 4) ∧ (ifK (decide (IntKind.wrap IntKind.i64 (x11 + 1) ≥ IntKind.wrap IntKind.i64 (4 + Int.fdiv (IntKind.wrap IntKind.i64 (IntKind.wrap IntKind.i64 (x10 + IntKind.wrap IntKind.i64 (x15 + 1)) + 1)) (2 ^ 4))))
                              (ifK (decide (IntKind.wrap IntKind.i64 (IntKind.wrap IntKind.i64 (x10 + IntKind.wrap IntKind.i64 (x15 + 1)) + 1) < IntKind.wrap IntKind.i64 (IntKind.wrap IntKind.i64 ((↑(ByteArray.size s) : Int) - (↑(ByteArray.size substr) : Int)) + 1)))
                                (((0 : Int) ≤ IntKind.wrap IntKind.i64 (IntKind.wrap IntKind.i64 (x10 + IntKind.wrap IntKind.i64 (x15 + 1)) + 1)) ∧ (((IntKind.wrap IntKind.i64 (IntKind.wrap IntKind.i64 (x10 + IntKind.wrap IntKind.i64 (x15 + 1)) + 1) : Int) ≤ (↑(ByteArray.size s) : Int)) ∧ ((((↑(ByteArray.size s) : Int) : Int) ≤ (↑(ByteArray.size s) : Int)) ∧ (Ca Tryz.prog (162) (Array.mk [Value.string (ByteArray.extract s (Int.toNat (IntKind.wrap IntKind.i64 (IntKind.wrap IntKind.i64 (x10 + IntKind.wrap IntKind.i64 (x15 + 1)) + 1))) (Int.toNat (↑(ByteArray.size s) : Int))), Value.string substr]) (w14) (fun v43 => (fun w44 =>
                                  (∃ x45 : Int, ((v43 = Value.int IntKind.i64 x45) ∧ (ifK (decide (x45 < 0))
                                    (R (Value.int IntKind.i64 (-1)) (w44))
                                    (R (Value.int IntKind.i64 (IntKind.wrap IntKind.i64 (IntKind.wrap IntKind.i64 (IntKind.wrap IntKind.i64 (x10 + IntKind.wrap IntKind.i64 (x15 + 1)) + 1) + x45))) (w44)))))))))))
                                ((z7 (IntKind.wrap IntKind.i64 (IntKind.wrap IntKind.i64 (x10 + IntKind.wrap IntKind.i64 (x15 + 1)) + 1)) (IntKind.wrap IntKind.i64 (x11 + 1)) (w14)) ∧ (z8 (IntKind.wrap IntKind.i64 (IntKind.wrap IntKind.i64 (x10 + IntKind.wrap IntKind.i64 (x15 + 1)) + 1)) (IntKind.wrap IntKind.i64 (x11 + 1)) w14 < z8 x10 x11 w12)))
                              ((z7 (IntKind.wrap IntKind.i64 (IntKind.wrap IntKind.i64 (x10 + IntKind.wrap IntKind.i64 (x15 + 1)) + 1)) (IntKind.wrap IntKind.i64 (x11 + 1)) (w14)) ∧ (z8 (IntKind.wrap IntKind.i64 (IntKind.wrap IntKind.i64 (x10 + IntKind.wrap IntKind.i64 (x15 + 1)) + 1)) (IntKind.wrap IntKind.i64 (x11 + 1)) w14 < z8 x10 x11 w12))))
                            ((z7 (IntKind.wrap IntKind.i64 (IntKind.wrap IntKind.i64 (x10 + IntKind.wrap IntKind.i64 (x15 + 1)) + 1)) (IntKind.wrap IntKind.i64 (x11 + 1)) (w14)) ∧ (z8 (IntKind.wrap IntKind.i64 (IntKind.wrap IntKind.i64 (x10 + IntKind.wrap IntKind.i64 (x15 + 1)) + 1)) (IntKind.wrap IntKind.i64 (x11 + 1)) w14 < z8 x10 x11 w12))))))))))))))))))))
                  (((0 : Int) ≤ IntKind.wrap IntKind.i64 (x10 + 1)) ∧ (((IntKind.wrap IntKind.i64 (x10 + 1) : Int) < (↑(ByteArray.size s) : Int)) ∧ (ifK (byteAt s (Int.toNat (IntKind.wrap IntKind.i64 (x10 + 1))) == byteAt substr 1)
                    (((0 : Int) ≤ x10) ∧ (((x10 : Int) ≤ IntKind.wrap IntKind.i64 (x10 + (↑(ByteArray.size substr) : Int))) ∧ (((IntKind.wrap IntKind.i64 (x10 + (↑(ByteArray.size substr) : Int)) : Int) ≤ (↑(ByteArray.size s) : Int)) ∧ (ifK (ByteArray.toList (ByteArray.extract s (Int.toNat x10) (Int.toNat (IntKind.wrap IntKind.i64 (x10 + (↑(ByteArray.size substr) : Int))))) == ByteArray.toList substr)
                      (R (Value.int IntKind.i64 x10) (w12))
                      (∃ x46 : Int, ((World.cell? w12 (Addr.mk 2 0 none) = some (Value.int IntKind.i64 x46)) ∧ (ifK (decide ((↑(ByteArray.size substr) : Int) ≤ x46))
                        (Ca Tryz.prog (161) (Array.mk [Value.int IntKind.i64 (IntKind.wrap IntKind.i64 (x10 + 1))]) (w12) (fun v47 => (fun w48 =>
                          (∃ x49 : Int, ((v47 = Value.int IntKind.i64 x49) ∧ (ifK (decide (IntKind.wrap IntKind.i64 (x11 + 1) > x49))
                            (((0 : Int) ≤ IntKind.wrap IntKind.i64 (x10 + 1)) ∧ (((IntKind.wrap IntKind.i64 (x10 + 1) : Int) ≤ (↑(ByteArray.size s) : Int)) ∧ ((((↑(ByteArray.size s) : Int) : Int) ≤ (↑(ByteArray.size s) : Int)) ∧ (Ca Tryz.prog (160) (Array.mk [Value.string (ByteArray.extract s (Int.toNat (IntKind.wrap IntKind.i64 (x10 + 1))) (Int.toNat (↑(ByteArray.size s) : Int))), Value.string substr]) (w48) (fun v50 => (fun w51 =>
                              (∃ x52 : Int, ((v50 = Value.int IntKind.i64 x52) ∧ (ifK (decide (x52 ≥ 0))
                                (R (Value.int IntKind.i64 (IntKind.wrap IntKind.i64 (x52 + IntKind.wrap IntKind.i64 (x10 + 1)))) (w51))
                                (R (Value.int IntKind.i64 (-1)) (w51)))))))))))
                            (∃ x53 : Int, ((World.cell? w48 (Addr.mk 2 0 none) = some (Value.int IntKind.i64 x53)) ∧ (ifK (decide ((↑(ByteArray.size substr) : Int) > x53))
                              (((0 : Int) ≤ 4) ∧ (ifK (decide (IntKind.wrap IntKind.i64 (x11 + 1) ≥ IntKind.wrap IntKind.i64 (4 + Int.fdiv (IntKind.wrap IntKind.i64 (x10 + 1)) (2 ^ 4))))
                                (ifK (decide (IntKind.wrap IntKind.i64 (x10 + 1) < IntKind.wrap IntKind.i64 (IntKind.wrap IntKind.i64 ((↑(ByteArray.size s) : Int) - (↑(ByteArray.size substr) : Int)) + 1)))
                                  (((0 : Int) ≤ IntKind.wrap IntKind.i64 (x10 + 1)) ∧ (((IntKind.wrap IntKind.i64 (x10 + 1) : Int) ≤ (↑(ByteArray.size s) : Int)) ∧ ((((↑(ByteArray.size s) : Int) : Int) ≤ (↑(ByteArray.size s) : Int)) ∧ (Ca Tryz.prog (162) (Array.mk [Value.string (ByteArray.extract s (Int.toNat (IntKind.wrap IntKind.i64 (x10 + 1))) (Int.toNat (↑(ByteArray.size s) : Int))), Value.string substr]) (w48) (fun v54 => (fun w55 =>
                                    (∃ x56 : Int, ((v54 = Value.int IntKind.i64 x56) ∧ (ifK (decide (x56 < 0))
                                      (R (Value.int IntKind.i64 (-1)) (w55))
                                      (R (Value.int IntKind.i64 (IntKind.wrap IntKind.i64 (IntKind.wrap IntKind.i64 (x10 + 1) + x56))) (w55)))))))))))
                                  ((z7 (IntKind.wrap IntKind.i64 (x10 + 1)) (IntKind.wrap IntKind.i64 (x11 + 1)) (w48)) ∧ (z8 (IntKind.wrap IntKind.i64 (x10 + 1)) (IntKind.wrap IntKind.i64 (x11 + 1)) w48 < z8 x10 x11 w12)))
                                ((z7 (IntKind.wrap IntKind.i64 (x10 + 1)) (IntKind.wrap IntKind.i64 (x11 + 1)) (w48)) ∧ (z8 (IntKind.wrap IntKind.i64 (x10 + 1)) (IntKind.wrap IntKind.i64 (x11 + 1)) w48 < z8 x10 x11 w12))))
                              ((z7 (IntKind.wrap IntKind.i64 (x10 + 1)) (IntKind.wrap IntKind.i64 (x11 + 1)) (w48)) ∧ (z8 (IntKind.wrap IntKind.i64 (x10 + 1)) (IntKind.wrap IntKind.i64 (x11 + 1)) w48 < z8 x10 x11 w12)))))))))))
                        (∃ x57 : Int, ((World.cell? w12 (Addr.mk 2 0 none) = some (Value.int IntKind.i64 x57)) ∧ (ifK (decide ((↑(ByteArray.size substr) : Int) > x57))
                          (((0 : Int) ≤ 4) ∧ (ifK (decide (IntKind.wrap IntKind.i64 (x11 + 1) ≥ IntKind.wrap IntKind.i64 (4 + Int.fdiv (IntKind.wrap IntKind.i64 (x10 + 1)) (2 ^ 4))))
                            (ifK (decide (IntKind.wrap IntKind.i64 (x10 + 1) < IntKind.wrap IntKind.i64 (IntKind.wrap IntKind.i64 ((↑(ByteArray.size s) : Int) - (↑(ByteArray.size substr) : Int)) + 1)))
                              (((0 : Int) ≤ IntKind.wrap IntKind.i64 (x10 + 1)) ∧ (((IntKind.wrap IntKind.i64 (x10 + 1) : Int) ≤ (↑(ByteArray.size s) : Int)) ∧ ((((↑(ByteArray.size s) : Int) : Int) ≤ (↑(ByteArray.size s) : Int)) ∧ (Ca Tryz.prog (162) (Array.mk [Value.string (ByteArray.extract s (Int.toNat (IntKind.wrap IntKind.i64 (x10 + 1))) (Int.toNat (↑(ByteArray.size s) : Int))), Value.string substr]) (w12) (fun v58 => (fun w59 =>
                                (∃ x60 : Int, ((v58 = Value.int IntKind.i64 x60) ∧ (ifK (decide (x60 < 0))
                                  (R (Value.int IntKind.i64 (-1)) (w59))
                                  (R (Value.int IntKind.i64 (IntKind.wrap IntKind.i64 (IntKind.wrap IntKind.i64 (x10 + 1) + x60))) (w59)))))))))))
                              ((z7 (IntKind.wrap IntKind.i64 (x10 + 1)) (IntKind.wrap IntKind.i64 (x11 + 1)) (w12)) ∧ (z8 (IntKind.wrap IntKind.i64 (x10 + 1)) (IntKind.wrap IntKind.i64 (x11 + 1)) w12 < z8 x10 x11 w12)))
                            ((z7 (IntKind.wrap IntKind.i64 (x10 + 1)) (IntKind.wrap IntKind.i64 (x11 + 1)) (w12)) ∧ (z8 (IntKind.wrap IntKind.i64 (x10 + 1)) (IntKind.wrap IntKind.i64 (x11 + 1)) w12 < z8 x10 x11 w12))))
                          ((z7 (IntKind.wrap IntKind.i64 (x10 + 1)) (IntKind.wrap IntKind.i64 (x11 + 1)) (w12)) ∧ (z8 (IntKind.wrap IntKind.i64 (x10 + 1)) (IntKind.wrap IntKind.i64 (x11 + 1)) w12 < z8 x10 x11 w12))))))))))))
                    (∃ x61 : Int, ((World.cell? w12 (Addr.mk 2 0 none) = some (Value.int IntKind.i64 x61)) ∧ (ifK (decide ((↑(ByteArray.size substr) : Int) ≤ x61))
                      (Ca Tryz.prog (161) (Array.mk [Value.int IntKind.i64 (IntKind.wrap IntKind.i64 (x10 + 1))]) (w12) (fun v62 => (fun w63 =>
                        (∃ x64 : Int, ((v62 = Value.int IntKind.i64 x64) ∧ (ifK (decide (IntKind.wrap IntKind.i64 (x11 + 1) > x64))
                          (((0 : Int) ≤ IntKind.wrap IntKind.i64 (x10 + 1)) ∧ (((IntKind.wrap IntKind.i64 (x10 + 1) : Int) ≤ (↑(ByteArray.size s) : Int)) ∧ ((((↑(ByteArray.size s) : Int) : Int) ≤ (↑(ByteArray.size s) : Int)) ∧ (Ca Tryz.prog (160) (Array.mk [Value.string (ByteArray.extract s (Int.toNat (IntKind.wrap IntKind.i64 (x10 + 1))) (Int.toNat (↑(ByteArray.size s) : Int))), Value.string substr]) (w63) (fun v65 => (fun w66 =>
                            (∃ x67 : Int, ((v65 = Value.int IntKind.i64 x67) ∧ (ifK (decide (x67 ≥ 0))
                              (R (Value.int IntKind.i64 (IntKind.wrap IntKind.i64 (x67 + IntKind.wrap IntKind.i64 (x10 + 1)))) (w66))
                              (R (Value.int IntKind.i64 (-1)) (w66)))))))))))
                          (∃ x68 : Int, ((World.cell? w63 (Addr.mk 2 0 none) = some (Value.int IntKind.i64 x68)) ∧ (ifK (decide ((↑(ByteArray.size substr) : Int) > x68))
                            (((0 : Int) ≤ 4) ∧ (ifK (decide (IntKind.wrap IntKind.i64 (x11 + 1) ≥ IntKind.wrap IntKind.i64 (4 + Int.fdiv (IntKind.wrap IntKind.i64 (x10 + 1)) (2 ^ 4))))
                              (ifK (decide (IntKind.wrap IntKind.i64 (x10 + 1) < IntKind.wrap IntKind.i64 (IntKind.wrap IntKind.i64 ((↑(ByteArray.size s) : Int) - (↑(ByteArray.size substr) : Int)) + 1)))
                                (((0 : Int) ≤ IntKind.wrap IntKind.i64 (x10 + 1)) ∧ (((IntKind.wrap IntKind.i64 (x10 + 1) : Int) ≤ (↑(ByteArray.size s) : Int)) ∧ ((((↑(ByteArray.size s) : Int) : Int) ≤ (↑(ByteArray.size s) : Int)) ∧ (Ca Tryz.prog (162) (Array.mk [Value.string (ByteArray.extract s (Int.toNat (IntKind.wrap IntKind.i64 (x10 + 1))) (Int.toNat (↑(ByteArray.size s) : Int))), Value.string substr]) (w63) (fun v69 => (fun w70 =>
                                  (∃ x71 : Int, ((v69 = Value.int IntKind.i64 x71) ∧ (ifK (decide (x71 < 0))
                                    (R (Value.int IntKind.i64 (-1)) (w70))
                                    (R (Value.int IntKind.i64 (IntKind.wrap IntKind.i64 (IntKind.wrap IntKind.i64 (x10 + 1) + x71))) (w70)))))))))))
                                ((z7 (IntKind.wrap IntKind.i64 (x10 + 1)) (IntKind.wrap IntKind.i64 (x11 + 1)) (w63)) ∧ (z8 (IntKind.wrap IntKind.i64 (x10 + 1)) (IntKind.wrap IntKind.i64 (x11 + 1)) w63 < z8 x10 x11 w12)))
                              ((z7 (IntKind.wrap IntKind.i64 (x10 + 1)) (IntKind.wrap IntKind.i64 (x11 + 1)) (w63)) ∧ (z8 (IntKind.wrap IntKind.i64 (x10 + 1)) (IntKind.wrap IntKind.i64 (x11 + 1)) w63 < z8 x10 x11 w12))))
                            ((z7 (IntKind.wrap IntKind.i64 (x10 + 1)) (IntKind.wrap IntKind.i64 (x11 + 1)) (w63)) ∧ (z8 (IntKind.wrap IntKind.i64 (x10 + 1)) (IntKind.wrap IntKind.i64 (x11 + 1)) w63 < z8 x10 x11 w12)))))))))))
                      (∃ x72 : Int, ((World.cell? w12 (Addr.mk 2 0 none) = some (Value.int IntKind.i64 x72)) ∧ (ifK (decide ((↑(ByteArray.size substr) : Int) > x72))
                        (((0 : Int) ≤ 4) ∧ (ifK (decide (IntKind.wrap IntKind.i64 (x11 + 1) ≥ IntKind.wrap IntKind.i64 (4 + Int.fdiv (IntKind.wrap IntKind.i64 (x10 + 1)) (2 ^ 4))))
                          (ifK (decide (IntKind.wrap IntKind.i64 (x10 + 1) < IntKind.wrap IntKind.i64 (IntKind.wrap IntKind.i64 ((↑(ByteArray.size s) : Int) - (↑(ByteArray.size substr) : Int)) + 1)))
                            (((0 : Int) ≤ IntKind.wrap IntKind.i64 (x10 + 1)) ∧ (((IntKind.wrap IntKind.i64 (x10 + 1) : Int) ≤ (↑(ByteArray.size s) : Int)) ∧ ((((↑(ByteArray.size s) : Int) : Int) ≤ (↑(ByteArray.size s) : Int)) ∧ (Ca Tryz.prog (162) (Array.mk [Value.string (ByteArray.extract s (Int.toNat (IntKind.wrap IntKind.i64 (x10 + 1))) (Int.toNat (↑(ByteArray.size s) : Int))), Value.string substr]) (w12) (fun v73 => (fun w74 =>
                              (∃ x75 : Int, ((v73 = Value.int IntKind.i64 x75) ∧ (ifK (decide (x75 < 0))
                                (R (Value.int IntKind.i64 (-1)) (w74))
                                (R (Value.int IntKind.i64 (IntKind.wrap IntKind.i64 (IntKind.wrap IntKind.i64 (x10 + 1) + x75))) (w74)))))))))))
                            ((z7 (IntKind.wrap IntKind.i64 (x10 + 1)) (IntKind.wrap IntKind.i64 (x11 + 1)) (w12)) ∧ (z8 (IntKind.wrap IntKind.i64 (x10 + 1)) (IntKind.wrap IntKind.i64 (x11 + 1)) w12 < z8 x10 x11 w12)))
                          ((z7 (IntKind.wrap IntKind.i64 (x10 + 1)) (IntKind.wrap IntKind.i64 (x11 + 1)) (w12)) ∧ (z8 (IntKind.wrap IntKind.i64 (x10 + 1)) (IntKind.wrap IntKind.i64 (x11 + 1)) w12 < z8 x10 x11 w12))))
                        ((z7 (IntKind.wrap IntKind.i64 (x10 + 1)) (IntKind.wrap IntKind.i64 (x11 + 1)) (w12)) ∧ (z8 (IntKind.wrap IntKind.i64 (x10 + 1)) (IntKind.wrap IntKind.i64 (x11 + 1)) w12 < z8 x10 x11 w12))))))))))))))
                (R (Value.int IntKind.i64 (-1)) (w12))))))))))))))))
            (((0 : Int) ≤ 0) ∧ (((0 : Int) < (↑(ByteArray.size substr) : Int)) ∧ (((0 : Int) ≤ 1) ∧ (((1 : Int) < (↑(ByteArray.size substr) : Int)) ∧ (∃ z76 : Int → Int → World → Prop, (∃ z77 : Int → Int → World → Nat, ((z76 (0) (0) (w)) ∧ (∀ (_ : Nat → Value), (∀ (x79 : Int), (∀ (x80 : Int), (∀ (w81 : World), ((z76 (x79) (x80) (w81)) → (ifK (decide (x79 < IntKind.wrap IntKind.i64 (IntKind.wrap IntKind.i64 ((↑(ByteArray.size s) : Int) - (↑(ByteArray.size substr) : Int)) + 1)))
              (((0 : Int) ≤ x79) ∧ (((x79 : Int) < (↑(ByteArray.size s) : Int)) ∧ (ifK (byteAt s (Int.toNat x79) != byteAt substr 0)
                (((0 : Int) ≤ IntKind.wrap IntKind.i64 (x79 + 1)) ∧ (((IntKind.wrap IntKind.i64 (x79 + 1) : Int) ≤ IntKind.wrap IntKind.i64 (IntKind.wrap IntKind.i64 ((↑(ByteArray.size s) : Int) - (↑(ByteArray.size substr) : Int)) + 1)) ∧ (((IntKind.wrap IntKind.i64 (IntKind.wrap IntKind.i64 ((↑(ByteArray.size s) : Int) - (↑(ByteArray.size substr) : Int)) + 1) : Int) ≤ (↑(ByteArray.size s) : Int)) ∧ (Ca Tryz.prog (159) (Array.mk [Value.string (ByteArray.extract s (Int.toNat (IntKind.wrap IntKind.i64 (x79 + 1))) (Int.toNat (IntKind.wrap IntKind.i64 (IntKind.wrap IntKind.i64 ((↑(ByteArray.size s) : Int) - (↑(ByteArray.size substr) : Int)) + 1)))), Value.int IntKind.u8 (byteAt substr 0)]) (w81) (fun v82 => (fun w83 =>
                  (∃ x84 : Int, ((v82 = Value.int IntKind.i64 x84) ∧ (ifK (decide (x84 < 0))
                    (R (Value.int IntKind.i64 (-1)) (w83))
                    (((0 : Int) ≤ IntKind.wrap IntKind.i64 (IntKind.wrap IntKind.i64 (x79 + IntKind.wrap IntKind.i64 (x84 + 1)) + 1)) ∧ (((IntKind.wrap IntKind.i64 (IntKind.wrap IntKind.i64 (x79 + IntKind.wrap IntKind.i64 (x84 + 1)) + 1) : Int) < (↑(ByteArray.size s) : Int)) ∧ (ifK (byteAt s (Int.toNat (IntKind.wrap IntKind.i64 (IntKind.wrap IntKind.i64 (x79 + IntKind.wrap IntKind.i64 (x84 + 1)) + 1))) == byteAt substr 1)
                      (((0 : Int) ≤ IntKind.wrap IntKind.i64 (x79 + IntKind.wrap IntKind.i64 (x84 + 1))) ∧ (((IntKind.wrap IntKind.i64 (x79 + IntKind.wrap IntKind.i64 (x84 + 1)) : Int) ≤ IntKind.wrap IntKind.i64 (IntKind.wrap IntKind.i64 (x79 + IntKind.wrap IntKind.i64 (x84 + 1)) + (↑(ByteArray.size substr) : Int))) ∧ (((IntKind.wrap IntKind.i64 (IntKind.wrap IntKind.i64 (x79 + IntKind.wrap IntKind.i64 (x84 + 1)) + (↑(ByteArray.size substr) : Int)) : Int) ≤ (↑(ByteArray.size s) : Int)) ∧ (ifK (ByteArray.toList (ByteArray.extract s (Int.toNat (IntKind.wrap IntKind.i64 (x79 + IntKind.wrap IntKind.i64 (x84 + 1)))) (Int.toNat (IntKind.wrap IntKind.i64 (IntKind.wrap IntKind.i64 (x79 + IntKind.wrap IntKind.i64 (x84 + 1)) + (↑(ByteArray.size substr) : Int))))) == ByteArray.toList substr)
                        (R (Value.int IntKind.i64 (IntKind.wrap IntKind.i64 (x79 + IntKind.wrap IntKind.i64 (x84 + 1)))) (w83))
                        (∃ x85 : Int, ((World.cell? w83 (Addr.mk 2 0 none) = some (Value.int IntKind.i64 x85)) ∧ (ifK (decide ((↑(ByteArray.size substr) : Int) ≤ x85))
                          (Ca Tryz.prog (161) (Array.mk [Value.int IntKind.i64 (IntKind.wrap IntKind.i64 (IntKind.wrap IntKind.i64 (x79 + IntKind.wrap IntKind.i64 (x84 + 1)) + 1))]) (w83) (fun v86 => (fun w87 =>
                            (∃ x88 : Int, ((v86 = Value.int IntKind.i64 x88) ∧ (ifK (decide (IntKind.wrap IntKind.i64 (x80 + 1) > x88))
                              (((0 : Int) ≤ IntKind.wrap IntKind.i64 (IntKind.wrap IntKind.i64 (x79 + IntKind.wrap IntKind.i64 (x84 + 1)) + 1)) ∧ (((IntKind.wrap IntKind.i64 (IntKind.wrap IntKind.i64 (x79 + IntKind.wrap IntKind.i64 (x84 + 1)) + 1) : Int) ≤ (↑(ByteArray.size s) : Int)) ∧ ((((↑(ByteArray.size s) : Int) : Int) ≤ (↑(ByteArray.size s) : Int)) ∧ (Ca Tryz.prog (160) (Array.mk [Value.string (ByteArray.extract s (Int.toNat (IntKind.wrap IntKind.i64 (IntKind.wrap IntKind.i64 (x79 + IntKind.wrap IntKind.i64 (x84 + 1)) + 1))) (Int.toNat (↑(ByteArray.size s) : Int))), Value.string substr]) (w87) (fun v89 => (fun w90 =>
                                (∃ x91 : Int, ((v89 = Value.int IntKind.i64 x91) ∧ (ifK (decide (x91 ≥ 0))
                                  (R (Value.int IntKind.i64 (IntKind.wrap IntKind.i64 (x91 + IntKind.wrap IntKind.i64 (IntKind.wrap IntKind.i64 (x79 + IntKind.wrap IntKind.i64 (x84 + 1)) + 1)))) (w90))
                                  (R (Value.int IntKind.i64 (-1)) (w90)))))))))))
                              (∃ x92 : Int, ((World.cell? w87 (Addr.mk 2 0 none) = some (Value.int IntKind.i64 x92)) ∧ (ifK (decide ((↑(ByteArray.size substr) : Int) > x92))
                                (((0 : Int) ≤ 4) ∧ (ifK (decide (IntKind.wrap IntKind.i64 (x80 + 1) ≥ IntKind.wrap IntKind.i64 (4 + Int.fdiv (IntKind.wrap IntKind.i64 (IntKind.wrap IntKind.i64 (x79 + IntKind.wrap IntKind.i64 (x84 + 1)) + 1)) (2 ^ 4))))
                                  (ifK (decide (IntKind.wrap IntKind.i64 (IntKind.wrap IntKind.i64 (x79 + IntKind.wrap IntKind.i64 (x84 + 1)) + 1) < IntKind.wrap IntKind.i64 (IntKind.wrap IntKind.i64 ((↑(ByteArray.size s) : Int) - (↑(ByteArray.size substr) : Int)) + 1)))
                                    (((0 : Int) ≤ IntKind.wrap IntKind.i64 (IntKind.wrap IntKind.i64 (x79 + IntKind.wrap IntKind.i64 (x84 + 1)) + 1)) ∧ (((IntKind.wrap IntKind.i64 (IntKind.wrap IntKind.i64 (x79 + IntKind.wrap IntKind.i64 (x84 + 1)) + 1) : Int) ≤ (↑(ByteArray.size s) : Int)) ∧ ((((↑(ByteArray.size s) : Int) : Int) ≤ (↑(ByteArray.size s) : Int)) ∧ (Ca Tryz.prog (162) (Array.mk [Value.string (ByteArray.extract s (Int.toNat (IntKind.wrap IntKind.i64 (IntKind.wrap IntKind.i64 (x79 + IntKind.wrap IntKind.i64 (x84 + 1)) + 1))) (Int.toNat (↑(ByteArray.size s) : Int))), Value.string substr]) (w87) (fun v93 => (fun w94 =>
                                      (∃ x95 : Int, ((v93 = Value.int IntKind.i64 x95) ∧ (ifK (decide (x95 < 0))
                                        (R (Value.int IntKind.i64 (-1)) (w94))
                                        (R (Value.int IntKind.i64 (IntKind.wrap IntKind.i64 (IntKind.wrap IntKind.i64 (IntKind.wrap IntKind.i64 (x79 + IntKind.wrap IntKind.i64 (x84 + 1)) + 1) + x95))) (w94)))))))))))
                                    ((z76 (IntKind.wrap IntKind.i64 (IntKind.wrap IntKind.i64 (x79 + IntKind.wrap IntKind.i64 (x84 + 1)) + 1)) (IntKind.wrap IntKind.i64 (x80 + 1)) (w87)) ∧ (z77 (IntKind.wrap IntKind.i64 (IntKind.wrap IntKind.i64 (x79 + IntKind.wrap IntKind.i64 (x84 + 1)) + 1)) (IntKind.wrap IntKind.i64 (x80 + 1)) w87 < z77 x79 x80 w81)))
                                  ((z76 (IntKind.wrap IntKind.i64 (IntKind.wrap IntKind.i64 (x79 + IntKind.wrap IntKind.i64 (x84 + 1)) + 1)) (IntKind.wrap IntKind.i64 (x80 + 1)) (w87)) ∧ (z77 (IntKind.wrap IntKind.i64 (IntKind.wrap IntKind.i64 (x79 + IntKind.wrap IntKind.i64 (x84 + 1)) + 1)) (IntKind.wrap IntKind.i64 (x80 + 1)) w87 < z77 x79 x80 w81))))
                                ((z76 (IntKind.wrap IntKind.i64 (IntKind.wrap IntKind.i64 (x79 + IntKind.wrap IntKind.i64 (x84 + 1)) + 1)) (IntKind.wrap IntKind.i64 (x80 + 1)) (w87)) ∧ (z77 (IntKind.wrap IntKind.i64 (IntKind.wrap IntKind.i64 (x79 + IntKind.wrap IntKind.i64 (x84 + 1)) + 1)) (IntKind.wrap IntKind.i64 (x80 + 1)) w87 < z77 x79 x80 w81)))))))))))
                          (∃ x96 : Int, ((World.cell? w83 (Addr.mk 2 0 none) = some (Value.int IntKind.i64 x96)) ∧ (ifK (decide ((↑(ByteArray.size substr) : Int) > x96))
                            (((0 : Int) ≤ 4) ∧ (ifK (decide (IntKind.wrap IntKind.i64 (x80 + 1) ≥ IntKind.wrap IntKind.i64 (4 + Int.fdiv (IntKind.wrap IntKind.i64 (IntKind.wrap IntKind.i64 (x79 + IntKind.wrap IntKind.i64 (x84 + 1)) + 1)) (2 ^ 4))))
                              (ifK (decide (IntKind.wrap IntKind.i64 (IntKind.wrap IntKind.i64 (x79 + IntKind.wrap IntKind.i64 (x84 + 1)) + 1) < IntKind.wrap IntKind.i64 (IntKind.wrap IntKind.i64 ((↑(ByteArray.size s) : Int) - (↑(ByteArray.size substr) : Int)) + 1)))
                                (((0 : Int) ≤ IntKind.wrap IntKind.i64 (IntKind.wrap IntKind.i64 (x79 + IntKind.wrap IntKind.i64 (x84 + 1)) + 1)) ∧ (((IntKind.wrap IntKind.i64 (IntKind.wrap IntKind.i64 (x79 + IntKind.wrap IntKind.i64 (x84 + 1)) + 1) : Int) ≤ (↑(ByteArray.size s) : Int)) ∧ ((((↑(ByteArray.size s) : Int) : Int) ≤ (↑(ByteArray.size s) : Int)) ∧ (Ca Tryz.prog (162) (Array.mk [Value.string (ByteArray.extract s (Int.toNat (IntKind.wrap IntKind.i64 (IntKind.wrap IntKind.i64 (x79 + IntKind.wrap IntKind.i64 (x84 + 1)) + 1))) (Int.toNat (↑(ByteArray.size s) : Int))), Value.string substr]) (w83) (fun v97 => (fun w98 =>
                                  (∃ x99 : Int, ((v97 = Value.int IntKind.i64 x99) ∧ (ifK (decide (x99 < 0))
                                    (R (Value.int IntKind.i64 (-1)) (w98))
                                    (R (Value.int IntKind.i64 (IntKind.wrap IntKind.i64 (IntKind.wrap IntKind.i64 (IntKind.wrap IntKind.i64 (x79 + IntKind.wrap IntKind.i64 (x84 + 1)) + 1) + x99))) (w98)))))))))))
                                ((z76 (IntKind.wrap IntKind.i64 (IntKind.wrap IntKind.i64 (x79 + IntKind.wrap IntKind.i64 (x84 + 1)) + 1)) (IntKind.wrap IntKind.i64 (x80 + 1)) (w83)) ∧ (z77 (IntKind.wrap IntKind.i64 (IntKind.wrap IntKind.i64 (x79 + IntKind.wrap IntKind.i64 (x84 + 1)) + 1)) (IntKind.wrap IntKind.i64 (x80 + 1)) w83 < z77 x79 x80 w81)))
                              ((z76 (IntKind.wrap IntKind.i64 (IntKind.wrap IntKind.i64 (x79 + IntKind.wrap IntKind.i64 (x84 + 1)) + 1)) (IntKind.wrap IntKind.i64 (x80 + 1)) (w83)) ∧ (z77 (IntKind.wrap IntKind.i64 (IntKind.wrap IntKind.i64 (x79 + IntKind.wrap IntKind.i64 (x84 + 1)) + 1)) (IntKind.wrap IntKind.i64 (x80 + 1)) w83 < z77 x79 x80 w81))))
                            ((z76 (IntKind.wrap IntKind.i64 (IntKind.wrap IntKind.i64 (x79 + IntKind.wrap IntKind.i64 (x84 + 1)) + 1)) (IntKind.wrap IntKind.i64 (x80 + 1)) (w83)) ∧ (z77 (IntKind.wrap IntKind.i64 (IntKind.wrap IntKind.i64 (x79 + IntKind.wrap IntKind.i64 (x84 + 1)) + 1)) (IntKind.wrap IntKind.i64 (x80 + 1)) w83 < z77 x79 x80 w81))))))))))))
                      (∃ x100 : Int, ((World.cell? w83 (Addr.mk 2 0 none) = some (Value.int IntKind.i64 x100)) ∧ (ifK (decide ((↑(ByteArray.size substr) : Int) ≤ x100))
                        (Ca Tryz.prog (161) (Array.mk [Value.int IntKind.i64 (IntKind.wrap IntKind.i64 (IntKind.wrap IntKind.i64 (x79 + IntKind.wrap IntKind.i64 (x84 + 1)) + 1))]) (w83) (fun v101 => (fun w102 =>
                          (∃ x103 : Int, ((v101 = Value.int IntKind.i64 x103) ∧ (ifK (decide (IntKind.wrap IntKind.i64 (x80 + 1) > x103))
                            (((0 : Int) ≤ IntKind.wrap IntKind.i64 (IntKind.wrap IntKind.i64 (x79 + IntKind.wrap IntKind.i64 (x84 + 1)) + 1)) ∧ (((IntKind.wrap IntKind.i64 (IntKind.wrap IntKind.i64 (x79 + IntKind.wrap IntKind.i64 (x84 + 1)) + 1) : Int) ≤ (↑(ByteArray.size s) : Int)) ∧ ((((↑(ByteArray.size s) : Int) : Int) ≤ (↑(ByteArray.size s) : Int)) ∧ (Ca Tryz.prog (160) (Array.mk [Value.string (ByteArray.extract s (Int.toNat (IntKind.wrap IntKind.i64 (IntKind.wrap IntKind.i64 (x79 + IntKind.wrap IntKind.i64 (x84 + 1)) + 1))) (Int.toNat (↑(ByteArray.size s) : Int))), Value.string substr]) (w102) (fun v104 => (fun w105 =>
                              (∃ x106 : Int, ((v104 = Value.int IntKind.i64 x106) ∧ (ifK (decide (x106 ≥ 0))
                                (R (Value.int IntKind.i64 (IntKind.wrap IntKind.i64 (x106 + IntKind.wrap IntKind.i64 (IntKind.wrap IntKind.i64 (x79 + IntKind.wrap IntKind.i64 (x84 + 1)) + 1)))) (w105))
                                (R (Value.int IntKind.i64 (-1)) (w105)))))))))))
                            (∃ x107 : Int, ((World.cell? w102 (Addr.mk 2 0 none) = some (Value.int IntKind.i64 x107)) ∧ (ifK (decide ((↑(ByteArray.size substr) : Int) > x107))
                              (((0 : Int) ≤ 4) ∧ (ifK (decide (IntKind.wrap IntKind.i64 (x80 + 1) ≥ IntKind.wrap IntKind.i64 (4 + Int.fdiv (IntKind.wrap IntKind.i64 (IntKind.wrap IntKind.i64 (x79 + IntKind.wrap IntKind.i64 (x84 + 1)) + 1)) (2 ^ 4))))
                                (ifK (decide (IntKind.wrap IntKind.i64 (IntKind.wrap IntKind.i64 (x79 + IntKind.wrap IntKind.i64 (x84 + 1)) + 1) < IntKind.wrap IntKind.i64 (IntKind.wrap IntKind.i64 ((↑(ByteArray.size s) : Int) - (↑(ByteArray.size substr) : Int)) + 1)))
                                  (((0 : Int) ≤ IntKind.wrap IntKind.i64 (IntKind.wrap IntKind.i64 (x79 + IntKind.wrap IntKind.i64 (x84 + 1)) + 1)) ∧ (((IntKind.wrap IntKind.i64 (IntKind.wrap IntKind.i64 (x79 + IntKind.wrap IntKind.i64 (x84 + 1)) + 1) : Int) ≤ (↑(ByteArray.size s) : Int)) ∧ ((((↑(ByteArray.size s) : Int) : Int) ≤ (↑(ByteArray.size s) : Int)) ∧ (Ca Tryz.prog (162) (Array.mk [Value.string (ByteArray.extract s (Int.toNat (IntKind.wrap IntKind.i64 (IntKind.wrap IntKind.i64 (x79 + IntKind.wrap IntKind.i64 (x84 + 1)) + 1))) (Int.toNat (↑(ByteArray.size s) : Int))), Value.string substr]) (w102) (fun v108 => (fun w109 =>
                                    (∃ x110 : Int, ((v108 = Value.int IntKind.i64 x110) ∧ (ifK (decide (x110 < 0))
                                      (R (Value.int IntKind.i64 (-1)) (w109))
                                      (R (Value.int IntKind.i64 (IntKind.wrap IntKind.i64 (IntKind.wrap IntKind.i64 (IntKind.wrap IntKind.i64 (x79 + IntKind.wrap IntKind.i64 (x84 + 1)) + 1) + x110))) (w109)))))))))))
                                  ((z76 (IntKind.wrap IntKind.i64 (IntKind.wrap IntKind.i64 (x79 + IntKind.wrap IntKind.i64 (x84 + 1)) + 1)) (IntKind.wrap IntKind.i64 (x80 + 1)) (w102)) ∧ (z77 (IntKind.wrap IntKind.i64 (IntKind.wrap IntKind.i64 (x79 + IntKind.wrap IntKind.i64 (x84 + 1)) + 1)) (IntKind.wrap IntKind.i64 (x80 + 1)) w102 < z77 x79 x80 w81)))
                                ((z76 (IntKind.wrap IntKind.i64 (IntKind.wrap IntKind.i64 (x79 + IntKind.wrap IntKind.i64 (x84 + 1)) + 1)) (IntKind.wrap IntKind.i64 (x80 + 1)) (w102)) ∧ (z77 (IntKind.wrap IntKind.i64 (IntKind.wrap IntKind.i64 (x79 + IntKind.wrap IntKind.i64 (x84 + 1)) + 1)) (IntKind.wrap IntKind.i64 (x80 + 1)) w102 < z77 x79 x80 w81))))
                              ((z76 (IntKind.wrap IntKind.i64 (IntKind.wrap IntKind.i64 (x79 + IntKind.wrap IntKind.i64 (x84 + 1)) + 1)) (IntKind.wrap IntKind.i64 (x80 + 1)) (w102)) ∧ (z77 (IntKind.wrap IntKind.i64 (IntKind.wrap IntKind.i64 (x79 + IntKind.wrap IntKind.i64 (x84 + 1)) + 1)) (IntKind.wrap IntKind.i64 (x80 + 1)) w102 < z77 x79 x80 w81)))))))))))
                        (∃ x111 : Int, ((World.cell? w83 (Addr.mk 2 0 none) = some (Value.int IntKind.i64 x111)) ∧ (ifK (decide ((↑(ByteArray.size substr) : Int) > x111))
                          (((0 : Int) ≤ 4) ∧ (ifK (decide (IntKind.wrap IntKind.i64 (x80 + 1) ≥ IntKind.wrap IntKind.i64 (4 + Int.fdiv (IntKind.wrap IntKind.i64 (IntKind.wrap IntKind.i64 (x79 + IntKind.wrap IntKind.i64 (x84 + 1)) + 1)) (2 ^ 4))))
                            (ifK (decide (IntKind.wrap IntKind.i64 (IntKind.wrap IntKind.i64 (x79 + IntKind.wrap IntKind.i64 (x84 + 1)) + 1) < IntKind.wrap IntKind.i64 (IntKind.wrap IntKind.i64 ((↑(ByteArray.size s) : Int) - (↑(ByteArray.size substr) : Int)) + 1)))
                              (((0 : Int) ≤ IntKind.wrap IntKind.i64 (IntKind.wrap IntKind.i64 (x79 + IntKind.wrap IntKind.i64 (x84 + 1)) + 1)) ∧ (((IntKind.wrap IntKind.i64 (IntKind.wrap IntKind.i64 (x79 + IntKind.wrap IntKind.i64 (x84 + 1)) + 1) : Int) ≤ (↑(ByteArray.size s) : Int)) ∧ ((((↑(ByteArray.size s) : Int) : Int) ≤ (↑(ByteArray.size s) : Int)) ∧ (Ca Tryz.prog (162) (Array.mk [Value.string (ByteArray.extract s (Int.toNat (IntKind.wrap IntKind.i64 (IntKind.wrap IntKind.i64 (x79 + IntKind.wrap IntKind.i64 (x84 + 1)) + 1))) (Int.toNat (↑(ByteArray.size s) : Int))), Value.string substr]) (w83) (fun v112 => (fun w113 =>
                                (∃ x114 : Int, ((v112 = Value.int IntKind.i64 x114) ∧ (ifK (decide (x114 < 0))
                                  (R (Value.int IntKind.i64 (-1)) (w113))
                                  (R (Value.int IntKind.i64 (IntKind.wrap IntKind.i64 (IntKind.wrap IntKind.i64 (IntKind.wrap IntKind.i64 (x79 + IntKind.wrap IntKind.i64 (x84 + 1)) + 1) + x114))) (w113)))))))))))
                              ((z76 (IntKind.wrap IntKind.i64 (IntKind.wrap IntKind.i64 (x79 + IntKind.wrap IntKind.i64 (x84 + 1)) + 1)) (IntKind.wrap IntKind.i64 (x80 + 1)) (w83)) ∧ (z77 (IntKind.wrap IntKind.i64 (IntKind.wrap IntKind.i64 (x79 + IntKind.wrap IntKind.i64 (x84 + 1)) + 1)) (IntKind.wrap IntKind.i64 (x80 + 1)) w83 < z77 x79 x80 w81)))
                            ((z76 (IntKind.wrap IntKind.i64 (IntKind.wrap IntKind.i64 (x79 + IntKind.wrap IntKind.i64 (x84 + 1)) + 1)) (IntKind.wrap IntKind.i64 (x80 + 1)) (w83)) ∧ (z77 (IntKind.wrap IntKind.i64 (IntKind.wrap IntKind.i64 (x79 + IntKind.wrap IntKind.i64 (x84 + 1)) + 1)) (IntKind.wrap IntKind.i64 (x80 + 1)) w83 < z77 x79 x80 w81))))
                          ((z76 (IntKind.wrap IntKind.i64 (IntKind.wrap IntKind.i64 (x79 + IntKind.wrap IntKind.i64 (x84 + 1)) + 1)) (IntKind.wrap IntKind.i64 (x80 + 1)) (w83)) ∧ (z77 (IntKind.wrap IntKind.i64 (IntKind.wrap IntKind.i64 (x79 + IntKind.wrap IntKind.i64 (x84 + 1)) + 1)) (IntKind.wrap IntKind.i64 (x80 + 1)) w83 < z77 x79 x80 w81))))))))))))))))))))
                (((0 : Int) ≤ IntKind.wrap IntKind.i64 (x79 + 1)) ∧ (((IntKind.wrap IntKind.i64 (x79 + 1) : Int) < (↑(ByteArray.size s) : Int)) ∧ (ifK (byteAt s (Int.toNat (IntKind.wrap IntKind.i64 (x79 + 1))) == byteAt substr 1)
                  (((0 : Int) ≤ x79) ∧ (((x79 : Int) ≤ IntKind.wrap IntKind.i64 (x79 + (↑(ByteArray.size substr) : Int))) ∧ (((IntKind.wrap IntKind.i64 (x79 + (↑(ByteArray.size substr) : Int)) : Int) ≤ (↑(ByteArray.size s) : Int)) ∧ (ifK (ByteArray.toList (ByteArray.extract s (Int.toNat x79) (Int.toNat (IntKind.wrap IntKind.i64 (x79 + (↑(ByteArray.size substr) : Int))))) == ByteArray.toList substr)
                    (R (Value.int IntKind.i64 x79) (w81))
                    (∃ x115 : Int, ((World.cell? w81 (Addr.mk 2 0 none) = some (Value.int IntKind.i64 x115)) ∧ (ifK (decide ((↑(ByteArray.size substr) : Int) ≤ x115))
                      (Ca Tryz.prog (161) (Array.mk [Value.int IntKind.i64 (IntKind.wrap IntKind.i64 (x79 + 1))]) (w81) (fun v116 => (fun w117 =>
                        (∃ x118 : Int, ((v116 = Value.int IntKind.i64 x118) ∧ (ifK (decide (IntKind.wrap IntKind.i64 (x80 + 1) > x118))
                          (((0 : Int) ≤ IntKind.wrap IntKind.i64 (x79 + 1)) ∧ (((IntKind.wrap IntKind.i64 (x79 + 1) : Int) ≤ (↑(ByteArray.size s) : Int)) ∧ ((((↑(ByteArray.size s) : Int) : Int) ≤ (↑(ByteArray.size s) : Int)) ∧ (Ca Tryz.prog (160) (Array.mk [Value.string (ByteArray.extract s (Int.toNat (IntKind.wrap IntKind.i64 (x79 + 1))) (Int.toNat (↑(ByteArray.size s) : Int))), Value.string substr]) (w117) (fun v119 => (fun w120 =>
                            (∃ x121 : Int, ((v119 = Value.int IntKind.i64 x121) ∧ (ifK (decide (x121 ≥ 0))
                              (R (Value.int IntKind.i64 (IntKind.wrap IntKind.i64 (x121 + IntKind.wrap IntKind.i64 (x79 + 1)))) (w120))
                              (R (Value.int IntKind.i64 (-1)) (w120)))))))))))
                          (∃ x122 : Int, ((World.cell? w117 (Addr.mk 2 0 none) = some (Value.int IntKind.i64 x122)) ∧ (ifK (decide ((↑(ByteArray.size substr) : Int) > x122))
                            (((0 : Int) ≤ 4) ∧ (ifK (decide (IntKind.wrap IntKind.i64 (x80 + 1) ≥ IntKind.wrap IntKind.i64 (4 + Int.fdiv (IntKind.wrap IntKind.i64 (x79 + 1)) (2 ^ 4))))
                              (ifK (decide (IntKind.wrap IntKind.i64 (x79 + 1) < IntKind.wrap IntKind.i64 (IntKind.wrap IntKind.i64 ((↑(ByteArray.size s) : Int) - (↑(ByteArray.size substr) : Int)) + 1)))
                                (((0 : Int) ≤ IntKind.wrap IntKind.i64 (x79 + 1)) ∧ (((IntKind.wrap IntKind.i64 (x79 + 1) : Int) ≤ (↑(ByteArray.size s) : Int)) ∧ ((((↑(ByteArray.size s) : Int) : Int) ≤ (↑(ByteArray.size s) : Int)) ∧ (Ca Tryz.prog (162) (Array.mk [Value.string (ByteArray.extract s (Int.toNat (IntKind.wrap IntKind.i64 (x79 + 1))) (Int.toNat (↑(ByteArray.size s) : Int))), Value.string substr]) (w117) (fun v123 => (fun w124 =>
                                  (∃ x125 : Int, ((v123 = Value.int IntKind.i64 x125) ∧ (ifK (decide (x125 < 0))
                                    (R (Value.int IntKind.i64 (-1)) (w124))
                                    (R (Value.int IntKind.i64 (IntKind.wrap IntKind.i64 (IntKind.wrap IntKind.i64 (x79 + 1) + x125))) (w124)))))))))))
                                ((z76 (IntKind.wrap IntKind.i64 (x79 + 1)) (IntKind.wrap IntKind.i64 (x80 + 1)) (w117)) ∧ (z77 (IntKind.wrap IntKind.i64 (x79 + 1)) (IntKind.wrap IntKind.i64 (x80 + 1)) w117 < z77 x79 x80 w81)))
                              ((z76 (IntKind.wrap IntKind.i64 (x79 + 1)) (IntKind.wrap IntKind.i64 (x80 + 1)) (w117)) ∧ (z77 (IntKind.wrap IntKind.i64 (x79 + 1)) (IntKind.wrap IntKind.i64 (x80 + 1)) w117 < z77 x79 x80 w81))))
                            ((z76 (IntKind.wrap IntKind.i64 (x79 + 1)) (IntKind.wrap IntKind.i64 (x80 + 1)) (w117)) ∧ (z77 (IntKind.wrap IntKind.i64 (x79 + 1)) (IntKind.wrap IntKind.i64 (x80 + 1)) w117 < z77 x79 x80 w81)))))))))))
                      (∃ x126 : Int, ((World.cell? w81 (Addr.mk 2 0 none) = some (Value.int IntKind.i64 x126)) ∧ (ifK (decide ((↑(ByteArray.size substr) : Int) > x126))
                        (((0 : Int) ≤ 4) ∧ (ifK (decide (IntKind.wrap IntKind.i64 (x80 + 1) ≥ IntKind.wrap IntKind.i64 (4 + Int.fdiv (IntKind.wrap IntKind.i64 (x79 + 1)) (2 ^ 4))))
                          (ifK (decide (IntKind.wrap IntKind.i64 (x79 + 1) < IntKind.wrap IntKind.i64 (IntKind.wrap IntKind.i64 ((↑(ByteArray.size s) : Int) - (↑(ByteArray.size substr) : Int)) + 1)))
                            (((0 : Int) ≤ IntKind.wrap IntKind.i64 (x79 + 1)) ∧ (((IntKind.wrap IntKind.i64 (x79 + 1) : Int) ≤ (↑(ByteArray.size s) : Int)) ∧ ((((↑(ByteArray.size s) : Int) : Int) ≤ (↑(ByteArray.size s) : Int)) ∧ (Ca Tryz.prog (162) (Array.mk [Value.string (ByteArray.extract s (Int.toNat (IntKind.wrap IntKind.i64 (x79 + 1))) (Int.toNat (↑(ByteArray.size s) : Int))), Value.string substr]) (w81) (fun v127 => (fun w128 =>
                              (∃ x129 : Int, ((v127 = Value.int IntKind.i64 x129) ∧ (ifK (decide (x129 < 0))
                                (R (Value.int IntKind.i64 (-1)) (w128))
                                (R (Value.int IntKind.i64 (IntKind.wrap IntKind.i64 (IntKind.wrap IntKind.i64 (x79 + 1) + x129))) (w128)))))))))))
                            ((z76 (IntKind.wrap IntKind.i64 (x79 + 1)) (IntKind.wrap IntKind.i64 (x80 + 1)) (w81)) ∧ (z77 (IntKind.wrap IntKind.i64 (x79 + 1)) (IntKind.wrap IntKind.i64 (x80 + 1)) w81 < z77 x79 x80 w81)))
                          ((z76 (IntKind.wrap IntKind.i64 (x79 + 1)) (IntKind.wrap IntKind.i64 (x80 + 1)) (w81)) ∧ (z77 (IntKind.wrap IntKind.i64 (x79 + 1)) (IntKind.wrap IntKind.i64 (x80 + 1)) w81 < z77 x79 x80 w81))))
                        ((z76 (IntKind.wrap IntKind.i64 (x79 + 1)) (IntKind.wrap IntKind.i64 (x80 + 1)) (w81)) ∧ (z77 (IntKind.wrap IntKind.i64 (x79 + 1)) (IntKind.wrap IntKind.i64 (x80 + 1)) w81 < z77 x79 x80 w81))))))))))))
                  (∃ x130 : Int, ((World.cell? w81 (Addr.mk 2 0 none) = some (Value.int IntKind.i64 x130)) ∧ (ifK (decide ((↑(ByteArray.size substr) : Int) ≤ x130))
                    (Ca Tryz.prog (161) (Array.mk [Value.int IntKind.i64 (IntKind.wrap IntKind.i64 (x79 + 1))]) (w81) (fun v131 => (fun w132 =>
                      (∃ x133 : Int, ((v131 = Value.int IntKind.i64 x133) ∧ (ifK (decide (IntKind.wrap IntKind.i64 (x80 + 1) > x133))
                        (((0 : Int) ≤ IntKind.wrap IntKind.i64 (x79 + 1)) ∧ (((IntKind.wrap IntKind.i64 (x79 + 1) : Int) ≤ (↑(ByteArray.size s) : Int)) ∧ ((((↑(ByteArray.size s) : Int) : Int) ≤ (↑(ByteArray.size s) : Int)) ∧ (Ca Tryz.prog (160) (Array.mk [Value.string (ByteArray.extract s (Int.toNat (IntKind.wrap IntKind.i64 (x79 + 1))) (Int.toNat (↑(ByteArray.size s) : Int))), Value.string substr]) (w132) (fun v134 => (fun w135 =>
                          (∃ x136 : Int, ((v134 = Value.int IntKind.i64 x136) ∧ (ifK (decide (x136 ≥ 0))
                            (R (Value.int IntKind.i64 (IntKind.wrap IntKind.i64 (x136 + IntKind.wrap IntKind.i64 (x79 + 1)))) (w135))
                            (R (Value.int IntKind.i64 (-1)) (w135)))))))))))
                        (∃ x137 : Int, ((World.cell? w132 (Addr.mk 2 0 none) = some (Value.int IntKind.i64 x137)) ∧ (ifK (decide ((↑(ByteArray.size substr) : Int) > x137))
                          (((0 : Int) ≤ 4) ∧ (ifK (decide (IntKind.wrap IntKind.i64 (x80 + 1) ≥ IntKind.wrap IntKind.i64 (4 + Int.fdiv (IntKind.wrap IntKind.i64 (x79 + 1)) (2 ^ 4))))
                            (ifK (decide (IntKind.wrap IntKind.i64 (x79 + 1) < IntKind.wrap IntKind.i64 (IntKind.wrap IntKind.i64 ((↑(ByteArray.size s) : Int) - (↑(ByteArray.size substr) : Int)) + 1)))
                              (((0 : Int) ≤ IntKind.wrap IntKind.i64 (x79 + 1)) ∧ (((IntKind.wrap IntKind.i64 (x79 + 1) : Int) ≤ (↑(ByteArray.size s) : Int)) ∧ ((((↑(ByteArray.size s) : Int) : Int) ≤ (↑(ByteArray.size s) : Int)) ∧ (Ca Tryz.prog (162) (Array.mk [Value.string (ByteArray.extract s (Int.toNat (IntKind.wrap IntKind.i64 (x79 + 1))) (Int.toNat (↑(ByteArray.size s) : Int))), Value.string substr]) (w132) (fun v138 => (fun w139 =>
                                (∃ x140 : Int, ((v138 = Value.int IntKind.i64 x140) ∧ (ifK (decide (x140 < 0))
                                  (R (Value.int IntKind.i64 (-1)) (w139))
                                  (R (Value.int IntKind.i64 (IntKind.wrap IntKind.i64 (IntKind.wrap IntKind.i64 (x79 + 1) + x140))) (w139)))))))))))
                              ((z76 (IntKind.wrap IntKind.i64 (x79 + 1)) (IntKind.wrap IntKind.i64 (x80 + 1)) (w132)) ∧ (z77 (IntKind.wrap IntKind.i64 (x79 + 1)) (IntKind.wrap IntKind.i64 (x80 + 1)) w132 < z77 x79 x80 w81)))
                            ((z76 (IntKind.wrap IntKind.i64 (x79 + 1)) (IntKind.wrap IntKind.i64 (x80 + 1)) (w132)) ∧ (z77 (IntKind.wrap IntKind.i64 (x79 + 1)) (IntKind.wrap IntKind.i64 (x80 + 1)) w132 < z77 x79 x80 w81))))
                          ((z76 (IntKind.wrap IntKind.i64 (x79 + 1)) (IntKind.wrap IntKind.i64 (x80 + 1)) (w132)) ∧ (z77 (IntKind.wrap IntKind.i64 (x79 + 1)) (IntKind.wrap IntKind.i64 (x80 + 1)) w132 < z77 x79 x80 w81)))))))))))
                    (∃ x141 : Int, ((World.cell? w81 (Addr.mk 2 0 none) = some (Value.int IntKind.i64 x141)) ∧ (ifK (decide ((↑(ByteArray.size substr) : Int) > x141))
                      (((0 : Int) ≤ 4) ∧ (ifK (decide (IntKind.wrap IntKind.i64 (x80 + 1) ≥ IntKind.wrap IntKind.i64 (4 + Int.fdiv (IntKind.wrap IntKind.i64 (x79 + 1)) (2 ^ 4))))
                        (ifK (decide (IntKind.wrap IntKind.i64 (x79 + 1) < IntKind.wrap IntKind.i64 (IntKind.wrap IntKind.i64 ((↑(ByteArray.size s) : Int) - (↑(ByteArray.size substr) : Int)) + 1)))
                          (((0 : Int) ≤ IntKind.wrap IntKind.i64 (x79 + 1)) ∧ (((IntKind.wrap IntKind.i64 (x79 + 1) : Int) ≤ (↑(ByteArray.size s) : Int)) ∧ ((((↑(ByteArray.size s) : Int) : Int) ≤ (↑(ByteArray.size s) : Int)) ∧ (Ca Tryz.prog (162) (Array.mk [Value.string (ByteArray.extract s (Int.toNat (IntKind.wrap IntKind.i64 (x79 + 1))) (Int.toNat (↑(ByteArray.size s) : Int))), Value.string substr]) (w81) (fun v142 => (fun w143 =>
                            (∃ x144 : Int, ((v142 = Value.int IntKind.i64 x144) ∧ (ifK (decide (x144 < 0))
                              (R (Value.int IntKind.i64 (-1)) (w143))
                              (R (Value.int IntKind.i64 (IntKind.wrap IntKind.i64 (IntKind.wrap IntKind.i64 (x79 + 1) + x144))) (w143)))))))))))
                          ((z76 (IntKind.wrap IntKind.i64 (x79 + 1)) (IntKind.wrap IntKind.i64 (x80 + 1)) (w81)) ∧ (z77 (IntKind.wrap IntKind.i64 (x79 + 1)) (IntKind.wrap IntKind.i64 (x80 + 1)) w81 < z77 x79 x80 w81)))
                        ((z76 (IntKind.wrap IntKind.i64 (x79 + 1)) (IntKind.wrap IntKind.i64 (x80 + 1)) (w81)) ∧ (z77 (IntKind.wrap IntKind.i64 (x79 + 1)) (IntKind.wrap IntKind.i64 (x80 + 1)) w81 < z77 x79 x80 w81))))
                      ((z76 (IntKind.wrap IntKind.i64 (x79 + 1)) (IntKind.wrap IntKind.i64 (x80 + 1)) (w81)) ∧ (z77 (IntKind.wrap IntKind.i64 (x79 + 1)) (IntKind.wrap IntKind.i64 (x80 + 1)) w81 < z77 x79 x80 w81))))))))))))))
              (R (Value.int IntKind.i64 (-1)) (w81))))))))))))))))))))))
theorem ca158 (s : ByteArray) (substr : ByteArray) (w : World) (R : Value → World → Prop) (h : W158 s substr w R) : Ca Tryz.prog 158 ⟨[(.string s), (.string substr)]⟩ w R := by
  have h1 : Tryz.prog.follows .mixedOrders = true := by kernel_rfl
  have h2 : Tryz.f158.body = some C158 := by kernel_rfl
  have h3 : (Tryz.f158.name == "runtime.NumGoroutine") = false := by kernel_rfl
  have h6 : Tryz.f158.results.toList = [.tmp 4] := by kernel_rfl
  have h4 : Nat.ble 2 143 = true := by kernel_rfl
  have h5 : okCode 143 pl158 ls158 C158 0 = true := by kernel_rfl
  have e : W158 s substr w R = wpC none Tryz.prog 143 pl158 ls158 C158 0 (endP Tryz.prog [.tmp 4] R) (fr0 [(.string s), (.string substr)]) [] w := by kernel_rfl
  exact ca_of' (P := Tryz.prog) (g := 158) (fn := Tryz.f158) (c := C158) (m := 143) (rs := [.tmp 4]) (args := [(.string s), (.string substr)]) (pl := pl158) (ls := ls158) (w := w) (R := R) h1 Tryz.func158 h2 Tryz.ntmps158 h6 h3 h4 h5 (Eq.mp e h)

/-- internal/stringslite.IndexByte -/
noncomputable def C159 : Code := (Tryz.f159.body).getD .skip
def pl159 : Nat → Plan := fun _ => .done
def ls159 : Nat → List (Nat × LT) := fun _ => []
def W159 (s : ByteArray) (c : Int) (w : World) (R : Value → World → Prop) : Prop :=
  (Ca Tryz.prog (163) (Array.mk [Value.string s, Value.int IntKind.u8 c]) (w) (fun v0 => (fun w1 =>
    (∃ x2 : Int, ((v0 = Value.int IntKind.i64 x2) ∧ (R (Value.int IntKind.i64 x2) (w1)))))))
theorem ca159 (s : ByteArray) (c : Int) (w : World) (R : Value → World → Prop) (h : W159 s c w R) : Ca Tryz.prog 159 ⟨[(.string s), (.int .u8 c)]⟩ w R := by
  have h1 : Tryz.prog.follows .mixedOrders = true := by kernel_rfl
  have h2 : Tryz.f159.body = some C159 := by kernel_rfl
  have h3 : (Tryz.f159.name == "runtime.NumGoroutine") = false := by kernel_rfl
  have h6 : Tryz.f159.results.toList = [.tmp 4] := by kernel_rfl
  have h4 : Nat.ble 2 8 = true := by kernel_rfl
  have h5 : okCode 8 pl159 ls159 C159 0 = true := by kernel_rfl
  have e : W159 s c w R = wpC none Tryz.prog 8 pl159 ls159 C159 0 (endP Tryz.prog [.tmp 4] R) (fr0 [(.string s), (.int .u8 c)]) [] w := by kernel_rfl
  exact ca_of' (P := Tryz.prog) (g := 159) (fn := Tryz.f159) (c := C159) (m := 8) (rs := [.tmp 4]) (args := [(.string s), (.int .u8 c)]) (pl := pl159) (ls := ls159) (w := w) (R := R) h1 Tryz.func159 h2 Tryz.ntmps159 h6 h3 h4 h5 (Eq.mp e h)
end Go.Proofs.YtehhhkcemmfjpaaGreatDoor

/- The library's stringslite.IndexByte, Index, at a separator of one byte. -/
namespace Go.Proofs.YtehhhkcemmfjpaaGreatDoor
open Go Go.RowKit Go.Proofs.YtehhhkcemmfjpaaGreatDoor.St

set_option maxRecDepth 100000 in
set_option maxHeartbeats 2000000 in
theorem indexByte_calls (s : ByteArray) (c : Int) (w : World) :
    Calls Tryz.prog 159 #[.string s, .int .u8 c] w fun e w' => e = .returned (.int .i64 (Lib.indexByte s.data.toList c.toNat.toUInt8)) ∧ w' = w := by
  have mixed : Tryz.prog.follows .mixedOrders = true := by kernel_rfl
  go_enter Tryz.func159, Tryz.ntmps159
  go_wp2
  rw [run_callFunc_extern Tryz.func163 (by kernel_rfl) (by kernel_rfl) (by kernel_rfl) (e := Extern.BytealgIndexByte.indexByte) (by kernel_rfl), Lib.run_indexByteString]
  simp only [Result.andThen]
  rw [Oper.upon_value]
  go_wp2
  go_ret
  exact ⟨rfl, rfl⟩
theorem indexByte_ok (s : ByteArray) (c : Int) (w : World) (R : Value → World → Prop) (h : R (.int .i64 (Lib.indexByte s.data.toList c.toNat.toUInt8)) w) : Ca Tryz.prog 159 #[.string s, .int .u8 c] w R :=
  ⟨fun w => callFunc_run (c := C159) Tryz.func159 (by kernel_rfl) (by kernel_rfl) _ w, (indexByte_calls s c w).mono fun e w' ⟨h1, h2⟩ => by subst h2; exact ⟨_, h1, h⟩⟩
def dot : ByteArray := ByteArray.mk #[46]
theorem index_ok (s : ByteArray) (w : World) (R : Value → World → Prop) (h : R (.int .i64 (Lib.indexByte s.data.toList 46)) w) : Ca Tryz.prog 156 #[.string s, .string dot] w R := by
  refine ca156 s dot w R ?_
  refine ca158 s dot w _ ?_
  refine ifK_of (fun h0 => by cases h0) fun _ => ifK_of (fun he => ?_) fun _ => ifK_of (fun _ => ⟨by decide, by decide, indexByte_ok _ _ _ _ ⟨_, rfl, _, rfl, h⟩⟩) fun h0 => by cases h0
  have : s = dot := (ba_toList _ _ (eq_of_beq he)).symm
  subst this
  exact ⟨_, rfl, h⟩
end Go.Proofs.YtehhhkcemmfjpaaGreatDoor

/- The program's Words: what lies between the dots. -/
namespace Go.Proofs.YtehhhkcemmfjpaaGreatDoor
open Go Go.Proofs.YtehhhkcemmfjpaaGreatDoor Go.Proofs.YtehhhkcemmfjpaaGreatDoor.St

def splitD : List UInt8 → List (List UInt8)
  | [] => [[]]
  | c :: r => if c = 46 then [] :: splitD r else match splitD r with | [] => [[c]] | x :: xs => (c :: x) :: xs
theorem splitD_ne : ∀ l, splitD l ≠ []
  | [] => by simp [splitD]
  | c :: r => by
    simp only [splitD]
    split
    · simp
    · split <;> simp
theorem splitD_len : ∀ l, (splitD l).length ≤ l.length + 1
  | [] => by simp [splitD]
  | c :: r => by
    have := splitD_len r
    simp only [splitD]
    split
    · simp; omega
    · split
      · simp
      · rename_i x xs h
        rw [h] at this
        simp at this ⊢
        omega
theorem index_cases : ∀ l : List UInt8, (Lib.indexByte l 46 = -1 ∧ splitD l = [l]) ∨ ∃ i : Nat, Lib.indexByte l 46 = i ∧ i < l.length ∧ splitD l = l.take i :: splitD (l.drop (i + 1))
  | [] => .inl ⟨rfl, rfl⟩
  | c :: r => by
    by_cases hc : c = 46
    · subst hc
      exact .inr ⟨0, rfl, by simp, by simp [splitD]⟩
    · have hb : (c == 46) = false := beq_false_of_ne hc
      rcases index_cases r with ⟨h1, h2⟩ | ⟨i, h1, h2, h3⟩
      · refine .inl ⟨by simp [Lib.indexByte, hb, h1], by simp [splitD, hc, h2]⟩
      · refine .inr ⟨i + 1, ?_, by simpa using h2, by simp [splitD, hc, h3]⟩
        have : ¬ ((i : Int) = -1) := by omega
        simp [Lib.indexByte, hb, h1, this]
def bs (l : List UInt8) : ByteArray := ⟨l.toArray⟩
theorem bs_data (s : ByteArray) : bs s.data.toList = s := rfl
theorem bs_size (l : List UInt8) : (bs l).size = l.length := rfl
theorem bs_list (l : List UInt8) : (bs l).data.toList = l := rfl
/-- The words of a text. -/
def wordsOf (s : ByteArray) : List ByteArray := if s.size = 0 then [] else (splitD s.data.toList).map bs
theorem bs_extract (l : List UInt8) (i j : Nat) : (bs l).extract i j = bs ((l.drop i).take (j - i)) := by
  apply ByteArray.ext
  rw [ByteArray.data_extract]
  apply Array.ext'
  simp [bs, List.extract_eq_take_drop]

set_option maxRecDepth 100000 in
theorem words_ok (s : ByteArray) (w : World) (hs : s.size < 1000000000) (R : Value → World → Prop)
    (h : ∀ w' a l c, Els Value.string 9 w' a l c (wordsOf s) → Mod no w w' → (∀ k, rowB a k → w.heap.size ≤ k) → R (.slice a l c) w') : Ca Tryz.prog 105 #[.string s] w R := by
  refine ca105 s w R (ifK_of (fun he => ?_) fun hne => ?_)
  · have : s.size = 0 := by
      have : s = ByteArray.mk #[] := ba_toList _ _ (eq_of_beq he)
      rw [this]; rfl
    exact h w none 0 0 (by rw [wordsOf, if_pos this]; exact Els.nil _ _) (Mod.refl _ _) fun k hk => by cases hk
  have hpos : s.size ≠ 0 := fun h0 => by
    have : s = ByteArray.mk #[] := ByteArray.ext (Array.eq_empty_of_size_eq_zero h0)
    rw [this] at hne
    simp at hne
  intro w0 e0
  have n0 : Mod no w w0 := by subst e0; exact Mod.alloc _ _
  have b0 : w0.heap[w.heap.size]? = some (.cells #[.slice none 0 0] 55 (0, 0)) := by subst e0; exact new_at _ _
  have s0 : w0.heap.size = w.heap.size + 1 := by subst e0; simp
  clear e0
  refine ca137 s dot w0 _ ?_
  refine ca150 s dot 0 w0 _ ?_
  intro u0 e0
  have p0 : Mod no w0 u0 := by subst e0; exact Mod.alloc _ _
  have c0 : u0.heap[w0.heap.size]? = some (.cells #[.string s] 9 (0, 0)) := by subst e0; exact new_at _ _
  have z0 : u0.heap.size = w0.heap.size + 1 := by subst e0; simp
  clear e0
  intro u1 e1
  have p1 : Mod no u0 u1 := by subst e1; exact Mod.alloc _ _
  have c1 : u1.heap[u0.heap.size]? = some (.cells #[.string dot] 9 (0, 0)) := by subst e1; exact new_at _ _
  have z1 : u1.heap.size = u0.heap.size + 1 := by subst e1; simp
  clear e1
  intro w2 e2
  have p2 : Mod no u1 w2 := by subst e2; exact Mod.alloc _ _
  have c2 : w2.heap[u1.heap.size]? = some (.cells #[.int .i64 0] 3 (0, 0)) := by subst e2; exact new_at _ _
  have z2 : w2.heap.size = u1.heap.size + 1 := by subst e2; simp
  clear e2
  have c1 := p2.at' c1
  have c0 := p2.at' (p1.at' c0)
  have n02 := (p0.trans p1).trans p2
  have b2 := n02.at' b0
  have n2 := n0.trans n02
  refine ⟨_, rfl, _, rfl, ⟨_, _, _, rfl⟩, ?_⟩
  intro Rdy Bsy hrs hbs hrb w3 m3 s3 hr3 hy
  -- what has been gathered, and what is left
  let Inv : List ByteArray → List UInt8 → World → Prop := fun pre rest w' => Rdy w' ∧ w'.heap[w0.heap.size]? = some (.cells #[.string (bs rest)] 9 (0, 0)) ∧ w'.heap[u0.heap.size]? = some (.cells #[.string dot] 9 (0, 0)) ∧
    w'.heap[u1.heap.size]? = some (.cells #[.int .i64 0] 3 (0, 0)) ∧ Mod no w w' ∧ w2.heap.size + 2 ≤ w'.heap.size ∧
    ∃ a l c, w'.heap[w.heap.size]? = some (.cells #[.slice a l c] 55 (0, 0)) ∧ Els Value.string 9 w' a l c pre ∧ ∀ k, rowB a k → w2.heap.size + 2 ≤ k
  have yield1 : ∀ (pre : List ByteArray) (rest : List UInt8) (x : ByteArray) (w5 : World) (K : World → Prop), Inv pre rest w5 → pre.length < 1000000001 → (∀ w6, Inv (pre ++ [x]) rest w6 → K w6) →
      CaV Tryz.prog (.func (.yield (w2.heap.size + 1)) #[] #[]) #[.string x] w5 fun v w6 => v = .bool true ∧ K w6 := by
    rintro pre rest x w5 K ⟨hr, i0, i1, i2, im, isz, a, l, c, ib, ie, ia⟩ hpl hK
    refine hy (.string x) w5 K hr ⟨hr, fun w6 hbz m6 s6 => ?_⟩
    have q : ∀ k, k < w2.heap.size → ¬ k = w2.heap.size + 1 := fun k hk => by omega
    have b6 := m6.at ib (q _ (by omega))
    have e6 : Els Value.string 9 w6 a l c pre := ie.mod m6 fun k hk hS => by have := ia k hk; omega
    have hl6 := e6.len.1
    refine ⟨a, l, c, by rw [cl b6]; rfl, ?_⟩
    intro w10 e10
    have m10 : Mod no w6 w10 := by subst e10; exact Mod.alloc _ _
    have b10 : w10.heap[w6.heap.size]? = some (.cells #[.string x] 9 (0, 0)) := by subst e10; exact new_at _ _
    clear e10
    obtain ⟨a', c', w12, hrun, e12, m12, hnew⟩ := Els.push1 (P := Tryz.prog) (t := 55) (ty := 55) (fun _ => rfl) (by kernel_rfl) (e6.no m10) b10 (by omega)
    have hbox : ¬ rowB a w.heap.size := fun hk => by have := ia _ hk; omega
    have b12 := m12.at (m10.at' b6) hbox
    refine ⟨_, w12, hrun, _, _, _, rfl, ⟨_, by rw [cl1 b12]; rfl⟩, fz1 b12 _, ?_⟩
    intro w17 e17
    have m17 : Mod (on w.heap.size) w12 w17 := by subst e17; exact Mod.set1 _ _ _ _
    have b17 : w17.heap[w.heap.size]? = some (.cells #[.slice a' (l + 1) c'] 55 (0, 0)) := by subst e17; rw [set1 b12]; rfl
    clear e17
    have hs6 : w2.heap.size + 2 ≤ w6.heap.size := by omega
    have hs10 := m10.size
    have hnew' : ∀ k, rowB a' k → w2.heap.size + 2 ≤ k := fun k hk => (hnew k hk).elim (ia k) (fun h => by omega)
    have e17 : Els Value.string 9 w17 a' (l + 1) c' (pre ++ [x]) := e12.mod m17 fun k hk e => by cases e; have := hnew' _ hk; omega
    have mA : Mod (fun k => rowB a k ∨ k = w.heap.size) w6 w17 := (m10.no_trans (m12.mono fun k _ hk => .inl hk)).trans' m17 fun k _ hk => .inr hk
    obtain ⟨h1, r, h2⟩ := hrb w6 (.inr hbz)
    have k1 : ¬ (rowB a w2.heap.size ∨ w2.heap.size = w.heap.size) := fun h => h.elim (fun h => by have := ia _ h; omega) (by omega)
    have k2 : ¬ (rowB a (w2.heap.size + 1) ∨ w2.heap.size + 1 = w.heap.size) := fun h => h.elim (fun h => by have := ia _ h; omega) (by omega)
    refine ⟨hbs w6 w17 hbz (by rw [mA.at h1 k1, h1]) (by rw [mA.at h2 k2, h2]), fun w7 hr7 m7 s7 => hK w7 ?_⟩
    have mB : Mod (fun k => k = w2.heap.size + 1 ∨ (rowB a k ∨ k = w.heap.size)) w5 w7 := ((m6.mono fun k _ hk => .inl hk).trans' mA fun k _ hk => .inr hk).trans' m7 fun k _ hk => .inl hk
    have keep : ∀ k o, w5.heap[k]? = some o → w.heap.size < k → k < w2.heap.size → w7.heap[k]? = some o := fun k o ho hk1 hk2 => mB.at ho fun hS => by
      rcases hS with h | h | h
      · omega
      · have := ia _ h; omega
      · omega
    refine ⟨hr7, keep _ _ i0 (by omega) (by omega), keep _ _ i1 (by omega) (by omega), keep _ _ i2 (by omega) (by omega), ?_, Nat.le_trans isz mB.size, a', l + 1, c', m7.at b17 (q _ (by omega)), e17.mod m7 fun k hk hS => by have := hnew' k hk; omega, hnew'⟩
    refine im.new mB fun k hS => ?_
    rcases hS with h | h | h
    · omega
    · have := ia _ h; omega
    · omega
  have done : ∀ (w5 : World), Inv (wordsOf s) [] w5 ∨ (∃ rest, Inv (wordsOf s) rest w5) → Rdy w5 ∧ ∀ w6, Mod (fun k => k = w2.heap.size ∨ k = w2.heap.size + 1) w5 w6 → w6.heap.size = w5.heap.size → w6.heap[w2.heap.size]? = some (.deferred (some [])) →
      ∃ p22 n23 n24, w6.cell? ⟨w.heap.size, 0, none⟩ = some (.slice p22 n23 n24) ∧ w6.heap[w2.heap.size]? = some (.deferred (some [])) ∧ atW (w6.putObj w2.heap.size (.deferred none)) fun w25 => R (.slice p22 n23 n24) w25 := by
    intro w5 hI
    obtain ⟨rest, hr, i0, i1, i2, im, isz, a, l, c, ib, ie, ia⟩ : ∃ rest, Inv (wordsOf s) rest w5 := hI.elim (fun h => ⟨[], h⟩) id
    refine ⟨hr, fun w6 m6 s6 hd => ?_⟩
    have b6 := m6.at ib (by omega)
    have e6 : Els Value.string 9 w6 a l c (wordsOf s) := ie.mod m6 fun k hk hS => by have := ia k hk; omega
    have im6 : Mod no w w6 := im.new m6 fun k hS => by omega
    refine ⟨a, l, c, by rw [cl b6]; rfl, hd, fun w25 e25 => ?_⟩
    have m25 : Mod (on w2.heap.size) w6 w25 := by subst e25; exact Mod.putObj _ _ _
    exact h w25 a l c (e6.mod m25 fun k hk hS => by cases hS; have := ia _ hk; omega) (im6.new m25 fun k hk => by cases hk; omega) fun k hk => by have := ia k hk; omega
  refine (ca154 (.func (.yield (w2.heap.size + 1)) #[] #[]) (some ⟨u0.heap.size, 0, none⟩) (some ⟨w0.heap.size, 0, none⟩) (some ⟨u1.heap.size, 0, none⟩) w3 _ ?_ : Ca _ _ _ _ _)
  have c0 := m3.at c0 id
  have c1 := m3.at c1 id
  have c2 := m3.at c2 id
  have b3 := m3.at b2 id
  refine ⟨dot, by rw [cl c1]; rfl, ifK_of (fun h0 => by cases h0) fun _ => ?_⟩
  refine ⟨fun w' => ∃ pre rest, Inv pre rest w' ∧ pre ++ (splitD rest).map bs = wordsOf s ∧ pre.length + rest.length ≤ s.size, fun w' => match w'.cell? ⟨w0.heap.size, 0, none⟩ with | some (.string t) => t.size | _ => 0,
    ⟨[], s.data.toList, ⟨hr3, c0, c1, c2, n2.trans (m3.mono fun _ _ h => h.elim), by omega, none, 0, 0, b3, Els.nil _ _, fun k hk => by cases hk⟩, by rw [wordsOf, if_neg hpos]; rfl, by simp⟩, ?_⟩
  rintro _ w5 ⟨pre, rest, hI, hsp, hlen⟩
  obtain ⟨hr, i0, i1, i2, im, isz, a, l, c, ib, ie, ia⟩ := hI
  have i05 := i0
  have hI : Inv pre rest w5 := ⟨hr, i0, i1, i2, im, isz, a, l, c, ib, ie, ia⟩
  refine ⟨bs rest, by rw [cl i0]; rfl, dot, by rw [cl i1]; rfl, index_ok _ _ _ ⟨_, rfl, ?_⟩⟩
  rw [bs_list]
  rcases index_cases rest with ⟨h1, h2⟩ | ⟨i, h1, h2, h3⟩
  · rw [h1]
    refine ifK_of (fun _ => ?_) fun h0 => by cases h0
    refine ⟨bs rest, by rw [cl i0]; rfl, (yield1 pre rest (bs rest) w5 _ hI (by omega) fun w6 h6 => ?_).mono fun v w6 hv => ⟨true, hv.1, hv.2⟩⟩
    refine done w6 (.inr ⟨rest, ?_⟩)
    rw [h2] at hsp
    rw [← hsp]
    exact h6
  · rw [h1]
    refine ifK_dec (fun h0 => by omega) fun _ => ?_
    have e1 : IntKind.i64.wrap ((i : Int) + 0) = (i : Int) := (by first | (simp only [IntKind.wrap_i64]; omega) | omega)
    have e2 : IntKind.i64.wrap ((i : Int) + (dot.size : Nat)) = ((i + 1 : Nat) : Int) := by rw [show dot.size = 1 from rfl]; exact (by first | (simp only [IntKind.wrap_i64]; omega) | omega)
    refine ⟨bs rest, by rw [cl i0]; rfl, 0, by rw [cl i2]; rfl, by decide, ?_⟩
    rw [e1]
    refine ⟨by omega, by rw [bs_size]; omega, ?_⟩
    rw [Int.toNat_natCast, bs_extract]
    refine (yield1 pre rest (bs (rest.take i)) w5 _ hI (by omega) fun w6 h6 => ?_).mono fun v w6 hv => ⟨true, hv.1, hv.2⟩
    obtain ⟨hr, i0, i1, i2, im, isz, a, l, c, ib, ie, ia⟩ := h6
    refine ifK_of (fun h0 => by cases h0) fun _ => ?_
    refine ⟨bs rest, by rw [cl i0]; rfl, dot, by rw [cl i1]; rfl, ?_⟩
    rw [e2]
    refine ⟨by omega, by rw [bs_size]; omega, by omega, ⟨_, by rw [cl1 i0]; rfl⟩, fz1 i0 _, ?_⟩
    rw [Int.toNat_natCast, Int.toNat_natCast, bs_extract, bs_size, List.take_of_length_le (by simp)]
    intro w7 e7
    have m7 : Mod (on w0.heap.size) w6 w7 := by subst e7; exact Mod.set1 _ _ _ _
    have j0 : w7.heap[w0.heap.size]? = some (.cells #[.string (bs (rest.drop (i + 1)))] 9 (0, 0)) := by subst e7; rw [set1 i0]; rfl
    clear e7
    obtain ⟨g1, r, g2⟩ := hrb w6 (.inl hr)
    refine ⟨⟨pre ++ [bs (rest.take i)], rest.drop (i + 1), ⟨hrs w6 w7 hr (by rw [m7.at g1 (show ¬ w2.heap.size = w0.heap.size by omega), g1]) (by rw [m7.at g2 (show ¬ w2.heap.size + 1 = w0.heap.size by omega), g2]), j0, m7.at i1 (show ¬ u0.heap.size = w0.heap.size by omega), m7.at i2 (show ¬ u1.heap.size = w0.heap.size by omega), im.new m7 (fun k hk => by cases hk; omega), Nat.le_trans isz m7.size,
      a, l, c, m7.at ib (show ¬ w.heap.size = w0.heap.size by omega), ie.mod m7 (fun k hk hS => by cases hS; have := ia _ hk; omega), ia⟩, ?_, ?_⟩, ?_⟩
    · rw [← hsp, h3]
      simp
    · simp
      omega
    · show (match w7.cell? ⟨w0.heap.size, 0, none⟩ with | some (.string t) => t.size | _ => 0) < (match w5.cell? ⟨w0.heap.size, 0, none⟩ with | some (.string t) => t.size | _ => 0)
      rw [cl j0, cl i05]
      show (bs (rest.drop (i + 1))).size < (bs rest).size
      rw [bs_size, bs_size, List.length_drop]
      omega
end Go.Proofs.YtehhhkcemmfjpaaGreatDoor

/- The program's Key and Pattern, may, and Bind. -/
namespace Go.Proofs.YtehhhkcemmfjpaaGreatDoor
open Go Go.Proofs.YtehhhkcemmfjpaaGreatDoor Go.Proofs.YtehhhkcemmfjpaaGreatDoor.St

/-- A test of words. -/
abbrev TestW (f : Value) (φ : ByteArray → Bool) (w : World) : Prop := ∀ x w', Mod no w w' → ∀ R : Value → World → Prop, (∀ w'', Mod no w' w'' → R (.bool (φ x)) w'') → CaV Tryz.prog f #[.string x] w' R
theorem contains_ok (f : Value) (φ : ByteArray → Bool) (w : World) (a : Option Addr) (l c : Nat) (xs : List ByteArray) (hx : Els Value.string 9 w a l c xs) (hl : l < 1000000000) (hf : TestW f φ w) (R : Value → World → Prop)
    (h : ∀ w', Mod no w w' → R (.bool (xs.any φ)) w') : Ca Tryz.prog 107 #[.slice a l c, f] w R := by
  refine ca107 a l c f w R ?_
  refine ca138 a l c f w _ ?_
  have hxl := hx.len.1
  refine ⟨fun x w' => ∃ i : Nat, x = i ∧ i ≤ l ∧ Mod no w w' ∧ (xs.any φ) = ((xs.drop i).any φ), fun x _ => ((l : Int) - x).toNat, ⟨0, rfl, by omega, Mod.refl _ _, rfl⟩, ?_⟩
  rintro _ _ w4 ⟨i, rfl, hi, m4, he⟩
  refine ifK_dec (fun hlt => ?_) (fun hge => ?_)
  · have hil : i < xs.length := by omega
    have hd : xs.drop i = at0 xs i :: xs.drop (i + 1) := by rw [List.drop_eq_getElem_cons hil, at0_eq hil]
    refine (hx.no m4).rd i rfl (by omega) (hf _ w4 m4 _ fun w8 m8 => ⟨_, rfl, ifK_of (fun ht => ?_) (fun hf => ?_)⟩)
    · refine ⟨_, rfl, ?_⟩
      have h' := h w8 (m4.trans m8)
      rw [he, hd, List.any_cons, ht] at h'
      rw [show decide ((i : Int) ≥ 0) = true from decide_eq_true (by omega)]
      exact h'
    · refine ⟨⟨i + 1, (by first | (simp only [IntKind.wrap_i64]; omega) | omega), by omega, m4.trans m8, ?_⟩, (by first | (simp only [IntKind.wrap_i64]; omega) | omega)⟩
      rw [he, hd, List.any_cons, hf, Bool.false_or]
  · refine ⟨_, rfl, ?_⟩
    have h' := h w4 m4
    rw [he, List.drop_eq_nil_of_le (by omega)] at h'
    exact h'
/-- Is a text of words that are so? -/
def madeB (φ : ByteArray → Bool) (s : ByteArray) : Bool := decide (s.size ≤ 60) && (decide ((wordsOf s).length ≤ 12) && (wordsOf s).all φ)
theorem madeS_ok (s : ByteArray) (f : Fn) (fa ca : Array Value) (φ : ByteArray → Bool) (w : World) (hs : s.size < 1000000000) (hf : TestW (.func f fa ca) φ w) (R : Value → World → Prop) (h : ∀ w', Mod no w w' → R (.bool (madeB φ s)) w') :
    Ca Tryz.prog 89 #[.string s, .func f fa ca] w R := by
  refine ca89 s (.func f fa ca) w R ?_
  intro w0 e0
  have m0 : Mod no w w0 := by subst e0; exact Mod.alloc _ _
  have b0 : ∃ t, w0.heap[w.heap.size]? = some (.cells #[.func f fa ca] t (0, 0)) := by subst e0; exact ⟨_, new_at _ _⟩
  clear e0
  obtain ⟨t, b0⟩ := b0
  refine words_ok s w0 hs _ fun w2 a l c hx m2 hn => ⟨a, l, c, rfl, ?_⟩
  have hxl := hx.len.1
  have m02 := m0.trans m2
  have hwl : (wordsOf s).length ≤ s.size + 1 := by
    unfold wordsOf
    split
    · simp
    · rw [List.length_map]; exact splitD_len _
  refine ifK_dec (fun h1 => ifK_dec (fun h2 => ?_) fun h2 => ?_) fun h1 => ?_
  · refine contains_ok _ (fun x => !φ x) w2 a l c _ hx (by omega) (fun x w' mw R' hR' => ?_) _ fun w7 m7 => ⟨_, rfl, ?_⟩
    · refine (ca106 x (some ⟨w.heap.size, 0, none⟩) w' R' ?_ : Ca _ _ _ _ _)
      have bb := mw.at' (m2.at' b0)
      exact ⟨_, by rw [cl bb]; rfl, hf x w' (m02.trans mw) _ fun w'' mm => ⟨_, rfl, hR' w'' mm⟩⟩
    · have h' := h w7 (m02.trans m7)
      rw [madeB, decide_eq_true (show s.size ≤ 60 by omega), decide_eq_true (show (wordsOf s).length ≤ 12 by omega), Bool.true_and, Bool.true_and] at h'
      have : (!(wordsOf s).any fun x => !φ x) = (wordsOf s).all φ := by
        rw [List.not_any_eq_all_not]
        congr 1
        funext x
        simp
      rw [this]
      exact h'
  · have h' := h w2 m02
    rw [madeB, decide_eq_false (show ¬ (wordsOf s).length ≤ 12 by omega), Bool.false_and, Bool.and_false] at h'
    exact h'
  · have h' := h w2 m02
    rw [madeB, decide_eq_false (show ¬ s.size ≤ 60 by omega), Bool.false_and] at h'
    exact h'
def wild (x : ByteArray) : Bool := decide (x = ByteArray.mk #[42]) || (decide (x = ByteArray.mk #[35]) || plainB x)
abbrev keyB : ByteArray → Bool := madeB plainB
abbrev patB : ByteArray → Bool := madeB wild
theorem key_ok (s : ByteArray) (w : World) (hs : s.size < 1000000000) (R : Value → World → Prop) (h : ∀ w', Mod no w w' → R (.bool (keyB s)) w') : Ca Tryz.prog 66 #[.string s] w R := by
  refine ca66 s w R ?_
  exact madeS_ok s (.func 82) #[] #[] plainB w hs (fun x w' _ R' hR' => plain_ok x w' R' hR') _ fun w' m => ⟨_, rfl, h w' m⟩
theorem pattern_ok (s : ByteArray) (w : World) (hs : s.size < 1000000000) (R : Value → World → Prop) (h : ∀ w', Mod no w w' → R (.bool (patB s)) w') : Ca Tryz.prog 84 #[.string s] w R := by
  refine ca84 s w R ?_
  refine madeS_ok s _ _ _ wild w hs (fun x w' _ R' hR' => ?_) _ fun w' m => ⟨_, rfl, h w' m⟩
  refine (ca103 x w' R' ?_ : Ca _ _ _ _ _)
  rw [W103, toList_beq, toList_beq]
  refine ifK_of (fun h1 => ?_) (fun h1 => ifK_of (fun h2 => ?_) (fun h2 => ?_))
  · have h' := hR' w' (Mod.refl _ _)
    rw [wild, h1, Bool.true_or] at h'
    exact h'
  · have h' := hR' w' (Mod.refl _ _)
    rw [wild, h1, h2, Bool.false_or, Bool.true_or] at h'
    exact h'
  · refine plain_ok x w' _ fun w'' mm => ⟨_, rfl, ?_⟩
    have h' := hR' w'' mm
    rw [wild, h1, h2, Bool.false_or, Bool.false_or] at h'
    exact h'
/-- May an exchange's binding have a pattern? -/
def mayB (x : Exc) (p : ByteArray) : Bool := if x.k = 1 then keyB p else if x.k = 3 then patB p else decide (p = ByteArray.mk #[])
theorem may_ok (x : Exc) (p : ByteArray) (w : World) (hs : p.size < 1000000000) (R : Value → World → Prop) (h : ∀ w', Mod no w w' → R (.bool (mayB x p)) w') : Ca Tryz.prog 56 #[.agg ⟨x.cs⟩, .string p] w R := by
  refine (ca56 x.n x.k x.f p w R ?_ : Ca _ _ _ _ _)
  intro w0 e0
  have m0 : Mod no w w0 := by subst e0; exact Mod.alloc _ _
  have b0 : Xc w0 w.heap.size x := by subst e0; exact new_at _ _
  clear e0
  refine ⟨x.k, by rw [cl1 b0]; rfl, ifK_eq (fun h1 => ?_) (fun h1 => ifK_eq (fun h2 => ?_) (fun h2 => ?_))⟩
  · refine key_ok p w0 hs _ fun w1 m1 => ⟨_, rfl, ?_⟩
    have h' := h w1 (m0.trans m1)
    rw [mayB, if_pos h1] at h'
    exact h'
  · refine pattern_ok p w0 hs _ fun w1 m1 => ⟨_, rfl, ?_⟩
    have h' := h w1 (m0.trans m1)
    rw [mayB, if_neg h1, if_pos h2] at h'
    exact h'
  · have h' := h w0 m0
    rw [mayB, if_neg h1, if_neg h2] at h'
    rw [toList_beq]
    exact h'
end Go.Proofs.YtehhhkcemmfjpaaGreatDoor
