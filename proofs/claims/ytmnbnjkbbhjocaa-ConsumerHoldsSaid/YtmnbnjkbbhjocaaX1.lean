/- Parts of the proof of ConsumerHoldsSaid. -/
import Derived.Test.YtmnbnjkbbhjocaaCore9
import Derived.Test.YtmnbnjkbbhjocaaProg
import Derived.Test.YtmnbnjkbbhjocaaLib
import Derived.Laws.RangeString
import Derived.Laws.Strings
/- The formulas of functions, printed by a program of mine (gen.py) out of the translation. -/
namespace Go.Proofs.Ytmnbnjkbbhjocaa
open Go Go.Proofs.Ytmnbnjkbbhjocaa.St
set_option maxRecDepth 100000

/-- staith/staithlaw17.ConsumerNone -/
noncomputable def C6 : Code := (Try.f6.body).getD .skip
def pl6 : Nat → Plan := fun _ => .done
def ls6 : Nat → List (Nat × LT)
  | 4 => [(15, (.one (.int .i64)))]
  | _ => []
def W6 (a0_ : Int) (a1_ : Int) (a2_ : ByteArray) (a3_ : Int) (a4_ : Int) (w : World) (R : Value → World → Prop) : Prop :=
  (atW (World.alloc w (Obj.cells (Array.mk [Value.int IntKind.i64 a0_, Value.int IntKind.i64 a1_, Value.string a2_, Value.int IntKind.i64 a3_, Value.int IntKind.u64 a4_]) 47 (0, 0))) (fun w0 =>
    (atW (World.alloc w0 (Obj.cells (Array.mk [Value.slice none 0 0, Value.bool false]) 59 (0, 0))) (fun w1 =>
      (∃ z2 : Int → World → Prop, (∃ z3 : Int → World → Nat, ((z2 (0) (w1)) ∧ (∀ (_ : Nat → Value), (∀ (x5 : Int), (∀ (w6 : World), ((z2 (x5) (w6)) → (ifK (decide (x5 < 2))
        (∃ v7 : Value, (∃ w8 : World, ((Sem.run Try.prog (Instr.index 60 (Value.agg (Array.mk [Value.pointer none, Value.pointer (some (Addr.mk (Array.size (World.heap w0)) 0 none))])) (Value.int IntKind.i64 x5)) w6 = Result.ok v7 w8) ∧ (∃ p9 : Option Addr, ((v7 = Value.pointer p9) ∧ (∃ x10 : Int, ((World.cell? w8 (Addr.add (Addr.mk (Array.size (World.heap w)) 0 none) 1) = some (Value.int IntKind.i64 x10)) ∧ (Ca Try.prog (12) (Array.mk [Value.pointer p9, Value.int IntKind.i64 x10]) (w8) (fun v11 => (fun w12 =>
          (∃ s13 : ByteArray, (∃ p14 : Option Addr, (∃ n15 : Nat, (∃ n16 : Nat, (∃ x17 : Int, ((v11 = Value.tuple (Array.mk (List.reverse [Value.int IntKind.i64 x17, Value.agg (Array.mk (List.reverse [Value.slice p14 n15 n16, Value.string s13]))]))) ∧ (atW (World.alloc w12 (Obj.cells (Array.mk [Value.string (ByteArray.mk #[]), Value.slice none 0 0]) 33 (0, 0))) (fun w18 =>
            ((∃ v19 : Value, (World.cell? w18 (Addr.add (Addr.mk (Array.size (World.heap w12)) 0 none) 0) = some v19)) ∧ ((World.frozen? w18 (Addr.add (Addr.mk (Array.size (World.heap w12)) 0 none) 0) = false) ∧ (atW (World.setCell w18 (Addr.add (Addr.mk (Array.size (World.heap w12)) 0 none) 0) (Value.string s13)) (fun w20 =>
              ((∃ v21 : Value, (World.cell? w20 (Addr.add (Addr.mk (Array.size (World.heap w12)) 0 none) 1) = some v21)) ∧ ((World.frozen? w20 (Addr.add (Addr.mk (Array.size (World.heap w12)) 0 none) 1) = false) ∧ (atW (World.setCell w20 (Addr.add (Addr.mk (Array.size (World.heap w12)) 0 none) 1) (Value.slice p14 n15 n16)) (fun w22 =>
                (∃ s23 : ByteArray, ((World.cell? w22 (Addr.add (Addr.mk (Array.size (World.heap w)) 0 none) 2) = some (Value.string s23)) ∧ (Ca Try.prog (10) (Array.mk [Value.pointer p9, Value.string s23]) (w22) (fun v24 => (fun w25 =>
                  (∃ x26 : Int, (∃ b27 : Bool, ((v24 = Value.tuple (Array.mk (List.reverse [Value.bool b27, Value.int IntKind.i64 x26]))) ∧ (∃ x28 : Int, ((World.cell? w25 (Addr.add (Addr.mk (Array.size (World.heap w)) 0 none) 1) = some (Value.int IntKind.i64 x28)) ∧ (∃ x29 : Int, ((World.cell? w25 (Addr.add (Addr.mk (Array.size (World.heap w)) 0 none) 4) = some (Value.int IntKind.u64 x29)) ∧ (Ca Try.prog (22) (Array.mk [Value.pointer p9, Value.int IntKind.i64 x28, Value.int IntKind.u64 x29]) (w25) (fun v30 => (fun w31 =>
                    (∃ s32 : ByteArray, (∃ x33 : Int, ((v30 = Value.tuple (Array.mk (List.reverse [Value.int IntKind.i64 x33, Value.string s32]))) ∧ (∃ x34 : Int, ((World.cell? w31 (Addr.add (Addr.mk (Array.size (World.heap w)) 0 none) 1) = some (Value.int IntKind.i64 x34)) ∧ (Ca Try.prog (19) (Array.mk [Value.pointer p9, Value.int IntKind.i64 x34]) (w31) (fun v35 => (fun w36 =>
                      (∃ s37 : ByteArray, (∃ p38 : Option Addr, (∃ n39 : Nat, (∃ n40 : Nat, (∃ b41 : Bool, ((v35 = Value.tuple (Array.mk (List.reverse [Value.bool b41, Value.agg (Array.mk (List.reverse [Value.slice p38 n39 n40, Value.string s37]))]))) ∧ (atW (World.alloc w36 (Obj.cells (Array.mk [Value.string (ByteArray.mk #[]), Value.slice none 0 0]) 33 (0, 0))) (fun w42 =>
                        ((∃ v43 : Value, (World.cell? w42 (Addr.add (Addr.mk (Array.size (World.heap w36)) 0 none) 0) = some v43)) ∧ ((World.frozen? w42 (Addr.add (Addr.mk (Array.size (World.heap w36)) 0 none) 0) = false) ∧ (atW (World.setCell w42 (Addr.add (Addr.mk (Array.size (World.heap w36)) 0 none) 0) (Value.string s37)) (fun w44 =>
                          ((∃ v45 : Value, (World.cell? w44 (Addr.add (Addr.mk (Array.size (World.heap w36)) 0 none) 1) = some v45)) ∧ ((World.frozen? w44 (Addr.add (Addr.mk (Array.size (World.heap w36)) 0 none) 1) = false) ∧ (atW (World.setCell w44 (Addr.add (Addr.mk (Array.size (World.heap w36)) 0 none) 1) (Value.slice p38 n39 n40)) (fun w46 =>
                            (∃ x47 : Int, ((World.cell? w46 (Addr.add (Addr.mk (Array.size (World.heap w)) 0 none) 1) = some (Value.int IntKind.i64 x47)) ∧ (∃ s48 : ByteArray, ((World.cell? w46 (Addr.add (Addr.mk (Array.size (World.heap w)) 0 none) 2) = some (Value.string s48)) ∧ (∃ x49 : Int, ((World.cell? w46 (Addr.add (Addr.mk (Array.size (World.heap w)) 0 none) 3) = some (Value.int IntKind.i64 x49)) ∧ (Ca Try.prog (9) (Array.mk [Value.pointer p9, Value.int IntKind.i64 x47, Value.string s48, Value.int IntKind.i64 x49]) (w46) (fun v50 => (fun w51 =>
                              (∃ x52 : Int, ((v50 = Value.int IntKind.i64 x52) ∧ (ifK (x52 != 1)
                                (R (Value.bool false) (w51))
                                (ifK (x17 != 1)
                                  (R (Value.bool false) (w51))
                                  (ifK (b27)
                                    (R (Value.bool false) (w51))
                                    (∃ x53 : Int, ((World.cell? w51 (Addr.add (Addr.mk (Array.size (World.heap w)) 0 none) 1) = some (Value.int IntKind.i64 x53)) ∧ (∃ x54 : Int, ((World.cell? w51 (Addr.add (Addr.mk (Array.size (World.heap w)) 0 none) 4) = some (Value.int IntKind.u64 x54)) ∧ (Ca Try.prog (11) (Array.mk [Value.pointer p9, Value.int IntKind.i64 x53, Value.int IntKind.u64 x54]) (w51) (fun v55 => (fun w56 =>
                                      (∃ x57 : Int, ((v55 = Value.int IntKind.i64 x57) ∧ (ifK (x57 != 1)
                                        (R (Value.bool false) (w56))
                                        (ifK (x33 != 1)
                                          (R (Value.bool false) (w56))
                                          (ifK (b41)
                                            (R (Value.bool false) (w56))
                                            (∃ s58 : ByteArray, ((World.cell? w56 (Addr.add (Addr.mk (Array.size (World.heap w)) 0 none) 2) = some (Value.string s58)) ∧ (Ca Try.prog (23) (Array.mk [Value.pointer p9, Value.string s58]) (w56) (fun v59 => (fun w60 =>
                                              (∃ p61 : Option Addr, (∃ n62 : Nat, (∃ n63 : Nat, ((v59 = Value.slice p61 n62 n63) ∧ (Ca Try.prog (13) (Array.mk [Value.pointer p9]) (w60) (fun v64 => (fun w65 =>
                                                (∃ p66 : Option Addr, (∃ n67 : Nat, (∃ n68 : Nat, ((v64 = Value.slice p66 n67 n68) ∧ (ifK (decide (IntKind.wrap IntKind.i64 ((↑n62 : Int) + (↑n67 : Int)) > 0))
                                                  (R (Value.bool false) (w65))
                                                  ((z2 (IntKind.wrap IntKind.i64 (x5 + 1)) (w65)) ∧ (z3 (IntKind.wrap IntKind.i64 (x5 + 1)) w65 < z3 x5 w6))))))))))))))))))))))))))))))))))))))))))))))))))))))))))))))))))))))))))))))))))))))))))))))))))))))))))))))
        (Ca Try.prog (14) (Array.mk []) (w6) (fun v69 => (fun w70 =>
          (∃ b71 : Bool, ((v69 = Value.bool b71) ∧ (R (Value.bool b71) (w70)))))))))))))))))))
theorem ca6 (a0_ : Int) (a1_ : Int) (a2_ : ByteArray) (a3_ : Int) (a4_ : Int) (w : World) (R : Value → World → Prop) (h : W6 a0_ a1_ a2_ a3_ a4_ w R) : Ca Try.prog 6 ⟨[(.agg ⟨[(.int .i64 a0_), (.int .i64 a1_), (.string a2_), (.int .i64 a3_), (.int .u64 a4_)]⟩)]⟩ w R := by
  have h1 : Try.prog.follows .mixedOrders = true := by kernel_rfl
  have h2 : Try.f6.body = some C6 := by kernel_rfl
  have h3 : (Try.f6.name == "runtime.NumGoroutine") = false := by kernel_rfl
  have h6 : Try.f6.results.toList = [.tmp 2] := by kernel_rfl
  have h4 : Nat.ble 1 94 = true := by kernel_rfl
  have h5 : okCode 94 pl6 ls6 C6 0 = true := by kernel_rfl
  have e : W6 a0_ a1_ a2_ a3_ a4_ w R = wpC none Try.prog 94 pl6 ls6 C6 0 (endP Try.prog [.tmp 2] R) (fr0 [(.agg ⟨[(.int .i64 a0_), (.int .i64 a1_), (.string a2_), (.int .i64 a3_), (.int .u64 a4_)]⟩)]) [] w := by kernel_rfl
  exact ca_of' (P := Try.prog) (g := 6) (fn := Try.f6) (c := C6) (m := 94) (rs := [.tmp 2]) (args := [(.agg ⟨[(.int .i64 a0_), (.int .i64 a1_), (.string a2_), (.int .i64 a3_), (.int .u64 a4_)]⟩)]) (pl := pl6) (ls := ls6) (w := w) (R := R) h1 Try.func6 h2 Try.ntmps6 h6 h3 h4 h5 (Eq.mp e h)

/-- staith/consumer.New -/
noncomputable def C8 : Code := (Try.f8.body).getD .skip
def pl8 : Nat → Plan := fun _ => .done
def ls8 : Nat → List (Nat × LT) := fun _ => []
def W8 (w : World) (R : Value → World → Prop) : Prop :=
  (atW (World.alloc w (Obj.cells (Array.mk [Value.slice none 0 0, Value.bool true]) 59 (0, 0))) (fun w0 =>
    (R (Value.pointer (some (Addr.mk (Array.size (World.heap w)) 0 none))) (w0))))
theorem ca8 (w : World) (R : Value → World → Prop) (h : W8  w R) : Ca Try.prog 8 ⟨[]⟩ w R := by
  have h1 : Try.prog.follows .mixedOrders = true := by kernel_rfl
  have h2 : Try.f8.body = some C8 := by kernel_rfl
  have h3 : (Try.f8.name == "runtime.NumGoroutine") = false := by kernel_rfl
  have h6 : Try.f8.results.toList = [.tmp 0] := by kernel_rfl
  have h4 : Nat.ble 0 3 = true := by kernel_rfl
  have h5 : okCode 3 pl8 ls8 C8 0 = true := by kernel_rfl
  have e : W8  w R = wpC none Try.prog 3 pl8 ls8 C8 0 (endP Try.prog [.tmp 0] R) (fr0 []) [] w := by kernel_rfl
  exact ca_of' (P := Try.prog) (g := 8) (fn := Try.f8) (c := C8) (m := 3) (rs := [.tmp 0]) (args := []) (pl := pl8) (ls := ls8) (w := w) (R := R) h1 Try.func8 h2 Try.ntmps8 h6 h3 h4 h5 (Eq.mp e h)

/-- (*staith/consumer.Desk).Add -/
noncomputable def C9 : Code := (Try.f9.body).getD .skip
def pl9 : Nat → Plan := fun _ => .done
def ls9 : Nat → List (Nat × LT) := fun _ => []
def W9 (d : Option Addr) (client : Int) (queue : ByteArray) (most : Int) (w : World) (R : Value → World → Prop) : Prop :=
  (Ca Try.prog (24) (Array.mk [Value.pointer d]) (w) (fun v0 => (fun w1 =>
    (∃ b2 : Bool, ((v0 = Value.bool b2) ∧ (ifK (!b2)
      (R (Value.int IntKind.i64 1) (w1))
      (ifK (decide (client < 1))
        (R (Value.int IntKind.i64 2) (w1))
        (ifK (decide (client > 1000))
          (R (Value.int IntKind.i64 2) (w1))
          (ifK (decide (most < 1))
            (R (Value.int IntKind.i64 2) (w1))
            (ifK (decide (most > 100))
              (R (Value.int IntKind.i64 2) (w1))
              (Ca Try.prog (25) (Array.mk [Value.string queue]) (w1) (fun v3 => (fun w4 =>
                (∃ b5 : Bool, ((v3 = Value.bool b5) ∧ (ifK (!b5)
                  (R (Value.int IntKind.i64 2) (w4))
                  (Ca Try.prog (26) (Array.mk [Value.pointer d, Value.int IntKind.i64 client]) (w4) (fun v6 => (fun w7 =>
                    (∃ p8 : Option Addr, ((v6 = Value.pointer p8) ∧ (ifK (!Option.isNone p8)
                      (R (Value.int IntKind.i64 4) (w7))
                      (onP (d) (fun a9 =>
                        (∃ p10 : Option Addr, (∃ n11 : Nat, (∃ n12 : Nat, ((World.cell? w7 (Addr.add a9 0) = some (Value.slice p10 n11 n12)) ∧ (ifK (decide ((↑n11 : Int) ≥ 32))
                          (R (Value.int IntKind.i64 5) (w7))
                          (onP (d) (fun a13 =>
                            (∃ p14 : Option Addr, (∃ n15 : Nat, (∃ n16 : Nat, ((World.cell? w7 (Addr.add a13 0) = some (Value.slice p14 n15 n16)) ∧ (atW (World.alloc w7 (Obj.map #[] 0)) (fun w17 =>
                              (atW (World.alloc w17 (Obj.cells (Array.mk [Value.int IntKind.i64 client, Value.string queue, Value.int IntKind.i64 most, Value.map (some (Array.size (World.heap w7)))]) 72 (0, 0))) (fun w18 =>
                                (atW (World.alloc w18 (Obj.cells (Array.mk [Value.pointer (some (Addr.mk (Array.size (World.heap w17)) 0 none))]) 68 (0, 0))) (fun w19 =>
                                  (∃ v20 : Value, (∃ w21 : World, ((Sem.run Try.prog (Builtin.append_ (Array.mk [57, 57]) 57 (Array.mk [Value.slice p14 n15 n16, Value.slice (some (Addr.mk (Array.size (World.heap w18)) 0 none)) 1 1])) w19 = Result.ok v20 w21) ∧ (∃ p22 : Option Addr, (∃ n23 : Nat, (∃ n24 : Nat, ((v20 = Value.slice p22 n23 n24) ∧ (onP (d) (fun a25 =>
                                    ((∃ v26 : Value, (World.cell? w21 (Addr.add (Addr.add a25 0) 0) = some v26)) ∧ ((World.frozen? w21 (Addr.add (Addr.add a25 0) 0) = false) ∧ (atW (World.setCell w21 (Addr.add (Addr.add a25 0) 0) (Value.slice p22 n23 n24)) (fun w27 =>
                                      (R (Value.int IntKind.i64 0) (w27))))))))))))))))))))))))))))))))))))))))))))))))))))))))
theorem ca9 (d : Option Addr) (client : Int) (queue : ByteArray) (most : Int) (w : World) (R : Value → World → Prop) (h : W9 d client queue most w R) : Ca Try.prog 9 ⟨[(.pointer d), (.int .i64 client), (.string queue), (.int .i64 most)]⟩ w R := by
  have h1 : Try.prog.follows .mixedOrders = true := by kernel_rfl
  have h2 : Try.f9.body = some C9 := by kernel_rfl
  have h3 : (Try.f9.name == "runtime.NumGoroutine") = false := by kernel_rfl
  have h6 : Try.f9.results.toList = [.tmp 8] := by kernel_rfl
  have h4 : Nat.ble 4 52 = true := by kernel_rfl
  have h5 : okCode 52 pl9 ls9 C9 0 = true := by kernel_rfl
  have e : W9 d client queue most w R = wpC none Try.prog 52 pl9 ls9 C9 0 (endP Try.prog [.tmp 8] R) (fr0 [(.pointer d), (.int .i64 client), (.string queue), (.int .i64 most)]) [] w := by kernel_rfl
  exact ca_of' (P := Try.prog) (g := 9) (fn := Try.f9) (c := C9) (m := 52) (rs := [.tmp 8]) (args := [(.pointer d), (.int .i64 client), (.string queue), (.int .i64 most)]) (pl := pl9) (ls := ls9) (w := w) (R := R) h1 Try.func9 h2 Try.ntmps9 h6 h3 h4 h5 (Eq.mp e h)

/-- (*staith/consumer.Desk).Next -/
noncomputable def C10 : Code := (Try.f10.body).getD .skip
def pl10 : Nat → Plan := fun _ => .done
def ls10 : Nat → List (Nat × LT) := fun _ => []
def W10 (d : Option Addr) (queue : ByteArray) (w : World) (R : Value → World → Prop) : Prop :=
  (atW (World.alloc w (Obj.cells (Array.mk [Value.string queue]) 9 (0, 0))) (fun w0 =>
    (Ca Try.prog (27) (Array.mk [Value.pointer d, Value.func (Fn.func 28) (Array.mk []) (Array.mk [Value.pointer (some (Addr.mk (Array.size (World.heap w)) 0 none))])]) (w0) (fun v1 => (fun w2 =>
      (∃ p3 : Option Addr, ((v1 = Value.pointer p3) ∧ (ifK (Option.isNone p3)
        (R (Value.tuple (Array.mk [Value.int IntKind.i64 0, Value.bool false])) (w2))
        (onP (p3) (fun a4 =>
          (∃ x5 : Int, ((World.cell? w2 (Addr.add a4 0) = some (Value.int IntKind.i64 x5)) ∧ (R (Value.tuple (Array.mk [Value.int IntKind.i64 x5, Value.bool true])) (w2))))))))))))))
theorem ca10 (d : Option Addr) (queue : ByteArray) (w : World) (R : Value → World → Prop) (h : W10 d queue w R) : Ca Try.prog 10 ⟨[(.pointer d), (.string queue)]⟩ w R := by
  have h1 : Try.prog.follows .mixedOrders = true := by kernel_rfl
  have h2 : Try.f10.body = some C10 := by kernel_rfl
  have h3 : (Try.f10.name == "runtime.NumGoroutine") = false := by kernel_rfl
  have h6 : Try.f10.results.toList = [.tmp 4, .tmp 5] := by kernel_rfl
  have h4 : Nat.ble 2 16 = true := by kernel_rfl
  have h5 : okCode 16 pl10 ls10 C10 0 = true := by kernel_rfl
  have e : W10 d queue w R = wpC none Try.prog 16 pl10 ls10 C10 0 (endP Try.prog [.tmp 4, .tmp 5] R) (fr0 [(.pointer d), (.string queue)]) [] w := by kernel_rfl
  exact ca_of' (P := Try.prog) (g := 10) (fn := Try.f10) (c := C10) (m := 16) (rs := [.tmp 4, .tmp 5]) (args := [(.pointer d), (.string queue)]) (pl := pl10) (ls := ls10) (w := w) (R := R) h1 Try.func10 h2 Try.ntmps10 h6 h3 h4 h5 (Eq.mp e h)

/-- (*staith/consumer.Desk).Took -/
noncomputable def C11 : Code := (Try.f11.body).getD .skip
def pl11 : Nat → Plan
  | 6 => (.quiet 0 (.quiet 1 (.quiet 2 (.quiet 3 (.quiet 5 (.quiet 6 (.quiet 7 (.quiet 8 (.eff 4 [5, 8] (.quiet 9 (.quiet 10 .done)))))))))))
  | 12 => (.quiet 0 (.quiet 1 (.quiet 2 (.quiet 3 (.quiet 4 (.eff 5 [] .done))))))
  | 13 => (.quiet 0 (.quiet 1 (.quiet 2 (.quiet 3 (.quiet 4 (.eff 5 [] (.quiet 6 .done)))))))
  | 14 => (.quiet 0 (.quiet 1 (.quiet 2 (.quiet 3 (.quiet 4 (.quiet 5 (.quiet 6 (.quiet 7 (.quiet 8 (.quiet 9 (.quiet 10 (.quiet 11 (.quiet 12 (.eff 13 [] .done))))))))))))))
  | 15 => (.quiet 0 (.quiet 1 (.quiet 2 (.quiet 3 (.quiet 4 (.quiet 5 (.quiet 6 (.quiet 7 (.quiet 8 (.quiet 9 (.quiet 10 (.quiet 11 (.eff 12 [] .done)))))))))))))
  | _ => .done
def ls11 : Nat → List (Nat × LT) := fun _ => []
def W11 (d : Option Addr) (client : Int) (tag : Int) (w : World) (R : Value → World → Prop) : Prop :=
  (atW (World.alloc w (Obj.cells (Array.mk [Value.int IntKind.u64 tag]) 27 (0, 0))) (fun w0 =>
    (Ca Try.prog (24) (Array.mk [Value.pointer d]) (w0) (fun v1 => (fun w2 =>
      (∃ b3 : Bool, ((v1 = Value.bool b3) ∧ (ifK (!b3)
        (R (Value.int IntKind.i64 1) (w2))
        (Ca Try.prog (26) (Array.mk [Value.pointer d, Value.int IntKind.i64 client]) (w2) (fun v4 => (fun w5 =>
          (∃ p6 : Option Addr, ((v4 = Value.pointer p6) ∧ (atW (World.alloc w5 (Obj.cells (Array.mk [Value.pointer none]) 68 (0, 0))) (fun w7 =>
            ((∃ v8 : Value, (World.cell? w7 (Addr.add (Addr.mk (Array.size (World.heap w5)) 0 none) 0) = some v8)) ∧ ((World.frozen? w7 (Addr.add (Addr.mk (Array.size (World.heap w5)) 0 none) 0) = false) ∧ (atW (World.setCell w7 (Addr.add (Addr.mk (Array.size (World.heap w5)) 0 none) 0) (Value.pointer p6)) (fun w9 =>
              (∃ p10 : Option Addr, ((World.cell? w9 (Addr.mk (Array.size (World.heap w5)) 0 none) = some (Value.pointer p10)) ∧ (ifK (Option.isNone p10)
                (R (Value.int IntKind.i64 3) (w9))
                (atW (World.drew w9) (fun w11 =>
                  (∃ p12 : Option Addr, ((World.cell? w11 (Addr.mk (Array.size (World.heap w5)) 0 none) = some (Value.pointer p12)) ∧ (onP (p12) (fun a13 =>
                    (∃ p14 : Option Nat, ((World.cell? w11 (Addr.add a13 3) = some (Value.map p14)) ∧ (∃ p15 : Option Addr, ((World.cell? w11 (Addr.mk (Array.size (World.heap w5)) 0 none) = some (Value.pointer p15)) ∧ (onP (p15) (fun a16 =>
                      (∃ x17 : Int, ((World.cell? w11 (Addr.add a16 2) = some (Value.int IntKind.i64 x17)) ∧ (lenM (p14) (w11) (fun x18 =>
                        ((World.cell? w11 (Addr.add (Addr.mk (Array.size (World.heap w5)) 0 none) 0) = some (Value.pointer p15)) ∧ ((World.cell? w11 (Addr.add (Addr.add a16 2) 0) = some (Value.int IntKind.i64 x17)) ∧ (ifK (decide (x18 ≥ x17))
                          (R (Value.int IntKind.i64 5) (w11))
                          (Ca Try.prog (27) (Array.mk [Value.pointer d, Value.func (Fn.func 29) (Array.mk []) (Array.mk [Value.pointer (some (Addr.mk (Array.size (World.heap w5)) 0 none)), Value.pointer (some (Addr.mk (Array.size (World.heap w)) 0 none))])]) (w11) (fun v19 => (fun w20 =>
                            (∃ p21 : Option Addr, ((v19 = Value.pointer p21) ∧ (ifK (!Option.isNone p21)
                              (R (Value.int IntKind.i64 4) (w20))
                              (∃ x22 : Int, ((World.cell? w20 (Addr.mk (Array.size (World.heap w)) 0 none) = some (Value.int IntKind.u64 x22)) ∧ (ifK (x22 == 0)
                                (R (Value.int IntKind.i64 2) (w20))
                                (atW (World.drew w20) (fun w23 =>
                                  (∃ p24 : Option Addr, ((World.cell? w23 (Addr.mk (Array.size (World.heap w5)) 0 none) = some (Value.pointer p24)) ∧ (onP (p24) (fun a25 =>
                                    (∃ p26 : Option Nat, ((World.cell? w23 (Addr.add a25 3) = some (Value.map p26)) ∧ (∃ x27 : Int, ((World.cell? w23 (Addr.mk (Array.size (World.heap w)) 0 none) = some (Value.int IntKind.u64 x27)) ∧ (∃ w28 : World, ((Sem.run Try.prog (Instr.mapUpdate 70 (Value.map p26) (Value.int IntKind.u64 x27) (Value.bool true)) w23 = Result.ok () w28) ∧ (atW (World.drew w28) (fun w29 =>
                                      (onP (d) (fun a30 =>
                                        (∃ p31 : Option Addr, (∃ n32 : Nat, (∃ n33 : Nat, ((World.cell? w29 (Addr.add a30 0) = some (Value.slice p31 n32 n33)) ∧ (∃ p34 : Option Addr, ((World.cell? w29 (Addr.mk (Array.size (World.heap w5)) 0 none) = some (Value.pointer p34)) ∧ (Ca Try.prog (30) (Array.mk [Value.slice p31 n32 n33, Value.pointer p34]) (w29) (fun v35 => (fun w36 =>
                                          (∃ x37 : Int, ((v35 = Value.int IntKind.i64 x37) ∧ (atW (World.drew w36) (fun w38 =>
                                            (onP (d) (fun a39 =>
                                              (∃ p40 : Option Addr, (∃ n41 : Nat, (∃ n42 : Nat, ((World.cell? w38 (Addr.add a39 0) = some (Value.slice p40 n41 n42)) ∧ (((0 : Int) ≤ x37) ∧ (((x37 : Int) ≤ (↑n41 : Int)) ∧ ((((↑n41 : Int) : Int) ≤ (↑n42 : Int)) ∧ (onP (d) (fun a43 =>
                                                (∃ p44 : Option Addr, (∃ n45 : Nat, (∃ n46 : Nat, ((World.cell? w38 (Addr.add a43 0) = some (Value.slice p44 n45 n46)) ∧ (((0 : Int) ≤ IntKind.wrap IntKind.i64 (x37 + 1)) ∧ (((IntKind.wrap IntKind.i64 (x37 + 1) : Int) ≤ (↑n45 : Int)) ∧ ((((↑n45 : Int) : Int) ≤ (↑n46 : Int)) ∧ (∃ v47 : Value, (∃ w48 : World, ((Sem.run Try.prog (Builtin.copy_ (Array.mk [57, 57]) 3 (Array.mk [Value.slice (if n42 = Int.toNat x37 then p40 else Option.map (fun x => Addr.add x (Int.toNat x37 * 1)) p40) (Int.toNat (↑n41 : Int) - Int.toNat x37) (n42 - Int.toNat x37), Value.slice (if n46 = Int.toNat (IntKind.wrap IntKind.i64 (x37 + 1)) then p44 else Option.map (fun x => Addr.add x (Int.toNat (IntKind.wrap IntKind.i64 (x37 + 1)) * 1)) p44) (Int.toNat (↑n45 : Int) - Int.toNat (IntKind.wrap IntKind.i64 (x37 + 1))) (n46 - Int.toNat (IntKind.wrap IntKind.i64 (x37 + 1)))])) w38 = Result.ok v47 w48) ∧ (∃ x49 : Int, ((v47 = Value.int IntKind.i64 x49) ∧ (atW (World.drew w48) (fun w50 =>
                                                  (onP (d) (fun a51 =>
                                                    (∃ p52 : Option Addr, (∃ n53 : Nat, (∃ n54 : Nat, ((World.cell? w50 (Addr.add a51 0) = some (Value.slice p52 n53 n54)) ∧ (onP (d) (fun a55 =>
                                                      (∃ p56 : Option Addr, (∃ n57 : Nat, (∃ n58 : Nat, ((World.cell? w50 (Addr.add a55 0) = some (Value.slice p56 n57 n58)) ∧ (∃ p59 : Option Addr, ((World.cell? w50 (Addr.mk (Array.size (World.heap w5)) 0 none) = some (Value.pointer p59)) ∧ (∃ a60 : Addr, ((p52 = some a60) ∧ (((0 : Int) ≤ IntKind.wrap IntKind.i64 ((↑n57 : Int) - 1)) ∧ (((IntKind.wrap IntKind.i64 ((↑n57 : Int) - 1) : Int) < (↑n53 : Int)) ∧ ((∃ v61 : Value, (World.cell? w50 (Addr.add (Addr.add a60 (Int.toNat (IntKind.wrap IntKind.i64 ((↑n57 : Int) - 1)) * 1)) 0) = some v61)) ∧ ((World.frozen? w50 (Addr.add (Addr.add a60 (Int.toNat (IntKind.wrap IntKind.i64 ((↑n57 : Int) - 1)) * 1)) 0) = false) ∧ (atW (World.setCell w50 (Addr.add (Addr.add a60 (Int.toNat (IntKind.wrap IntKind.i64 ((↑n57 : Int) - 1)) * 1)) 0) (Value.pointer p59)) (fun w62 =>
                                                        (R (Value.int IntKind.i64 0) (w62))))))))))))))))))))))))))))))))))))))))))))))))))))))))))))))))))))))))))))))))))))))))))))))))))))))))))))))))))))))))))))))))
theorem ca11 (d : Option Addr) (client : Int) (tag : Int) (w : World) (R : Value → World → Prop) (h : W11 d client tag w R) : Ca Try.prog 11 ⟨[(.pointer d), (.int .i64 client), (.int .u64 tag)]⟩ w R := by
  have h1 : Try.prog.follows .mixedOrders = true := by kernel_rfl
  have h2 : Try.f11.body = some C11 := by kernel_rfl
  have h3 : (Try.f11.name == "runtime.NumGoroutine") = false := by kernel_rfl
  have h6 : Try.f11.results.toList = [.tmp 6] := by kernel_rfl
  have h4 : Nat.ble 3 74 = true := by kernel_rfl
  have h5 : okCode 74 pl11 ls11 C11 0 = true := by kernel_rfl
  have e : W11 d client tag w R = wpC none Try.prog 74 pl11 ls11 C11 0 (endP Try.prog [.tmp 6] R) (fr0 [(.pointer d), (.int .i64 client), (.int .u64 tag)]) [] w := by kernel_rfl
  exact ca_of' (P := Try.prog) (g := 11) (fn := Try.f11) (c := C11) (m := 74) (rs := [.tmp 6]) (args := [(.pointer d), (.int .i64 client), (.int .u64 tag)]) (pl := pl11) (ls := ls11) (w := w) (R := R) h1 Try.func11 h2 Try.ntmps11 h6 h3 h4 h5 (Eq.mp e h)

/-- (*staith/consumer.Desk).Drop -/
noncomputable def C12 : Code := (Try.f12.body).getD .skip
def pl12 : Nat → Plan := fun _ => .done
def ls12 : Nat → List (Nat × LT) := fun _ => []
def W12 (d : Option Addr) (client : Int) (w : World) (R : Value → World → Prop) : Prop :=
  (atW (World.alloc w (Obj.cells (Array.mk [Value.string (ByteArray.mk #[]), Value.slice none 0 0]) 33 (0, 0))) (fun w0 =>
    (Ca Try.prog (24) (Array.mk [Value.pointer d]) (w0) (fun v1 => (fun w2 =>
      (∃ b3 : Bool, ((v1 = Value.bool b3) ∧ (ifK (!b3)
        ((∃ v4 : Value, (World.cell? w2 (Addr.add (Addr.mk (Array.size (World.heap w)) 0 none) 0) = some v4)) ∧ ((World.frozen? w2 (Addr.add (Addr.mk (Array.size (World.heap w)) 0 none) 0) = false) ∧ (atW (World.setCell w2 (Addr.add (Addr.mk (Array.size (World.heap w)) 0 none) 0) (Value.string (ByteArray.mk #[]))) (fun w5 =>
          ((∃ v6 : Value, (World.cell? w5 (Addr.add (Addr.mk (Array.size (World.heap w)) 0 none) 1) = some v6)) ∧ ((World.frozen? w5 (Addr.add (Addr.mk (Array.size (World.heap w)) 0 none) 1) = false) ∧ (atW (World.setCell w5 (Addr.add (Addr.mk (Array.size (World.heap w)) 0 none) 1) (Value.slice none 0 0)) (fun w7 =>
            (∃ s8 : ByteArray, ((World.cell? w7 (Addr.add (Addr.mk (Array.size (World.heap w)) 0 none) 0) = some (Value.string s8)) ∧ (∃ p9 : Option Addr, (∃ n10 : Nat, (∃ n11 : Nat, ((World.cell? w7 (Addr.add (Addr.mk (Array.size (World.heap w)) 0 none) 1) = some (Value.slice p9 n10 n11)) ∧ (R (Value.tuple (Array.mk [Value.agg (Array.mk (List.reverse [Value.slice p9 n10 n11, Value.string s8])), Value.int IntKind.i64 1])) (w7))))))))))))))))
        (Ca Try.prog (26) (Array.mk [Value.pointer d, Value.int IntKind.i64 client]) (w2) (fun v12 => (fun w13 =>
          (∃ p14 : Option Addr, ((v12 = Value.pointer p14) ∧ (atW (World.alloc w13 (Obj.cells (Array.mk [Value.pointer none]) 68 (0, 0))) (fun w15 =>
            ((∃ v16 : Value, (World.cell? w15 (Addr.add (Addr.mk (Array.size (World.heap w13)) 0 none) 0) = some v16)) ∧ ((World.frozen? w15 (Addr.add (Addr.mk (Array.size (World.heap w13)) 0 none) 0) = false) ∧ (atW (World.setCell w15 (Addr.add (Addr.mk (Array.size (World.heap w13)) 0 none) 0) (Value.pointer p14)) (fun w17 =>
              (∃ p18 : Option Addr, ((World.cell? w17 (Addr.mk (Array.size (World.heap w13)) 0 none) = some (Value.pointer p18)) ∧ (ifK (Option.isNone p18)
                ((∃ v19 : Value, (World.cell? w17 (Addr.add (Addr.mk (Array.size (World.heap w)) 0 none) 0) = some v19)) ∧ ((World.frozen? w17 (Addr.add (Addr.mk (Array.size (World.heap w)) 0 none) 0) = false) ∧ (atW (World.setCell w17 (Addr.add (Addr.mk (Array.size (World.heap w)) 0 none) 0) (Value.string (ByteArray.mk #[]))) (fun w20 =>
                  ((∃ v21 : Value, (World.cell? w20 (Addr.add (Addr.mk (Array.size (World.heap w)) 0 none) 1) = some v21)) ∧ ((World.frozen? w20 (Addr.add (Addr.mk (Array.size (World.heap w)) 0 none) 1) = false) ∧ (atW (World.setCell w20 (Addr.add (Addr.mk (Array.size (World.heap w)) 0 none) 1) (Value.slice none 0 0)) (fun w22 =>
                    (∃ s23 : ByteArray, ((World.cell? w22 (Addr.add (Addr.mk (Array.size (World.heap w)) 0 none) 0) = some (Value.string s23)) ∧ (∃ p24 : Option Addr, (∃ n25 : Nat, (∃ n26 : Nat, ((World.cell? w22 (Addr.add (Addr.mk (Array.size (World.heap w)) 0 none) 1) = some (Value.slice p24 n25 n26)) ∧ (R (Value.tuple (Array.mk [Value.agg (Array.mk (List.reverse [Value.slice p24 n25 n26, Value.string s23])), Value.int IntKind.i64 3])) (w22))))))))))))))))
                (onP (d) (fun a27 =>
                  (∃ p28 : Option Addr, (∃ n29 : Nat, (∃ n30 : Nat, ((World.cell? w17 (Addr.add a27 0) = some (Value.slice p28 n29 n30)) ∧ (Ca Try.prog (31) (Array.mk [Value.slice p28 n29 n30, Value.func (Fn.func 32) (Array.mk []) (Array.mk [Value.pointer (some (Addr.mk (Array.size (World.heap w13)) 0 none))])]) (w17) (fun v31 => (fun w32 =>
                    (∃ p33 : Option Addr, (∃ n34 : Nat, (∃ n35 : Nat, ((v31 = Value.slice p33 n34 n35) ∧ (onP (d) (fun a36 =>
                      ((∃ v37 : Value, (World.cell? w32 (Addr.add (Addr.add a36 0) 0) = some v37)) ∧ ((World.frozen? w32 (Addr.add (Addr.add a36 0) 0) = false) ∧ (atW (World.setCell w32 (Addr.add (Addr.add a36 0) 0) (Value.slice p33 n34 n35)) (fun w38 =>
                        (∃ p39 : Option Addr, ((World.cell? w38 (Addr.mk (Array.size (World.heap w13)) 0 none) = some (Value.pointer p39)) ∧ (Ca Try.prog (33) (Array.mk [Value.pointer p39]) (w38) (fun v40 => (fun w41 =>
                          (∃ s42 : ByteArray, (∃ p43 : Option Addr, (∃ n44 : Nat, (∃ n45 : Nat, ((v40 = Value.agg (Array.mk (List.reverse [Value.slice p43 n44 n45, Value.string s42]))) ∧ ((∃ v46 : Value, (World.cell? w41 (Addr.add (Addr.mk (Array.size (World.heap w)) 0 none) 0) = some v46)) ∧ ((World.frozen? w41 (Addr.add (Addr.mk (Array.size (World.heap w)) 0 none) 0) = false) ∧ (atW (World.setCell w41 (Addr.add (Addr.mk (Array.size (World.heap w)) 0 none) 0) (Value.string s42)) (fun w47 =>
                            ((∃ v48 : Value, (World.cell? w47 (Addr.add (Addr.mk (Array.size (World.heap w)) 0 none) 1) = some v48)) ∧ ((World.frozen? w47 (Addr.add (Addr.mk (Array.size (World.heap w)) 0 none) 1) = false) ∧ (atW (World.setCell w47 (Addr.add (Addr.mk (Array.size (World.heap w)) 0 none) 1) (Value.slice p43 n44 n45)) (fun w49 =>
                              (∃ s50 : ByteArray, ((World.cell? w49 (Addr.add (Addr.mk (Array.size (World.heap w)) 0 none) 0) = some (Value.string s50)) ∧ (∃ p51 : Option Addr, (∃ n52 : Nat, (∃ n53 : Nat, ((World.cell? w49 (Addr.add (Addr.mk (Array.size (World.heap w)) 0 none) 1) = some (Value.slice p51 n52 n53)) ∧ (R (Value.tuple (Array.mk [Value.agg (Array.mk (List.reverse [Value.slice p51 n52 n53, Value.string s50])), Value.int IntKind.i64 0])) (w49)))))))))))))))))))))))))))))))))))))))))))))))))))))))))))))))))))
theorem ca12 (d : Option Addr) (client : Int) (w : World) (R : Value → World → Prop) (h : W12 d client w R) : Ca Try.prog 12 ⟨[(.pointer d), (.int .i64 client)]⟩ w R := by
  have h1 : Try.prog.follows .mixedOrders = true := by kernel_rfl
  have h2 : Try.f12.body = some C12 := by kernel_rfl
  have h3 : (Try.f12.name == "runtime.NumGoroutine") = false := by kernel_rfl
  have h6 : Try.f12.results.toList = [.cell 4 33, .tmp 5] := by kernel_rfl
  have h4 : Nat.ble 2 28 = true := by kernel_rfl
  have h5 : okCode 28 pl12 ls12 C12 0 = true := by kernel_rfl
  have e : W12 d client w R = wpC none Try.prog 28 pl12 ls12 C12 0 (endP Try.prog [.cell 4 33, .tmp 5] R) (fr0 [(.pointer d), (.int .i64 client)]) [] w := by kernel_rfl
  exact ca_of' (P := Try.prog) (g := 12) (fn := Try.f12) (c := C12) (m := 28) (rs := [.cell 4 33, .tmp 5]) (args := [(.pointer d), (.int .i64 client)]) (pl := pl12) (ls := ls12) (w := w) (R := R) h1 Try.func12 h2 Try.ntmps12 h6 h3 h4 h5 (Eq.mp e h)

/-- (*staith/consumer.Desk).Clients -/
noncomputable def C13 : Code := (Try.f13.body).getD .skip
def pl13 : Nat → Plan := fun _ => .done
def ls13 : Nat → List (Nat × LT)
  | 7 => [(3, (.one .slice)), (14, (.one (.int .i64)))]
  | _ => []
def W13 (d : Option Addr) (w : World) (R : Value → World → Prop) : Prop :=
  (Ca Try.prog (24) (Array.mk [Value.pointer d]) (w) (fun v0 => (fun w1 =>
    (∃ b2 : Bool, ((v0 = Value.bool b2) ∧ (ifK (!b2)
      (R (Value.slice none 0 0) (w1))
      (onP (d) (fun a3 =>
        (∃ p4 : Option Addr, (∃ n5 : Nat, (∃ n6 : Nat, ((World.cell? w1 (Addr.add a3 0) = some (Value.slice p4 n5 n6)) ∧ (∃ z7 : Option Addr → Nat → Nat → Int → World → Prop, (∃ z8 : Option Addr → Nat → Nat → Int → World → Nat, ((z7 (none) (0) (0) (0) (w1)) ∧ (∀ (_ : Nat → Value), (∀ (p10 : Option Addr), (∀ (n11 : Nat), (∀ (n12 : Nat), (∀ (x13 : Int), (∀ (w14 : World), ((z7 (p10) (n11) (n12) (x13) (w14)) → (ifK (decide (x13 < (↑n5 : Int)))
          (∃ a15 : Addr, ((p4 = some a15) ∧ (((0 : Int) ≤ x13) ∧ (((x13 : Int) < (↑n5 : Int)) ∧ (∃ p16 : Option Addr, ((World.cell? w14 (Addr.add a15 (Int.toNat x13 * 1)) = some (Value.pointer p16)) ∧ (onP (p16) (fun a17 =>
            (∃ x18 : Int, ((World.cell? w14 (Addr.add a17 0) = some (Value.int IntKind.i64 x18)) ∧ (atW (World.alloc w14 (Obj.cells (Array.mk [Value.int IntKind.i64 x18]) 3 (0, 0))) (fun w19 =>
              (∃ v20 : Value, (∃ w21 : World, ((Sem.run Try.prog (Builtin.append_ (Array.mk [36, 36]) 36 (Array.mk [Value.slice p10 n11 n12, Value.slice (some (Addr.mk (Array.size (World.heap w14)) 0 none)) 1 1])) w19 = Result.ok v20 w21) ∧ (∃ p22 : Option Addr, (∃ n23 : Nat, (∃ n24 : Nat, ((v20 = Value.slice p22 n23 n24) ∧ ((z7 (p22) (n23) (n24) (IntKind.wrap IntKind.i64 (x13 + 1)) (w21)) ∧ (z8 p22 n23 n24 (IntKind.wrap IntKind.i64 (x13 + 1)) w21 < z8 p10 n11 n12 x13 w14)))))))))))))))))))))
          (Ca Try.prog (34) (Array.mk [Value.slice p10 n11 n12]) (w14) (fun v25 => (fun w26 =>
            ((v25 = Value.tuple (Array.mk (List.reverse []))) ∧ (R (Value.slice p10 n11 n12) (w26)))))))))))))))))))))))))))))
theorem ca13 (d : Option Addr) (w : World) (R : Value → World → Prop) (h : W13 d w R) : Ca Try.prog 13 ⟨[(.pointer d)]⟩ w R := by
  have h1 : Try.prog.follows .mixedOrders = true := by kernel_rfl
  have h2 : Try.f13.body = some C13 := by kernel_rfl
  have h3 : (Try.f13.name == "runtime.NumGoroutine") = false := by kernel_rfl
  have h6 : Try.f13.results.toList = [.tmp 2] := by kernel_rfl
  have h4 : Nat.ble 1 29 = true := by kernel_rfl
  have h5 : okCode 29 pl13 ls13 C13 0 = true := by kernel_rfl
  have e : W13 d w R = wpC none Try.prog 29 pl13 ls13 C13 0 (endP Try.prog [.tmp 2] R) (fr0 [(.pointer d)]) [] w := by kernel_rfl
  exact ca_of' (P := Try.prog) (g := 13) (fn := Try.f13) (c := C13) (m := 29) (rs := [.tmp 2]) (args := [(.pointer d)]) (pl := pl13) (ls := ls13) (w := w) (R := R) h1 Try.func13 h2 Try.ntmps13 h6 h3 h4 h5 (Eq.mp e h)

/-- staith/staithlaw17.lives -/
noncomputable def C14 : Code := (Try.f14.body).getD .skip
def pl14 : Nat → Plan := fun _ => .done
def ls14 : Nat → List (Nat × LT) := fun _ => []
def W14 (w : World) (R : Value → World → Prop) : Prop :=
  (Ca Try.prog (8) (Array.mk []) (w) (fun v0 => (fun w1 =>
    (∃ p2 : Option Addr, ((v0 = Value.pointer p2) ∧ (Ca Try.prog (9) (Array.mk [Value.pointer p2, Value.int IntKind.i64 1, Value.string (ByteArray.mk #[113]), Value.int IntKind.i64 1]) (w1) (fun v3 => (fun w4 =>
      (∃ x5 : Int, ((v3 = Value.int IntKind.i64 x5) ∧ (ifK (x5 != 0)
        (R (Value.bool false) (w4))
        (Ca Try.prog (9) (Array.mk [Value.pointer p2, Value.int IntKind.i64 2, Value.string (ByteArray.mk #[113]), Value.int IntKind.i64 1]) (w4) (fun v6 => (fun w7 =>
          (∃ x8 : Int, ((v6 = Value.int IntKind.i64 x8) ∧ (ifK (x8 != 0)
            (R (Value.bool false) (w7))
            (Ca Try.prog (10) (Array.mk [Value.pointer p2, Value.string (ByteArray.mk #[113])]) (w7) (fun v9 => (fun w10 =>
              (∃ x11 : Int, (∃ b12 : Bool, ((v9 = Value.tuple (Array.mk (List.reverse [Value.bool b12, Value.int IntKind.i64 x11]))) ∧ (Ca Try.prog (11) (Array.mk [Value.pointer p2, Value.int IntKind.i64 1, Value.int IntKind.u64 5]) (w10) (fun v13 => (fun w14 =>
                (∃ x15 : Int, ((v13 = Value.int IntKind.i64 x15) ∧ (Ca Try.prog (10) (Array.mk [Value.pointer p2, Value.string (ByteArray.mk #[113])]) (w14) (fun v16 => (fun w17 =>
                  (∃ x18 : Int, (∃ b19 : Bool, ((v16 = Value.tuple (Array.mk (List.reverse [Value.bool b19, Value.int IntKind.i64 x18]))) ∧ (Ca Try.prog (22) (Array.mk [Value.pointer p2, Value.int IntKind.i64 1, Value.int IntKind.u64 5]) (w17) (fun v20 => (fun w21 =>
                    (∃ s22 : ByteArray, (∃ x23 : Int, ((v20 = Value.tuple (Array.mk (List.reverse [Value.int IntKind.i64 x23, Value.string s22]))) ∧ (ifK (x11 == 1)
                      (ifK (x15 == 0)
                        (ifK (x18 == 2)
                          (ifK (ByteArray.toList s22 == ByteArray.toList (ByteArray.mk #[113]))
                            (R (Value.bool (x23 == 0)) (w21))
                            (R (Value.bool false) (w21)))
                          (R (Value.bool false) (w21)))
                        (R (Value.bool false) (w21)))
                      (R (Value.bool false) (w21)))))))))))))))))))))))))))))))))))))))))))
theorem ca14 (w : World) (R : Value → World → Prop) (h : W14  w R) : Ca Try.prog 14 ⟨[]⟩ w R := by
  have h1 : Try.prog.follows .mixedOrders = true := by kernel_rfl
  have h2 : Try.f14.body = some C14 := by kernel_rfl
  have h3 : (Try.f14.name == "runtime.NumGoroutine") = false := by kernel_rfl
  have h6 : Try.f14.results.toList = [.tmp 0] := by kernel_rfl
  have h4 : Nat.ble 0 53 = true := by kernel_rfl
  have h5 : okCode 53 pl14 ls14 C14 0 = true := by kernel_rfl
  have e : W14  w R = wpC none Try.prog 53 pl14 ls14 C14 0 (endP Try.prog [.tmp 0] R) (fr0 []) [] w := by kernel_rfl
  exact ca_of' (P := Try.prog) (g := 14) (fn := Try.f14) (c := C14) (m := 53) (rs := [.tmp 0]) (args := []) (pl := pl14) (ls := ls14) (w := w) (R := R) h1 Try.func14 h2 Try.ntmps14 h6 h3 h4 h5 (Eq.mp e h)

/-- (*staith/consumer.Desk).Hold -/
noncomputable def C19 : Code := (Try.f19.body).getD .skip
def pl19 : Nat → Plan := fun _ => .done
def ls19 : Nat → List (Nat × LT) := fun _ => []
def W19 (d : Option Addr) (client : Int) (w : World) (R : Value → World → Prop) : Prop :=
  (atW (World.alloc w (Obj.cells (Array.mk [Value.string (ByteArray.mk #[]), Value.slice none 0 0]) 33 (0, 0))) (fun w0 =>
    (Ca Try.prog (26) (Array.mk [Value.pointer d, Value.int IntKind.i64 client]) (w0) (fun v1 => (fun w2 =>
      (∃ p3 : Option Addr, ((v1 = Value.pointer p3) ∧ (ifK (Option.isNone p3)
        ((∃ v4 : Value, (World.cell? w2 (Addr.add (Addr.mk (Array.size (World.heap w)) 0 none) 0) = some v4)) ∧ ((World.frozen? w2 (Addr.add (Addr.mk (Array.size (World.heap w)) 0 none) 0) = false) ∧ (atW (World.setCell w2 (Addr.add (Addr.mk (Array.size (World.heap w)) 0 none) 0) (Value.string (ByteArray.mk #[]))) (fun w5 =>
          ((∃ v6 : Value, (World.cell? w5 (Addr.add (Addr.mk (Array.size (World.heap w)) 0 none) 1) = some v6)) ∧ ((World.frozen? w5 (Addr.add (Addr.mk (Array.size (World.heap w)) 0 none) 1) = false) ∧ (atW (World.setCell w5 (Addr.add (Addr.mk (Array.size (World.heap w)) 0 none) 1) (Value.slice none 0 0)) (fun w7 =>
            (∃ s8 : ByteArray, ((World.cell? w7 (Addr.add (Addr.mk (Array.size (World.heap w)) 0 none) 0) = some (Value.string s8)) ∧ (∃ p9 : Option Addr, (∃ n10 : Nat, (∃ n11 : Nat, ((World.cell? w7 (Addr.add (Addr.mk (Array.size (World.heap w)) 0 none) 1) = some (Value.slice p9 n10 n11)) ∧ (R (Value.tuple (Array.mk [Value.agg (Array.mk (List.reverse [Value.slice p9 n10 n11, Value.string s8])), Value.bool false])) (w7))))))))))))))))
        (Ca Try.prog (33) (Array.mk [Value.pointer p3]) (w2) (fun v12 => (fun w13 =>
          (∃ s14 : ByteArray, (∃ p15 : Option Addr, (∃ n16 : Nat, (∃ n17 : Nat, ((v12 = Value.agg (Array.mk (List.reverse [Value.slice p15 n16 n17, Value.string s14]))) ∧ ((∃ v18 : Value, (World.cell? w13 (Addr.add (Addr.mk (Array.size (World.heap w)) 0 none) 0) = some v18)) ∧ ((World.frozen? w13 (Addr.add (Addr.mk (Array.size (World.heap w)) 0 none) 0) = false) ∧ (atW (World.setCell w13 (Addr.add (Addr.mk (Array.size (World.heap w)) 0 none) 0) (Value.string s14)) (fun w19 =>
            ((∃ v20 : Value, (World.cell? w19 (Addr.add (Addr.mk (Array.size (World.heap w)) 0 none) 1) = some v20)) ∧ ((World.frozen? w19 (Addr.add (Addr.mk (Array.size (World.heap w)) 0 none) 1) = false) ∧ (atW (World.setCell w19 (Addr.add (Addr.mk (Array.size (World.heap w)) 0 none) 1) (Value.slice p15 n16 n17)) (fun w21 =>
              (∃ s22 : ByteArray, ((World.cell? w21 (Addr.add (Addr.mk (Array.size (World.heap w)) 0 none) 0) = some (Value.string s22)) ∧ (∃ p23 : Option Addr, (∃ n24 : Nat, (∃ n25 : Nat, ((World.cell? w21 (Addr.add (Addr.mk (Array.size (World.heap w)) 0 none) 1) = some (Value.slice p23 n24 n25)) ∧ (R (Value.tuple (Array.mk [Value.agg (Array.mk (List.reverse [Value.slice p23 n24 n25, Value.string s22])), Value.bool true])) (w21))))))))))))))))))))))))))))))))
theorem ca19 (d : Option Addr) (client : Int) (w : World) (R : Value → World → Prop) (h : W19 d client w R) : Ca Try.prog 19 ⟨[(.pointer d), (.int .i64 client)]⟩ w R := by
  have h1 : Try.prog.follows .mixedOrders = true := by kernel_rfl
  have h2 : Try.f19.body = some C19 := by kernel_rfl
  have h3 : (Try.f19.name == "runtime.NumGoroutine") = false := by kernel_rfl
  have h6 : Try.f19.results.toList = [.cell 4 33, .tmp 5] := by kernel_rfl
  have h4 : Nat.ble 2 15 = true := by kernel_rfl
  have h5 : okCode 15 pl19 ls19 C19 0 = true := by kernel_rfl
  have e : W19 d client w R = wpC none Try.prog 15 pl19 ls19 C19 0 (endP Try.prog [.cell 4 33, .tmp 5] R) (fr0 [(.pointer d), (.int .i64 client)]) [] w := by kernel_rfl
  exact ca_of' (P := Try.prog) (g := 19) (fn := Try.f19) (c := C19) (m := 15) (rs := [.cell 4 33, .tmp 5]) (args := [(.pointer d), (.int .i64 client)]) (pl := pl19) (ls := ls19) (w := w) (R := R) h1 Try.func19 h2 Try.ntmps19 h6 h3 h4 h5 (Eq.mp e h)

/-- (*staith/consumer.Desk).Settle -/
noncomputable def C22 : Code := (Try.f22.body).getD .skip
def pl22 : Nat → Plan := fun _ => .done
def ls22 : Nat → List (Nat × LT) := fun _ => []
def W22 (d : Option Addr) (client : Int) (tag : Int) (w : World) (R : Value → World → Prop) : Prop :=
  (Ca Try.prog (24) (Array.mk [Value.pointer d]) (w) (fun v0 => (fun w1 =>
    (∃ b2 : Bool, ((v0 = Value.bool b2) ∧ (ifK (!b2)
      (R (Value.tuple (Array.mk [Value.string (ByteArray.mk #[]), Value.int IntKind.i64 1])) (w1))
      (Ca Try.prog (26) (Array.mk [Value.pointer d, Value.int IntKind.i64 client]) (w1) (fun v3 => (fun w4 =>
        (∃ p5 : Option Addr, ((v3 = Value.pointer p5) ∧ (ifK (Option.isNone p5)
          (R (Value.tuple (Array.mk [Value.string (ByteArray.mk #[]), Value.int IntKind.i64 3])) (w4))
          (onP (p5) (fun a6 =>
            (∃ p7 : Option Nat, ((World.cell? w4 (Addr.add a6 3) = some (Value.map p7)) ∧ (∃ v8 : Value, (∃ w9 : World, ((Sem.run Try.prog (Instr.lookup 70 (Value.map p7) (Value.int IntKind.u64 tag) false) w4 = Result.ok v8 w9) ∧ (∃ b10 : Bool, ((v8 = Value.bool b10) ∧ (ifK (!b10)
              (R (Value.tuple (Array.mk [Value.string (ByteArray.mk #[]), Value.int IntKind.i64 10])) (w9))
              (onP (p5) (fun a11 =>
                (∃ p12 : Option Nat, ((World.cell? w9 (Addr.add a11 3) = some (Value.map p12)) ∧ (∃ v13 : Value, (∃ w14 : World, ((Sem.run Try.prog (Builtin.delete_ (Array.mk [70, 27]) 0 (Array.mk [Value.map p12, Value.int IntKind.u64 tag])) w9 = Result.ok v13 w14) ∧ ((v13 = Value.tuple (Array.mk (List.reverse []))) ∧ (onP (p5) (fun a15 =>
                  (∃ s16 : ByteArray, ((World.cell? w14 (Addr.add a15 1) = some (Value.string s16)) ∧ (R (Value.tuple (Array.mk [Value.string s16, Value.int IntKind.i64 0])) (w14))))))))))))))))))))))))))))))))))))
theorem ca22 (d : Option Addr) (client : Int) (tag : Int) (w : World) (R : Value → World → Prop) (h : W22 d client tag w R) : Ca Try.prog 22 ⟨[(.pointer d), (.int .i64 client), (.int .u64 tag)]⟩ w R := by
  have h1 : Try.prog.follows .mixedOrders = true := by kernel_rfl
  have h2 : Try.f22.body = some C22 := by kernel_rfl
  have h3 : (Try.f22.name == "runtime.NumGoroutine") = false := by kernel_rfl
  have h6 : Try.f22.results.toList = [.tmp 6, .tmp 7] := by kernel_rfl
  have h4 : Nat.ble 3 35 = true := by kernel_rfl
  have h5 : okCode 35 pl22 ls22 C22 0 = true := by kernel_rfl
  have e : W22 d client tag w R = wpC none Try.prog 35 pl22 ls22 C22 0 (endP Try.prog [.tmp 6, .tmp 7] R) (fr0 [(.pointer d), (.int .i64 client), (.int .u64 tag)]) [] w := by kernel_rfl
  exact ca_of' (P := Try.prog) (g := 22) (fn := Try.f22) (c := C22) (m := 35) (rs := [.tmp 6, .tmp 7]) (args := [(.pointer d), (.int .i64 client), (.int .u64 tag)]) (pl := pl22) (ls := ls22) (w := w) (R := R) h1 Try.func22 h2 Try.ntmps22 h6 h3 h4 h5 (Eq.mp e h)

/-- (*staith/consumer.Desk).Forget -/
noncomputable def C23 : Code := (Try.f23.body).getD .skip
def pl23 : Nat → Plan := fun _ => .done
def ls23 : Nat → List (Nat × LT)
  | 4 => [(5, (.one .slice)), (11, (.one (.int .i64)))]
  | _ => []
def W23 (d : Option Addr) (queue : ByteArray) (w : World) (R : Value → World → Prop) : Prop :=
  (Ca Try.prog (13) (Array.mk [Value.pointer d]) (w) (fun v0 => (fun w1 =>
    (∃ p2 : Option Addr, (∃ n3 : Nat, (∃ n4 : Nat, ((v0 = Value.slice p2 n3 n4) ∧ (∃ z5 : Option Addr → Nat → Nat → Int → World → Prop, (∃ z6 : Option Addr → Nat → Nat → Int → World → Nat, ((z5 (none) (0) (0) (0) (w1)) ∧ (∀ (_ : Nat → Value), (∀ (p8 : Option Addr), (∀ (n9 : Nat), (∀ (n10 : Nat), (∀ (x11 : Int), (∀ (w12 : World), ((z5 (p8) (n9) (n10) (x11) (w12)) → (ifK (decide (x11 < (↑n3 : Int)))
      (∃ a13 : Addr, ((p2 = some a13) ∧ (((0 : Int) ≤ x11) ∧ (((x11 : Int) < (↑n3 : Int)) ∧ (∃ x14 : Int, ((World.cell? w12 (Addr.add a13 (Int.toNat x11 * 1)) = some (Value.int IntKind.i64 x14)) ∧ (Ca Try.prog (26) (Array.mk [Value.pointer d, Value.int IntKind.i64 x14]) (w12) (fun v15 => (fun w16 =>
        (∃ p17 : Option Addr, ((v15 = Value.pointer p17) ∧ (onP (p17) (fun a18 =>
          (∃ s19 : ByteArray, ((World.cell? w16 (Addr.add a18 1) = some (Value.string s19)) ∧ (ifK (ByteArray.toList s19 == ByteArray.toList queue)
            (Ca Try.prog (12) (Array.mk [Value.pointer d, Value.int IntKind.i64 x14]) (w16) (fun v20 => (fun w21 =>
              (∃ s22 : ByteArray, (∃ p23 : Option Addr, (∃ n24 : Nat, (∃ n25 : Nat, (∃ x26 : Int, ((v20 = Value.tuple (Array.mk (List.reverse [Value.int IntKind.i64 x26, Value.agg (Array.mk (List.reverse [Value.slice p23 n24 n25, Value.string s22]))]))) ∧ (atW (World.alloc w21 (Obj.cells (Array.mk [Value.int IntKind.i64 x14]) 3 (0, 0))) (fun w27 =>
                (∃ v28 : Value, (∃ w29 : World, ((Sem.run Try.prog (Builtin.append_ (Array.mk [36, 36]) 36 (Array.mk [Value.slice p8 n9 n10, Value.slice (some (Addr.mk (Array.size (World.heap w21)) 0 none)) 1 1])) w27 = Result.ok v28 w29) ∧ (∃ p30 : Option Addr, (∃ n31 : Nat, (∃ n32 : Nat, ((v28 = Value.slice p30 n31 n32) ∧ ((z5 (p30) (n31) (n32) (IntKind.wrap IntKind.i64 (x11 + 1)) (w29)) ∧ (z6 p30 n31 n32 (IntKind.wrap IntKind.i64 (x11 + 1)) w29 < z6 p8 n9 n10 x11 w12))))))))))))))))))))
            ((z5 (p8) (n9) (n10) (IntKind.wrap IntKind.i64 (x11 + 1)) (w16)) ∧ (z6 p8 n9 n10 (IntKind.wrap IntKind.i64 (x11 + 1)) w16 < z6 p8 n9 n10 x11 w12))))))))))))))))))
      (R (Value.slice p8 n9 n10) (w12))))))))))))))))))))
theorem ca23 (d : Option Addr) (queue : ByteArray) (w : World) (R : Value → World → Prop) (h : W23 d queue w R) : Ca Try.prog 23 ⟨[(.pointer d), (.string queue)]⟩ w R := by
  have h1 : Try.prog.follows .mixedOrders = true := by kernel_rfl
  have h2 : Try.f23.body = some C23 := by kernel_rfl
  have h3 : (Try.f23.name == "runtime.NumGoroutine") = false := by kernel_rfl
  have h6 : Try.f23.results.toList = [.tmp 4] := by kernel_rfl
  have h4 : Nat.ble 2 32 = true := by kernel_rfl
  have h5 : okCode 32 pl23 ls23 C23 0 = true := by kernel_rfl
  have e : W23 d queue w R = wpC none Try.prog 32 pl23 ls23 C23 0 (endP Try.prog [.tmp 4] R) (fr0 [(.pointer d), (.string queue)]) [] w := by kernel_rfl
  exact ca_of' (P := Try.prog) (g := 23) (fn := Try.f23) (c := C23) (m := 32) (rs := [.tmp 4]) (args := [(.pointer d), (.string queue)]) (pl := pl23) (ls := ls23) (w := w) (R := R) h1 Try.func23 h2 Try.ntmps23 h6 h3 h4 h5 (Eq.mp e h)

/-- (*staith/consumer.Desk).made -/
noncomputable def C24 : Code := (Try.f24.body).getD .skip
def pl24 : Nat → Plan := fun _ => .done
def ls24 : Nat → List (Nat × LT) := fun _ => []
def W24 (d : Option Addr) (w : World) (R : Value → World → Prop) : Prop :=
  (ifK (!Option.isNone d)
    (onP (d) (fun a0 =>
      (∃ b1 : Bool, ((World.cell? w (Addr.add a0 1) = some (Value.bool b1)) ∧ (R (Value.bool b1) (w))))))
    (R (Value.bool false) (w)))
theorem ca24 (d : Option Addr) (w : World) (R : Value → World → Prop) (h : W24 d w R) : Ca Try.prog 24 ⟨[(.pointer d)]⟩ w R := by
  have h1 : Try.prog.follows .mixedOrders = true := by kernel_rfl
  have h2 : Try.f24.body = some C24 := by kernel_rfl
  have h3 : (Try.f24.name == "runtime.NumGoroutine") = false := by kernel_rfl
  have h6 : Try.f24.results.toList = [.tmp 2] := by kernel_rfl
  have h4 : Nat.ble 1 11 = true := by kernel_rfl
  have h5 : okCode 11 pl24 ls24 C24 0 = true := by kernel_rfl
  have e : W24 d w R = wpC none Try.prog 11 pl24 ls24 C24 0 (endP Try.prog [.tmp 2] R) (fr0 [(.pointer d)]) [] w := by kernel_rfl
  exact ca_of' (P := Try.prog) (g := 24) (fn := Try.f24) (c := C24) (m := 11) (rs := [.tmp 2]) (args := [(.pointer d)]) (pl := pl24) (ls := ls24) (w := w) (R := R) h1 Try.func24 h2 Try.ntmps24 h6 h3 h4 h5 (Eq.mp e h)

/-- staith/topic.Name -/
noncomputable def C25 : Code := (Try.f25.body).getD .skip
def pl25 : Nat → Plan := fun _ => .done
def ls25 : Nat → List (Nat × LT) := fun _ => []
def W25 (s : ByteArray) (w : World) (R : Value → World → Prop) : Prop :=
  (ifK (decide ((↑(ByteArray.size s) : Int) ≤ 20))
    (Ca Try.prog (42) (Array.mk [Value.string s]) (w) (fun v0 => (fun w1 =>
      (∃ b2 : Bool, ((v0 = Value.bool b2) ∧ (R (Value.bool b2) (w1)))))))
    (R (Value.bool false) (w)))
theorem ca25 (s : ByteArray) (w : World) (R : Value → World → Prop) (h : W25 s w R) : Ca Try.prog 25 ⟨[(.string s)]⟩ w R := by
  have h1 : Try.prog.follows .mixedOrders = true := by kernel_rfl
  have h2 : Try.f25.body = some C25 := by kernel_rfl
  have h3 : (Try.f25.name == "runtime.NumGoroutine") = false := by kernel_rfl
  have h6 : Try.f25.results.toList = [.tmp 2] := by kernel_rfl
  have h4 : Nat.ble 1 10 = true := by kernel_rfl
  have h5 : okCode 10 pl25 ls25 C25 0 = true := by kernel_rfl
  have e : W25 s w R = wpC none Try.prog 10 pl25 ls25 C25 0 (endP Try.prog [.tmp 2] R) (fr0 [(.string s)]) [] w := by kernel_rfl
  exact ca_of' (P := Try.prog) (g := 25) (fn := Try.f25) (c := C25) (m := 10) (rs := [.tmp 2]) (args := [(.string s)]) (pl := pl25) (ls := ls25) (w := w) (R := R) h1 Try.func25 h2 Try.ntmps25 h6 h3 h4 h5 (Eq.mp e h)

/-- (*staith/consumer.Desk).of -/
noncomputable def C26 : Code := (Try.f26.body).getD .skip
def pl26 : Nat → Plan := fun _ => .done
def ls26 : Nat → List (Nat × LT) := fun _ => []
def W26 (d : Option Addr) (client : Int) (w : World) (R : Value → World → Prop) : Prop :=
  (atW (World.alloc w (Obj.cells (Array.mk [Value.int IntKind.i64 client]) 3 (0, 0))) (fun w0 =>
    (Ca Try.prog (27) (Array.mk [Value.pointer d, Value.func (Fn.func 43) (Array.mk []) (Array.mk [Value.pointer (some (Addr.mk (Array.size (World.heap w)) 0 none))])]) (w0) (fun v1 => (fun w2 =>
      (∃ p3 : Option Addr, ((v1 = Value.pointer p3) ∧ (R (Value.pointer p3) (w2)))))))))
theorem ca26 (d : Option Addr) (client : Int) (w : World) (R : Value → World → Prop) (h : W26 d client w R) : Ca Try.prog 26 ⟨[(.pointer d), (.int .i64 client)]⟩ w R := by
  have h1 : Try.prog.follows .mixedOrders = true := by kernel_rfl
  have h2 : Try.f26.body = some C26 := by kernel_rfl
  have h3 : (Try.f26.name == "runtime.NumGoroutine") = false := by kernel_rfl
  have h6 : Try.f26.results.toList = [.tmp 4] := by kernel_rfl
  have h4 : Nat.ble 2 8 = true := by kernel_rfl
  have h5 : okCode 8 pl26 ls26 C26 0 = true := by kernel_rfl
  have e : W26 d client w R = wpC none Try.prog 8 pl26 ls26 C26 0 (endP Try.prog [.tmp 4] R) (fr0 [(.pointer d), (.int .i64 client)]) [] w := by kernel_rfl
  exact ca_of' (P := Try.prog) (g := 26) (fn := Try.f26) (c := C26) (m := 8) (rs := [.tmp 4]) (args := [(.pointer d), (.int .i64 client)]) (pl := pl26) (ls := ls26) (w := w) (R := R) h1 Try.func26 h2 Try.ntmps26 h6 h3 h4 h5 (Eq.mp e h)

/-- (*staith/consumer.Desk).find -/
noncomputable def C27 : Code := (Try.f27.body).getD .skip
def pl27 : Nat → Plan := fun _ => .done
def ls27 : Nat → List (Nat × LT) := fun _ => []
def W27 (d : Option Addr) (so : Value) (w : World) (R : Value → World → Prop) : Prop :=
  (Ca Try.prog (24) (Array.mk [Value.pointer d]) (w) (fun v0 => (fun w1 =>
    (∃ b2 : Bool, ((v0 = Value.bool b2) ∧ (ifK (!b2)
      (R (Value.pointer none) (w1))
      (onP (d) (fun a3 =>
        (∃ p4 : Option Addr, (∃ n5 : Nat, (∃ n6 : Nat, ((World.cell? w1 (Addr.add a3 0) = some (Value.slice p4 n5 n6)) ∧ (Ca Try.prog (44) (Array.mk [Value.slice p4 n5 n6, so]) (w1) (fun v7 => (fun w8 =>
          (∃ x9 : Int, ((v7 = Value.int IntKind.i64 x9) ∧ (ifK (decide (x9 ≥ 0))
            (onP (d) (fun a10 =>
              (∃ p11 : Option Addr, (∃ n12 : Nat, (∃ n13 : Nat, ((World.cell? w8 (Addr.add a10 0) = some (Value.slice p11 n12 n13)) ∧ (∃ a14 : Addr, ((p11 = some a14) ∧ (((0 : Int) ≤ x9) ∧ (((x9 : Int) < (↑n12 : Int)) ∧ (∃ p15 : Option Addr, ((World.cell? w8 (Addr.add a14 (Int.toNat x9 * 1)) = some (Value.pointer p15)) ∧ (R (Value.pointer p15) (w8))))))))))))))
            (R (Value.pointer none) (w8))))))))))))))))))))
theorem ca27 (d : Option Addr) (so : Value) (w : World) (R : Value → World → Prop) (h : W27 d so w R) : Ca Try.prog 27 ⟨[(.pointer d), so]⟩ w R := by
  have h1 : Try.prog.follows .mixedOrders = true := by kernel_rfl
  have h2 : Try.f27.body = some C27 := by kernel_rfl
  have h3 : (Try.f27.name == "runtime.NumGoroutine") = false := by kernel_rfl
  have h6 : Try.f27.results.toList = [.tmp 4] := by kernel_rfl
  have h4 : Nat.ble 2 24 = true := by kernel_rfl
  have h5 : okCode 24 pl27 ls27 C27 0 = true := by kernel_rfl
  have e : W27 d so w R = wpC none Try.prog 24 pl27 ls27 C27 0 (endP Try.prog [.tmp 4] R) (fr0 [(.pointer d), so]) [] w := by kernel_rfl
  exact ca_of' (P := Try.prog) (g := 27) (fn := Try.f27) (c := C27) (m := 24) (rs := [.tmp 4]) (args := [(.pointer d), so]) (pl := pl27) (ls := ls27) (w := w) (R := R) h1 Try.func27 h2 Try.ntmps27 h6 h3 h4 h5 (Eq.mp e h)

/-- (*staith/consumer.Desk).Next$1 -/
noncomputable def C28 : Code := (Try.f28.body).getD .skip
def pl28 : Nat → Plan
  | 1 => (.quiet 0 (.quiet 1 (.quiet 2 (.quiet 3 (.quiet 4 (.quiet 5 (.quiet 6 (.quiet 7 (.quiet 8 (.quiet 9 (.quiet 10 (.quiet 12 (.quiet 13 (.quiet 14 (.quiet 15 (.eff 11 [15] (.quiet 16 (.quiet 17 (.quiet 18 .done)))))))))))))))))))
  | _ => .done
def ls28 : Nat → List (Nat × LT) := fun _ => []
def W28 (w_ : Option Addr) (c0 : Option Addr) (w : World) (R : Value → World → Prop) : Prop :=
  (atW (World.drew w) (fun w0 =>
    (onP (w_) (fun a1 =>
      (∃ s2 : ByteArray, ((World.cell? w0 (Addr.add a1 1) = some (Value.string s2)) ∧ (onP (c0) (fun a3 =>
        (∃ s4 : ByteArray, ((World.cell? w0 a3 = some (Value.string s4)) ∧ (ifK (ByteArray.toList s2 == ByteArray.toList s4)
          (onP (w_) (fun a5 =>
            (∃ p6 : Option Nat, ((World.cell? w0 (Addr.add a5 3) = some (Value.map p6)) ∧ (onP (w_) (fun a7 =>
              (∃ x8 : Int, ((World.cell? w0 (Addr.add a7 2) = some (Value.int IntKind.i64 x8)) ∧ (lenM (p6) (w0) (fun x9 =>
                ((World.cell? w0 (Addr.add (Addr.add a7 2) 0) = some (Value.int IntKind.i64 x8)) ∧ (R (Value.bool (decide (x9 < x8))) (w0)))))))))))))
          (R (Value.bool false) (w0)))))))))))))
theorem ca28 (w_ : Option Addr) (c0 : Option Addr) (w : World) (R : Value → World → Prop) (h : W28 w_ c0 w R) : Ca Try.prog 28 ⟨[(.pointer w_), (.pointer c0)]⟩ w R := by
  have h1 : Try.prog.follows .mixedOrders = true := by kernel_rfl
  have h2 : Try.f28.body = some C28 := by kernel_rfl
  have h3 : (Try.f28.name == "runtime.NumGoroutine") = false := by kernel_rfl
  have h6 : Try.f28.results.toList = [.tmp 3] := by kernel_rfl
  have h4 : Nat.ble 2 22 = true := by kernel_rfl
  have h5 : okCode 22 pl28 ls28 C28 0 = true := by kernel_rfl
  have e : W28 w_ c0 w R = wpC none Try.prog 22 pl28 ls28 C28 0 (endP Try.prog [.tmp 3] R) (fr0 [(.pointer w_), (.pointer c0)]) [] w := by kernel_rfl
  exact ca_of' (P := Try.prog) (g := 28) (fn := Try.f28) (c := C28) (m := 22) (rs := [.tmp 3]) (args := [(.pointer w_), (.pointer c0)]) (pl := pl28) (ls := ls28) (w := w) (R := R) h1 Try.func28 h2 Try.ntmps28 h6 h3 h4 h5 (Eq.mp e h)

/-- (*staith/consumer.Desk).Took$1 -/
noncomputable def C29 : Code := (Try.f29.body).getD .skip
def pl29 : Nat → Plan
  | 1 => (.quiet 0 (.quiet 1 (.quiet 2 (.quiet 3 (.quiet 4 (.quiet 5 (.quiet 6 (.quiet 7 (.quiet 8 (.quiet 9 (.quiet 10 (.quiet 11 (.quiet 12 (.quiet 13 (.quiet 14 (.eff 15 [] (.quiet 16 (.quiet 17 .done))))))))))))))))))
  | _ => .done
def ls29 : Nat → List (Nat × LT) := fun _ => []
def W29 (x : Option Addr) (c0 : Option Addr) (c1 : Option Addr) (w : World) (R : Value → World → Prop) : Prop :=
  (atW (World.drew w) (fun w0 =>
    (onP (x) (fun a1 =>
      (∃ s2 : ByteArray, ((World.cell? w0 (Addr.add a1 1) = some (Value.string s2)) ∧ (onP (c0) (fun a3 =>
        (∃ p4 : Option Addr, ((World.cell? w0 a3 = some (Value.pointer p4)) ∧ (onP (p4) (fun a5 =>
          (∃ s6 : ByteArray, ((World.cell? w0 (Addr.add a5 1) = some (Value.string s6)) ∧ (ifK (ByteArray.toList s2 == ByteArray.toList s6)
            (onP (x) (fun a7 =>
              (∃ p8 : Option Nat, ((World.cell? w0 (Addr.add a7 3) = some (Value.map p8)) ∧ (onP (c1) (fun a9 =>
                (∃ x10 : Int, ((World.cell? w0 a9 = some (Value.int IntKind.u64 x10)) ∧ (∃ v11 : Value, (∃ w12 : World, ((Sem.run Try.prog (Instr.lookup 70 (Value.map p8) (Value.int IntKind.u64 x10) false) w0 = Result.ok v11 w12) ∧ (∃ b13 : Bool, ((v11 = Value.bool b13) ∧ (R (Value.bool b13) (w12)))))))))))))))
            (R (Value.bool false) (w0)))))))))))))))))
theorem ca29 (x : Option Addr) (c0 : Option Addr) (c1 : Option Addr) (w : World) (R : Value → World → Prop) (h : W29 x c0 c1 w R) : Ca Try.prog 29 ⟨[(.pointer x), (.pointer c0), (.pointer c1)]⟩ w R := by
  have h1 : Try.prog.follows .mixedOrders = true := by kernel_rfl
  have h2 : Try.f29.body = some C29 := by kernel_rfl
  have h3 : (Try.f29.name == "runtime.NumGoroutine") = false := by kernel_rfl
  have h6 : Try.f29.results.toList = [.tmp 4] := by kernel_rfl
  have h4 : Nat.ble 3 22 = true := by kernel_rfl
  have h5 : okCode 22 pl29 ls29 C29 0 = true := by kernel_rfl
  have e : W29 x c0 c1 w R = wpC none Try.prog 22 pl29 ls29 C29 0 (endP Try.prog [.tmp 4] R) (fr0 [(.pointer x), (.pointer c0), (.pointer c1)]) [] w := by kernel_rfl
  exact ca_of' (P := Try.prog) (g := 29) (fn := Try.f29) (c := C29) (m := 22) (rs := [.tmp 4]) (args := [(.pointer x), (.pointer c0), (.pointer c1)]) (pl := pl29) (ls := ls29) (w := w) (R := R) h1 Try.func29 h2 Try.ntmps29 h6 h3 h4 h5 (Eq.mp e h)

/-- slices.Index[[]*staith/consumer.wish,*staith/consumer.wish] -/
noncomputable def C30 : Code := (Try.f30.body).getD .skip
def pl30 : Nat → Plan := fun _ => .done
def ls30 : Nat → List (Nat × LT)
  | 3 => [(8, (.one (.int .i64)))]
  | _ => []
def W30 (sa : Option Addr) (sl : Nat) (_sc : Nat) (v_ : Option Addr) (w : World) (R : Value → World → Prop) : Prop :=
  (∃ z0 : Int → World → Prop, (∃ z1 : Int → World → Nat, ((z0 (0) (w)) ∧ (∀ (_ : Nat → Value), (∀ (x3 : Int), (∀ (w4 : World), ((z0 (x3) (w4)) → (ifK (decide (x3 < (↑sl : Int)))
    (∃ a5 : Addr, ((sa = some a5) ∧ (((0 : Int) ≤ x3) ∧ (((x3 : Int) < (↑sl : Int)) ∧ (∃ p6 : Option Addr, ((World.cell? w4 (Addr.add a5 (Int.toNat x3 * 1)) = some (Value.pointer p6)) ∧ (ptrEq Try.prog 68 (v_) (p6) (w4) (fun b7 => (fun w8 =>
      (ifK (b7)
        (R (Value.int IntKind.i64 x3) (w8))
        ((z0 (IntKind.wrap IntKind.i64 (x3 + 1)) (w8)) ∧ (z1 (IntKind.wrap IntKind.i64 (x3 + 1)) w8 < z1 x3 w4))))))))))))
    (R (Value.int IntKind.i64 (-1)) (w4))))))))))
theorem ca30 (sa : Option Addr) (sl : Nat) (sc : Nat) (v_ : Option Addr) (w : World) (R : Value → World → Prop) (h : W30 sa sl sc v_ w R) : Ca Try.prog 30 ⟨[(.slice sa sl sc), (.pointer v_)]⟩ w R := by
  have h1 : Try.prog.follows .mixedOrders = true := by kernel_rfl
  have h2 : Try.f30.body = some C30 := by kernel_rfl
  have h3 : (Try.f30.name == "runtime.NumGoroutine") = false := by kernel_rfl
  have h6 : Try.f30.results.toList = [.tmp 4] := by kernel_rfl
  have h4 : Nat.ble 2 19 = true := by kernel_rfl
  have h5 : okCode 19 pl30 ls30 C30 0 = true := by kernel_rfl
  have e : W30 sa sl sc v_ w R = wpC none Try.prog 19 pl30 ls30 C30 0 (endP Try.prog [.tmp 4] R) (fr0 [(.slice sa sl sc), (.pointer v_)]) [] w := by kernel_rfl
  exact ca_of' (P := Try.prog) (g := 30) (fn := Try.f30) (c := C30) (m := 19) (rs := [.tmp 4]) (args := [(.slice sa sl sc), (.pointer v_)]) (pl := pl30) (ls := ls30) (w := w) (R := R) h1 Try.func30 h2 Try.ntmps30 h6 h3 h4 h5 (Eq.mp e h)

/-- staith/topic.plain -/
noncomputable def C42 : Code := (Try.f42.body).getD .skip
def pl42 : Nat → Plan := fun _ => .done
def ls42 : Nat → List (Nat × LT)
  | 3 => []
  | _ => []
def W42 (w_ : ByteArray) (w : World) (R : Value → World → Prop) : Prop :=
  (atW (World.alloc w (Obj.stringIter w_ 0)) (fun w0 =>
    (∃ z1 : World → Prop, (∃ z2 : World → Nat, ((z1 (w0)) ∧ (∀ (_ : Nat → Value), (∀ (w4 : World), ((z1 (w4)) → (nxtS (Array.size (World.heap w)) (w4) (fun _ => (fun x6 => (fun w7 =>
      (ifK (decide (x6 ≥ 97))
        (ifK (decide (x6 ≤ 122))
          ((z1 (w7)) ∧ (z2 w7 < z2 w4))
          (ifK (decide (x6 ≥ 48))
            (ifK (decide (x6 ≤ 57))
              ((z1 (w7)) ∧ (z2 w7 < z2 w4))
              (ifK (x6 == 45)
                ((z1 (w7)) ∧ (z2 w7 < z2 w4))
                (ifK (x6 == 95)
                  ((z1 (w7)) ∧ (z2 w7 < z2 w4))
                  (R (Value.bool false) (w7)))))
            (ifK (x6 == 45)
              ((z1 (w7)) ∧ (z2 w7 < z2 w4))
              (ifK (x6 == 95)
                ((z1 (w7)) ∧ (z2 w7 < z2 w4))
                (R (Value.bool false) (w7))))))
        (ifK (decide (x6 ≥ 48))
          (ifK (decide (x6 ≤ 57))
            ((z1 (w7)) ∧ (z2 w7 < z2 w4))
            (ifK (x6 == 45)
              ((z1 (w7)) ∧ (z2 w7 < z2 w4))
              (ifK (x6 == 95)
                ((z1 (w7)) ∧ (z2 w7 < z2 w4))
                (R (Value.bool false) (w7)))))
          (ifK (x6 == 45)
            ((z1 (w7)) ∧ (z2 w7 < z2 w4))
            (ifK (x6 == 95)
              ((z1 (w7)) ∧ (z2 w7 < z2 w4))
              (R (Value.bool false) (w7))))))))) (fun w8 =>
      (R (Value.bool !ByteArray.toList w_ == ByteArray.toList (ByteArray.mk #[])) (w8))))))))))))
theorem ca42 (w_ : ByteArray) (w : World) (R : Value → World → Prop) (h : W42 w_ w R) : Ca Try.prog 42 ⟨[(.string w_)]⟩ w R := by
  have h1 : Try.prog.follows .mixedOrders = true := by kernel_rfl
  have h2 : Try.f42.body = some C42 := by kernel_rfl
  have h3 : (Try.f42.name == "runtime.NumGoroutine") = false := by kernel_rfl
  have h6 : Try.f42.results.toList = [.tmp 2] := by kernel_rfl
  have h4 : Nat.ble 1 29 = true := by kernel_rfl
  have h5 : okCode 29 pl42 ls42 C42 0 = true := by kernel_rfl
  have e : W42 w_ w R = wpC none Try.prog 29 pl42 ls42 C42 0 (endP Try.prog [.tmp 2] R) (fr0 [(.string w_)]) [] w := by kernel_rfl
  exact ca_of' (P := Try.prog) (g := 42) (fn := Try.f42) (c := C42) (m := 29) (rs := [.tmp 2]) (args := [(.string w_)]) (pl := pl42) (ls := ls42) (w := w) (R := R) h1 Try.func42 h2 Try.ntmps42 h6 h3 h4 h5 (Eq.mp e h)

/-- (*staith/consumer.Desk).of$1 -/
noncomputable def C43 : Code := (Try.f43.body).getD .skip
def pl43 : Nat → Plan
  | 1 => (.quiet 0 (.quiet 1 (.quiet 2 (.quiet 3 (.quiet 4 (.quiet 5 (.quiet 6 .done)))))))
  | _ => .done
def ls43 : Nat → List (Nat × LT) := fun _ => []
def W43 (w_ : Option Addr) (c0 : Option Addr) (w : World) (R : Value → World → Prop) : Prop :=
  (atW (World.drew w) (fun w0 =>
    (onP (w_) (fun a1 =>
      (∃ x2 : Int, ((World.cell? w0 (Addr.add a1 0) = some (Value.int IntKind.i64 x2)) ∧ (onP (c0) (fun a3 =>
        (∃ x4 : Int, ((World.cell? w0 a3 = some (Value.int IntKind.i64 x4)) ∧ (R (Value.bool (x2 == x4)) (w0))))))))))))
theorem ca43 (w_ : Option Addr) (c0 : Option Addr) (w : World) (R : Value → World → Prop) (h : W43 w_ c0 w R) : Ca Try.prog 43 ⟨[(.pointer w_), (.pointer c0)]⟩ w R := by
  have h1 : Try.prog.follows .mixedOrders = true := by kernel_rfl
  have h2 : Try.f43.body = some C43 := by kernel_rfl
  have h3 : (Try.f43.name == "runtime.NumGoroutine") = false := by kernel_rfl
  have h6 : Try.f43.results.toList = [.tmp 3] := by kernel_rfl
  have h4 : Nat.ble 2 10 = true := by kernel_rfl
  have h5 : okCode 10 pl43 ls43 C43 0 = true := by kernel_rfl
  have e : W43 w_ c0 w R = wpC none Try.prog 10 pl43 ls43 C43 0 (endP Try.prog [.tmp 3] R) (fr0 [(.pointer w_), (.pointer c0)]) [] w := by kernel_rfl
  exact ca_of' (P := Try.prog) (g := 43) (fn := Try.f43) (c := C43) (m := 10) (rs := [.tmp 3]) (args := [(.pointer w_), (.pointer c0)]) (pl := pl43) (ls := ls43) (w := w) (R := R) h1 Try.func43 h2 Try.ntmps43 h6 h3 h4 h5 (Eq.mp e h)

/-- slices.IndexFunc[[]*staith/consumer.wish,*staith/consumer.wish] -/
noncomputable def C44 : Code := (Try.f44.body).getD .skip
def pl44 : Nat → Plan := fun _ => .done
def ls44 : Nat → List (Nat × LT)
  | 3 => [(8, (.one (.int .i64)))]
  | _ => []
def W44 (sa : Option Addr) (sl : Nat) (_sc : Nat) (f : Value) (w : World) (R : Value → World → Prop) : Prop :=
  (∃ z0 : Int → World → Prop, (∃ z1 : Int → World → Nat, ((z0 (0) (w)) ∧ (∀ (_ : Nat → Value), (∀ (x3 : Int), (∀ (w4 : World), ((z0 (x3) (w4)) → (ifK (decide (x3 < (↑sl : Int)))
    (∃ a5 : Addr, ((sa = some a5) ∧ (((0 : Int) ≤ x3) ∧ (((x3 : Int) < (↑sl : Int)) ∧ (∃ p6 : Option Addr, ((World.cell? w4 (Addr.add a5 (Int.toNat x3 * 1)) = some (Value.pointer p6)) ∧ (CaV Try.prog (f) (Array.mk [Value.pointer p6]) (w4) (fun v7 => (fun w8 =>
      (∃ b9 : Bool, ((v7 = Value.bool b9) ∧ (ifK (b9)
        (R (Value.int IntKind.i64 x3) (w8))
        ((z0 (IntKind.wrap IntKind.i64 (x3 + 1)) (w8)) ∧ (z1 (IntKind.wrap IntKind.i64 (x3 + 1)) w8 < z1 x3 w4))))))))))))))
    (R (Value.int IntKind.i64 (-1)) (w4))))))))))
theorem ca44 (sa : Option Addr) (sl : Nat) (sc : Nat) (f : Value) (w : World) (R : Value → World → Prop) (h : W44 sa sl sc f w R) : Ca Try.prog 44 ⟨[(.slice sa sl sc), f]⟩ w R := by
  have h1 : Try.prog.follows .mixedOrders = true := by kernel_rfl
  have h2 : Try.f44.body = some C44 := by kernel_rfl
  have h3 : (Try.f44.name == "runtime.NumGoroutine") = false := by kernel_rfl
  have h6 : Try.f44.results.toList = [.tmp 4] := by kernel_rfl
  have h4 : Nat.ble 2 19 = true := by kernel_rfl
  have h5 : okCode 19 pl44 ls44 C44 0 = true := by kernel_rfl
  have e : W44 sa sl sc f w R = wpC none Try.prog 19 pl44 ls44 C44 0 (endP Try.prog [.tmp 4] R) (fr0 [(.slice sa sl sc), f]) [] w := by kernel_rfl
  exact ca_of' (P := Try.prog) (g := 44) (fn := Try.f44) (c := C44) (m := 19) (rs := [.tmp 4]) (args := [(.slice sa sl sc), f]) (pl := pl44) (ls := ls44) (w := w) (R := R) h1 Try.func44 h2 Try.ntmps44 h6 h3 h4 h5 (Eq.mp e h)
end Go.Proofs.Ytmnbnjkbbhjocaa

/- Contracts of the program's consumer functions, proved over their formulas. -/
namespace Go.Proofs.Ytmnbnjkbbhjocaa
open Go Go.Proofs.Ytmnbnjkbbhjocaa.St

/-- One who wants messages: p: its block; m: its map's; tags: what it holds, in the map's order. -/
structure Wish where
  p : Nat
  m : Nat
  client : Int
  queue : ByteArray
  most : Int
  tags : List Int

abbrev setOf (tags : List Int) : List (Value × Value) := setKs .u64 tags
def Wish.ptr (x : Wish) : Value := .pointer (some ⟨x.p, 0, none⟩)

structure WishAt (w : World) (x : Wish) : Prop where
  cell : w.heap[x.p]? = some (.cells #[.int .i64 x.client, .string x.queue, .int .i64 x.most, .map (some x.m)] 72 (0, 0))
  tags : MapAt w x.m (setOf x.tags)

def fpW (ws : List Wish) : List Nat := ws.flatMap fun x => [x.p, x.m]

structure DeskAt (w : World) (d : Nat) (row : Option Addr) (ws : List Wish) : Prop where
  cell : ∃ l c, w.heap[d]? = some (.cells #[.slice row l c, .bool true] 59 (0, 0)) ∧ w.ownsRow 0 68 1 (.slice row l c) ws.length (ws.map Wish.ptr)
  wish : ∀ x ∈ ws, WishAt w x
  apart : (d :: ((row.map (·.block)).toList ++ fpW ws)).Nodup

/-- The blocks of a desk. -/
def fp (d : Nat) (row : Option Addr) (ws : List Wish) : Nat → Prop := fun k => k ∈ d :: ((row.map (·.block)).toList ++ fpW ws)

theorem WishAt.mod {S : Nat → Prop} {w w' : World} {x : Wish} (h : WishAt w x) (hm : Mod S w w') (h1 : ¬ S x.p) (h2 : ¬ S x.m) : WishAt w' x :=
  ⟨hm.at h.cell h1, h.tags.mod hm h2⟩

theorem DeskAt.mod {S : Nat → Prop} {w w' : World} {d : Nat} {row : Option Addr} {ws : List Wish} (h : DeskAt w d row ws) (hm : Mod S w w') (hs : ∀ k, fp d row ws k → ¬ S k) : DeskAt w' d row ws := by
  obtain ⟨l, c, hc, hr⟩ := h.cell
  refine ⟨⟨l, c, hm.at hc (hs d (by simp [fp])), row_mod hr hm fun k hk => hs k ?_⟩, fun x hx => (h.wish x hx).mod hm (hs _ ?_) (hs _ ?_), h.apart⟩
  · simp only [rowB] at hk
    simp [fp, hk]
  · simp only [fp, fpW, List.mem_cons, List.mem_append, List.mem_flatMap]
    exact .inr (.inr ⟨x, hx, by simp⟩)
  · simp only [fp, fpW, List.mem_cons, List.mem_append, List.mem_flatMap]
    exact .inr (.inr ⟨x, hx, by simp⟩)

theorem DeskAt.no {w w' : World} {d : Nat} {row : Option Addr} {ws : List Wish} (h : DeskAt w d row ws) (hm : Mod no w w') : DeskAt w' d row ws := h.mod hm fun _ _ => id

/-! ### New, made -/
theorem new_ok (w : World) (R : Value → World → Prop) (h : ∀ w', Mod no w w' → DeskAt w' w.heap.size none [] → R (.pointer (some ⟨w.heap.size, 0, none⟩)) w') : Ca Try.prog 8 #[] w R := by
  refine ca8 w R ?_
  intro w' e
  subst e
  exact h _ (Mod.alloc w _) ⟨⟨0, 0, new_at w _, World.ownsRow_nil _ _ _ _⟩, by simp, by simp [fpW]⟩

theorem made_nil (w : World) (R : Value → World → Prop) (h : R (.bool false) w) : Ca Try.prog 24 #[.pointer none] w R := ca24 none w R h
theorem made_of (d : Nat) (w : World) (R : Value → World → Prop) {cs : Array Value} {e : TypeId} {fz : Nat × Nat} (hd : w.heap[d]? = some (.cells cs e fz)) {b : Bool} (hb : cs[1]? = some (.bool b)) (h : R (.bool b) w) :
    Ca Try.prog 24 #[.pointer (some ⟨d, 0, none⟩)] w R :=
  ca24 _ w R ⟨b, by rw [cl1 hd, hb], h⟩

/-! ### Search -/
/-- A function value that asks of a wish, and changes nothing. -/
def Asks (so : Value) (w : World) (x : Wish) (b : Bool) : Prop :=
  ∀ w', Mod no w w' → ∀ R : Value → World → Prop, (∀ w'', Mod no w' w'' → R (.bool b) w'') → CaV Try.prog so #[x.ptr] w' R

theorem indexFunc (a : Option Addr) (l c : Nat) (so : Value) (w : World) (ws : List Wish) (φ : Wish → Bool) (hr : w.ownsRow 0 68 1 (.slice a l c) ws.length (ws.map Wish.ptr))
    (hso : ∀ x ∈ ws, Asks so w x (φ x)) (R : Value → World → Prop)
    (h : ∀ w', Mod no w w' → R (.int .i64 (match ws.findIdx? φ with | some i => (i : Int) | none => -1)) w') : Ca Try.prog 44 #[.slice a l c, so] w R := by
  obtain ⟨hl, _, hlc, hc⟩ := row_len hr
  refine ca44 a l c so w R ?_
  refine ⟨fun x w' => ∃ k : Nat, x = k ∧ k ≤ ws.length ∧ Mod no w w' ∧ ∀ y ∈ ws.take k, φ y = false, fun x _ => ((l : Int) - x).toNat, ⟨0, rfl, Nat.zero_le _, Mod.refl _ _, by simp⟩, ?_⟩
  rintro _ x w4 ⟨k, rfl, hk, hm, hno⟩
  refine ifK_of (fun hlt => ?_) (fun hge => ?_)
  · have hlt : k < ws.length := by have := of_decide_eq_true hlt; omega
    obtain ⟨g, rfl, hcell⟩ := row_at (row_mod hr hm fun _ _ => id) (i := k) (v := ws[k].ptr) (by simp [hlt])
    refine ⟨_, rfl, by omega, by omega, some ⟨ws[k].p, 0, none⟩, by simpa [Wish.ptr] using hcell, ?_⟩
    refine hso ws[k] (List.getElem_mem hlt) w4 hm _ fun w'' hm' => ⟨φ ws[k], rfl, ifK_of (fun hb => ?_) (fun hb => ?_)⟩
    · have : ws.findIdx? φ = some k := by
        rw [List.findIdx?_eq_some_iff_getElem]
        refine ⟨hlt, hb, fun j hj => ?_⟩
        have := hno (ws[j]) (by rw [List.mem_take_iff_getElem]; exact ⟨j, by omega, rfl⟩)
        simp [this]
      have h' := h w'' (hm.trans hm')
      rw [this] at h'
      exact h'
    · have e : IntKind.i64.wrap ((k : Int) + 1) = ((k + 1 : Nat) : Int) := by rw [wrap64 (by omega) (by omega)]; omega
      rw [e]
      refine ⟨⟨k + 1, rfl, hlt, hm.trans hm', fun y hy => ?_⟩, by simp only; omega⟩
      rw [List.take_succ_eq_append_getElem hlt, List.mem_append] at hy
      rcases hy with hy | hy
      · exact hno y hy
      · simp at hy; rw [hy]; exact hb
  · have hge : ¬ ((k : Int) < l) := of_decide_eq_false hge
    have hk' : k = ws.length := by omega
    subst hk'
    have : ws.findIdx? φ = none := by
      rw [List.findIdx?_eq_none_iff]
      intro x hx
      exact hno x (by simpa using hx)
    have h' := h w4 hm
    rw [this] at h'
    exact h'

theorem find_get {α : Type} (φ : α → Bool) (l : List α) : l.find? φ = match l.findIdx? φ with | some i => l[i]? | none => none := by
  induction l with
  | nil => rfl
  | cons a l ih =>
    simp only [List.find?_cons, List.findIdx?_cons]
    cases φ a with
    | true => rfl
    | false =>
      simp only [ih]
      cases l.findIdx? φ <;> rfl

def wptr (o : Option Wish) : Option Addr := o.map fun x => ⟨x.p, 0, none⟩

theorem find_ok (d : Nat) (row : Option Addr) (ws : List Wish) (so : Value) (w : World) (φ : Wish → Bool) (hd : DeskAt w d row ws)
    (hso : ∀ x ∈ ws, Asks so w x (φ x)) (R : Value → World → Prop)
    (h : ∀ w', Mod no w w' → R (.pointer (wptr (ws.find? φ))) w') : Ca Try.prog 27 #[.pointer (some ⟨d, 0, none⟩), so] w R := by
  obtain ⟨l, c, hc, hr⟩ := hd.cell
  refine ca27 _ so w R ?_
  refine made_of d w _ hc rfl ⟨true, rfl, ?_⟩
  refine ⟨row, l, c, by rw [cl1 hc]; rfl, ?_⟩
  refine indexFunc row l c so w ws φ hr hso _ fun w' hm => ⟨_, rfl, ?_⟩
  have hc' := hm.at' hc
  have hr' := row_mod hr hm fun _ _ => id
  have h' := h w' hm
  rw [find_get] at h'
  cases hi : ws.findIdx? φ with
  | none => rw [hi] at h'; exact h'
  | some i =>
    rw [hi] at h'
    have hlt : i < ws.length := (List.findIdx?_eq_some_iff_getElem.1 hi).1
    obtain ⟨hl, _⟩ := row_len hr
    have hge : decide ((i : Int) ≥ 0) = true := decide_eq_true (by omega)
    simp only [hge]
    obtain ⟨g, rfl, hcell⟩ := row_at hr' (i := i) (v := ws[i].ptr) (by simp [hlt])
    refine ⟨_, l, c, by rw [cl1 hc']; rfl, _, rfl, by omega, by omega, some ⟨ws[i].p, 0, none⟩, by simpa [Wish.ptr] using hcell, ?_⟩
    simpa [wptr, hlt] using h'

theorem find_nil (so : Value) (w : World) (R : Value → World → Prop) (h : R (.pointer none) w) : Ca Try.prog 27 #[.pointer none, so] w R := by
  refine ca27 _ so w R ?_
  exact made_nil w _ ⟨false, rfl, h⟩

/-- A desk that no call made. -/
theorem find_zero (d : Nat) (so : Value) (w : World) (R : Value → World → Prop) (hd : w.heap[d]? = some (.cells #[.slice none 0 0, .bool false] 59 (0, 0))) (h : R (.pointer none) w) : Ca Try.prog 27 #[.pointer (some ⟨d, 0, none⟩), so] w R := by
  refine ca27 _ so w R ?_
  exact made_of d w _ hd rfl ⟨false, rfl, h⟩

theorem asks_client (w : World) (client : Int) (k : Nat) (x : Wish) (hk : w.heap[k]? = some (.cells #[.int .i64 client] 3 (0, 0))) (hx : WishAt w x) :
    Asks (.func (.func 43) #[] #[.pointer (some ⟨k, 0, none⟩)]) w x (x.client == client) := by
  intro w' hm R hR
  refine ca43 _ _ w' R ?_
  intro w0 e
  subst e
  have hm' := Mod.drew w'
  refine ⟨x.client, by rw [cl1 (hm'.at' (hm.at' hx.cell))]; rfl, client, by rw [cl (hm'.at' (hm.at' hk))]; rfl, hR _ hm'⟩

theorem of_ok (d : Nat) (row : Option Addr) (ws : List Wish) (client : Int) (w : World) (hd : DeskAt w d row ws) (R : Value → World → Prop)
    (h : ∀ w', Mod no w w' → R (.pointer (wptr (ws.find? (·.client == client)))) w') : Ca Try.prog 26 #[.pointer (some ⟨d, 0, none⟩), .int .i64 client] w R := by
  refine ca26 _ client w R ?_
  intro w1 e
  subst e
  have hm := Mod.alloc w (.cells #[.int .i64 client] 3 (0, 0))
  have hd1 := hd.no hm
  refine find_ok d row ws _ _ (·.client == client) hd1 (fun x hx => asks_client _ client _ x (new_at w _) (hd1.wish x hx)) _ fun w' hm' => ⟨_, rfl, h w' (hm.trans hm')⟩

theorem of_nil (client : Int) (w : World) (R : Value → World → Prop) (h : ∀ w', Mod no w w' → R (.pointer none) w') : Ca Try.prog 26 #[.pointer none, .int .i64 client] w R := by
  refine ca26 _ client w R ?_
  intro w1 e
  subst e
  exact find_nil _ _ _ ⟨_, rfl, h _ (Mod.alloc w _)⟩

theorem of_zero (d : Nat) (client : Int) (w : World) (R : Value → World → Prop) (hd : w.heap[d]? = some (.cells #[.slice none 0 0, .bool false] 59 (0, 0))) (h : ∀ w', Mod no w w' → R (.pointer none) w') :
    Ca Try.prog 26 #[.pointer (some ⟨d, 0, none⟩), .int .i64 client] w R := by
  refine ca26 _ client w R ?_
  intro w1 e
  subst e
  exact find_zero d _ _ _ ((Mod.alloc w _).at' hd) ⟨_, rfl, h _ (Mod.alloc w _)⟩

/-! ### Next -/
def roomy (queue : ByteArray) (x : Wish) : Bool := (x.queue.toList == queue.toList) && decide ((x.tags.length : Int) < x.most)

theorem asks_room (w : World) (queue : ByteArray) (k : Nat) (x : Wish) (hk : w.heap[k]? = some (.cells #[.string queue] 9 (0, 0))) (hx : WishAt w x) :
    Asks (.func (.func 28) #[] #[.pointer (some ⟨k, 0, none⟩)]) w x (roomy queue x) := by
  intro w' hm R hR
  refine ca28 _ _ w' R ?_
  intro w0 e
  subst e
  have hm' := Mod.drew w'
  have hc := hm'.at' (hm.at' hx.cell)
  obtain ⟨es, clock, hes, hsz⟩ := (hx.tags.mod (hm.trans hm') id).size
  have hR' := hR _ hm'
  refine ⟨x.queue, by rw [cl1 hc]; rfl, queue, by rw [cl (hm'.at' (hm.at' hk))]; rfl, ifK_of (fun hb => ?_) (fun hb => ?_)⟩
  · rw [roomy, hb, Bool.true_and] at hR'
    refine ⟨some x.m, by rw [cl1 hc]; rfl, x.most, by rw [cl1 hc]; rfl, es, clock, hes, by rw [cl2 hc]; rfl, ?_⟩
    rw [hsz]
    simpa [setKs, intKs] using hR'
  · rw [roomy, hb, Bool.false_and] at hR'
    exact hR'

theorem next_ok (d : Nat) (row : Option Addr) (ws : List Wish) (queue : ByteArray) (w : World) (hd : DeskAt w d row ws) (R : Value → World → Prop)
    (h : ∀ w', Mod no w w' → R (.tuple #[.int .i64 (((ws.find? (roomy queue)).map (·.client)).getD 0), .bool (ws.find? (roomy queue)).isSome]) w') :
    Ca Try.prog 10 #[.pointer (some ⟨d, 0, none⟩), .string queue] w R := by
  refine ca10 _ queue w R ?_
  intro w1 e
  subst e
  have hm := Mod.alloc w (.cells #[.string queue] 9 (0, 0))
  have hd1 := hd.no hm
  refine find_ok d row ws _ _ (roomy queue) hd1 (fun x hx => asks_room _ queue _ x (new_at w _) (hd1.wish x hx)) _ fun w' hm' => ⟨_, rfl, ?_⟩
  have h' := h w' (hm.trans hm')
  cases hf : ws.find? (roomy queue) with
  | none => rw [hf] at h'; exact h'
  | some x =>
    rw [hf] at h'
    have hx : WishAt w' x := (hd1.no hm').wish x (List.mem_of_find?_eq_some hf)
    exact ⟨x.client, by rw [cl1 hx.cell]; rfl, h'⟩

theorem next_nil (queue : ByteArray) (w : World) (R : Value → World → Prop) (h : ∀ w', Mod no w w' → R (.tuple #[.int .i64 0, .bool false]) w') :
    Ca Try.prog 10 #[.pointer none, .string queue] w R := by
  refine ca10 _ queue w R ?_
  intro w1 e
  subst e
  exact find_nil _ _ _ ⟨_, rfl, h _ (Mod.alloc w _)⟩

theorem next_zero (d : Nat) (queue : ByteArray) (w : World) (R : Value → World → Prop) (hd : w.heap[d]? = some (.cells #[.slice none 0 0, .bool false] 59 (0, 0))) (h : ∀ w', Mod no w w' → R (.tuple #[.int .i64 0, .bool false]) w') :
    Ca Try.prog 10 #[.pointer (some ⟨d, 0, none⟩), .string queue] w R := by
  refine ca10 _ queue w R ?_
  intro w1 e
  subst e
  exact find_zero d _ _ _ ((Mod.alloc w _).at' hd) ⟨_, rfl, h _ (Mod.alloc w _)⟩
end Go.Proofs.Ytmnbnjkbbhjocaa

/- Contracts of the program's functions 'plain' and 'Name': what a name is. -/
namespace Go.Proofs.Ytmnbnjkbbhjocaa
open Go Go.Proofs.Ytmnbnjkbbhjocaa.St

def letter (c : Nat) : Bool := (decide (97 ≤ c) && decide (c ≤ 122)) || (decide (48 ≤ c) && decide (c ≤ 57)) || c == 45 || c == 95
def lettersB (s : ByteArray) : Bool := s.data.toList.all (fun b => letter b.toNat)
def plainB (s : ByteArray) : Bool := lettersB s && !(ByteArray.toList s == ByteArray.toList (ByteArray.mk #[]))
def nameB (s : ByteArray) : Bool := decide ((s.size : Int) ≤ 20) && plainB s

theorem decode_high (s : ByteArray) (pos : Nat) (h : pos < s.size) (ha : ¬ (s[pos]'h).toNat < 128) : 128 ≤ (Utf8.decode s pos).1 := by
  have e : s.get! (pos + 0) = s[pos]'h := by
    show s.get! pos = _
    simp [ByteArray.get!, getElem!_pos, h]
    rfl
  simp only [Utf8.decode, e, ha, if_false]
  repeat' split
  all_goals simp_all [Utf8.runeError] <;> omega

theorem lettersB_at {s : ByteArray} (h : lettersB s = true) {pos : Nat} (hp : pos < s.size) : letter (s[pos]'hp).toNat = true := by
  rw [lettersB, List.all_eq_true] at h
  exact h _ (by simp [ByteArray.getElem_eq_getElem_data])

theorem lettersB_of {s : ByteArray} (h : ∀ (pos : Nat) (hp : pos < s.size), letter (s[pos]'hp).toNat = true) : lettersB s = true := by
  rw [lettersB, List.all_eq_true]
  intro x hx
  obtain ⟨i, hi, rfl⟩ := List.getElem_of_mem hx
  exact h i (by simpa using hi)

def itPos (w : World) (k n : Nat) : Nat := match w.heap[k]? with | some (.stringIter _ p) => n - p | _ => 0
theorem itPos_of {w : World} {k n p : Nat} {s : ByteArray} (h : w.heap[k]? = some (.stringIter s p)) : itPos w k n = n - p := by simp [itPos, h]

theorem plain_ok (s : ByteArray) (w : World) (R : Value → World → Prop) (h : ∀ w', Mod no w w' → R (.bool (plainB s)) w') : Ca Try.prog 42 #[.string s] w R := by
  refine ca42 s w R ?_
  intro w1 e
  subst e
  refine ⟨fun w' => ∃ pos, pos ≤ s.size ∧ w'.heap[w.heap.size]? = some (.stringIter s pos) ∧ Mod no w w' ∧ ∀ (i : Nat) (hi : i < s.size), i < pos → letter (s[i]'hi).toNat = true,
    fun w' => itPos w' w.heap.size s.size, ⟨0, Nat.zero_le _, new_at w _, Mod.alloc w _, fun _ _ h => absurd h (Nat.not_lt_zero _)⟩, ?_⟩
  rintro _ w4 ⟨pos, hle, hit, hm, hgood⟩
  refine ⟨s, pos, hit, ifK_of (fun hp => ?_) (fun hp => ?_)⟩
  · have hp : pos < s.size := of_decide_eq_true hp
    intro w7 e7
    have hm7 : Mod no w w7 := by subst e7; exact hm.new (Mod.putObj w4 _ _) fun k hk => by cases hk; exact Nat.le_refl _
    have hit7 : w7.heap[w.heap.size]? = some (.stringIter s (pos + (Utf8.decode s pos).2)) := by subst e7; exact put_at _ hit
    have hA : letter (Utf8.decode s pos).1 = true → (∃ pos, pos ≤ s.size ∧ w7.heap[w.heap.size]? = some (.stringIter s pos) ∧ Mod no w w7 ∧ ∀ (i : Nat) (hi : i < s.size), i < pos → letter (s[i]'hi).toNat = true) ∧
        itPos w7 w.heap.size s.size < itPos w4 w.heap.size s.size := by
      intro hl
      have hlow : (s[pos]'hp).toNat < 128 := by
        apply Decidable.byContradiction
        intro hh
        have := decode_high s pos hp hh
        simp [letter] at hl
        omega
      have hd := decode_ascii s pos hp hlow
      rw [hd] at hit7 hl
      rw [itPos_of hit, itPos_of hit7]
      refine ⟨⟨pos + 1, hp, hit7, hm7, fun i hi hlt => ?_⟩, by simp only; omega⟩
      by_cases e : i = pos
      · subst e; exact hl
      · exact hgood i hi (by omega)
    have hB : letter (Utf8.decode s pos).1 = false → R (.bool false) w7 := by
      intro hl
      have : plainB s = false := by
        rw [plainB]
        cases hall : lettersB s with
        | false => rfl
        | true =>
          have := lettersB_at hall hp
          by_cases hlow : (s[pos]'hp).toNat < 128
          · rw [decode_ascii s pos hp hlow] at hl; rw [this] at hl; cases hl
          · simp [letter] at this; omega
      have h' := h w7 hm7
      rwa [this] at h'
    have hL : letter (Utf8.decode s pos).1 = ((decide (((Utf8.decode s pos).1 : Int) ≥ 97) && decide (((Utf8.decode s pos).1 : Int) ≤ 122)) || (decide (((Utf8.decode s pos).1 : Int) ≥ 48) && decide (((Utf8.decode s pos).1 : Int) ≤ 57)) ||
        (((Utf8.decode s pos).1 : Int) == 45) || (((Utf8.decode s pos).1 : Int) == 95)) := by
      rw [letter]
      congr 1
      · congr 1
        · congr 1
          · congr 1 <;> exact decide_eq_decide.2 (by omega)
          · congr 1 <;> exact decide_eq_decide.2 (by omega)
        · rw [Bool.eq_iff_iff]; simp; omega
      · rw [Bool.eq_iff_iff]; simp; omega
    rw [hL] at hA hB
    clear hL
    revert hA hB
    dsimp only
    generalize ((∃ pos, pos ≤ s.size ∧ w7.heap[w.heap.size]? = some (.stringIter s pos) ∧ Mod no w w7 ∧ ∀ (i : Nat) (hi : i < s.size), i < pos → letter (s[i]'hi).toNat = true) ∧ itPos w7 w.heap.size s.size < itPos w4 w.heap.size s.size) = A
    generalize decide (((Utf8.decode s pos).1 : Int) ≥ 97) = b1
    generalize decide (((Utf8.decode s pos).1 : Int) ≤ 122) = b2
    generalize decide (((Utf8.decode s pos).1 : Int) ≥ 48) = b3
    generalize decide (((Utf8.decode s pos).1 : Int) ≤ 57) = b4
    generalize (((Utf8.decode s pos).1 : Int) == 45) = b5
    generalize (((Utf8.decode s pos).1 : Int) == 95) = b6
    intro hA hB
    cases b1 <;> cases b2 <;> cases b3 <;> cases b4 <;> cases b5 <;> cases b6 <;> first | exact hA rfl | exact hB rfl
  · have hp : ¬ pos < s.size := of_decide_eq_false hp
    have : lettersB s = true := lettersB_of fun i hi => hgood i hi (by omega)
    have h' := h w4 hm
    rwa [plainB, this, Bool.true_and] at h'

theorem name_ok (s : ByteArray) (w : World) (R : Value → World → Prop) (h : ∀ w', Mod no w w' → R (.bool (nameB s)) w') : Ca Try.prog 25 #[.string s] w R := by
  refine ca25 s w R (ifK_of (fun hb => ?_) (fun hb => ?_))
  · refine plain_ok s w _ fun w' hm => ⟨_, rfl, ?_⟩
    have h' := h w' hm
    rwa [nameB, hb, Bool.true_and] at h'
  · have h' := h w (Mod.refl _ _)
    rwa [nameB, hb, Bool.false_and] at h'
end Go.Proofs.Ytmnbnjkbbhjocaa

/- Contracts of the program's consumer functions that change a desk: Add. -/
namespace Go.Proofs.Ytmnbnjkbbhjocaa
open Go Go.Proofs.Ytmnbnjkbbhjocaa.St

/-- One who wants messages, with no blocks in sight. -/
structure One where
  client : Int
  queue : ByteArray
  most : Int
  tags : List Int
def Wish.one (x : Wish) : One := ⟨x.client, x.queue, x.most, x.tags⟩

/-- At d lies a desk of these, in the blocks F. -/
def Dk (w : World) (d : Nat) (F : Nat → Prop) (l : List One) : Prop :=
  ∃ row ws, DeskAt w d row ws ∧ ws.map Wish.one = l ∧ ∀ k, fp d row ws k → F k

theorem Dk.mod {S F : Nat → Prop} {w w' : World} {d : Nat} {l : List One} (h : Dk w d F l) (hm : Mod S w w') (hs : ∀ k, F k → ¬ S k) : Dk w' d F l :=
  let ⟨row, ws, hd, hl, hF⟩ := h
  ⟨row, ws, hd.mod hm fun k hk => hs k (hF k hk), hl, hF⟩
theorem Dk.no {F : Nat → Prop} {w w' : World} {d : Nat} {l : List One} (h : Dk w d F l) (hm : Mod no w w') : Dk w' d F l := h.mod hm fun _ _ => id

theorem find_one (ws : List Wish) (φ : One → Bool) : (ws.find? fun x => φ x.one).map Wish.one = (ws.map Wish.one).find? φ := by
  rw [List.find?_map]; rfl

theorem DeskAt.lt {w : World} {d : Nat} {row : Option Addr} {ws : List Wish} (h : DeskAt w d row ws) : ∀ k, fp d row ws k → k < w.heap.size := by
  intro k hk
  obtain ⟨l, c, hc, hr⟩ := h.cell
  simp only [fp, fpW, List.mem_cons, List.mem_append, List.mem_flatMap] at hk
  rcases hk with rfl | hk | ⟨x, hx, hk⟩
  · exact lt_of_heap hc
  · rcases hr.2 with ⟨hv, _⟩ | ⟨g, cap, cur, hv, _, hg, _⟩
    · injection hv with h1; subst h1; simp at hk
    · injection hv with h1; subst h1; simp at hk; subst hk; exact lt_of_heap hg
  · simp at hk
    rcases hk with rfl | rfl
    · exact lt_of_heap (h.wish x hx).cell
    · exact (h.wish x hx).tags.lt

def addE (l : List One) (client : Int) (queue : ByteArray) (most : Int) : Int :=
  if decide (client < 1) then 2 else if decide (client > 1000) then 2 else if decide (most < 1) then 2 else if decide (most > 100) then 2 else
  if !nameB queue then 2 else if (l.find? (·.client == client)).isSome then 4 else if decide ((l.length : Int) ≥ 32) then 5 else 0
def addL (l : List One) (client : Int) (queue : ByteArray) (most : Int) : List One :=
  if addE l client queue most = 0 then l ++ [⟨client, queue, most, []⟩] else l

theorem row57 : rowOk Try.prog 57 68 = true := by kernel_rfl

theorem add_ok (d : Nat) (F : Nat → Prop) (l : List One) (client : Int) (queue : ByteArray) (most : Int) (w : World) (hd : Dk w d F l) (R : Value → World → Prop)
    (h : ∀ w' F', Dk w' d F' (addL l client queue most) → Mod F w w' → (∀ k, F' k → F k ∨ w.heap.size ≤ k) → R (.int .i64 (addE l client queue most)) w') :
    Ca Try.prog 9 #[.pointer (some ⟨d, 0, none⟩), .int .i64 client, .string queue, .int .i64 most] w R := by
  have same : ∀ w' e, Mod no w w' → addE l client queue most = e → e ≠ 0 → R (.int .i64 e) w' := by
    intro w' e hm he hne
    have h' := h w' F (by rw [addL, he, if_neg hne]; exact hd.no hm) hm.of_no fun k hk => .inl hk
    rwa [he] at h'
  obtain ⟨row, ws, hda, hl, hF⟩ := hd
  obtain ⟨sl, sc, hc, hr⟩ := hda.cell
  refine ca9 _ client queue most w R ?_
  refine made_of d w _ hc rfl ⟨true, rfl, ?_⟩
  refine ifK_of (fun hb => by cases hb) (fun _ => ?_)
  refine ifK_of (fun h1 => same _ _ (Mod.refl _ _) (by simp only [addE, h1, if_true]) (by decide)) (fun h1 => ?_)
  refine ifK_of (fun h2 => same _ _ (Mod.refl _ _) (by simp only [addE, h1, h2, if_true]; rfl) (by decide)) (fun h2 => ?_)
  refine ifK_of (fun h3 => same _ _ (Mod.refl _ _) (by simp only [addE, h1, h2, h3, if_true]; rfl) (by decide)) (fun h3 => ?_)
  refine ifK_of (fun h4 => same _ _ (Mod.refl _ _) (by simp only [addE, h1, h2, h3, h4, if_true]; rfl) (by decide)) (fun h4 => ?_)
  refine name_ok queue w _ fun w4 hm4 => ⟨_, rfl, ?_⟩
  refine ifK_of (fun h5 => same _ _ hm4 (by simp only [addE, h1, h2, h3, h4, h5, if_true]; rfl) (by decide)) (fun h5 => ?_)
  refine of_ok d row ws client w4 (hda.no hm4) _ fun w7 hm7 => ⟨_, rfl, ?_⟩
  have hm7 := hm4.trans hm7
  have hf : (wptr (ws.find? (·.client == client))).isNone = !(l.find? (·.client == client)).isSome := by
    rw [← hl, ← find_one]
    show (Option.map _ (ws.find? fun x => x.client == client)).isNone = !(Option.map _ (ws.find? fun x => x.client == client)).isSome
    cases ws.find? (fun x => x.client == client) <;> rfl
  rw [hf, Bool.not_not]
  refine ifK_of (fun h6 => same _ _ hm7 (by simp only [addE, h1, h2, h3, h4, h5, h6, if_true]; rfl) (by decide)) (fun h6 => ?_)
  have hlen : ws.length = l.length := by rw [← hl, List.length_map]
  obtain ⟨hsl, _⟩ := row_len hr
  have hd7 := hda.no hm7
  have hc7 := hm7.at' hc
  have hr7 := row_mod hr hm7 fun _ _ => id
  refine ⟨row, sl, sc, by rw [cl1 hc7]; rfl, ?_⟩
  refine ifK_of (fun h7 => same _ _ hm7 (by rw [hsl, hlen] at h7; simp only [addE, h1, h2, h3, h4, h5, h6, h7, if_true]; rfl) (by decide)) (fun h7 => ?_)
  have hE : addE l client queue most = 0 := by rw [hsl, hlen] at h7; simp only [addE, h1, h2, h3, h4, h5, h6, h7]; rfl
  have hlt : l.length < 32 := by rw [hsl, hlen] at h7; have := of_decide_eq_false h7; omega
  refine ⟨row, sl, sc, by rw [cl1 hc7]; rfl, ?_⟩
  intro w17 e17
  intro w18 e18
  intro w19 e19
  have m17 : Mod no w7 w17 := by subst e17; exact Mod.alloc _ _
  have m18 : Mod no w17 w18 := by subst e18; exact Mod.alloc _ _
  have m19 : Mod no w18 w19 := by subst e19; exact Mod.alloc _ _
  have s17 : w17.heap.size = w7.heap.size + 1 := by subst e17; simp
  have s18 : w18.heap.size = w7.heap.size + 2 := by subst e18; simp [s17]
  have s19 : w19.heap.size = w7.heap.size + 3 := by subst e19; simp [s18]
  have b17 : MapAt w17 w7.heap.size [] := by subst e17; exact MapAt.new _
  have b18 : w18.heap[w17.heap.size]? = some (.cells #[.int .i64 client, .string queue, .int .i64 most, .map (some w7.heap.size)] 72 (0, 0)) := by subst e18; exact new_at _ _
  have b19 : w19.heap[w18.heap.size]? = some (.cells #[.pointer (some ⟨w17.heap.size, 0, none⟩)] 68 (0, 0)) := by subst e19; exact new_at _ _
  have b17' := b17.mod (m18.trans m19) id
  have b18' := m19.at' b18
  have mm := (m17.trans m18).trans m19
  clear e17 e18 e19
  obtain ⟨a', c', w21, hrun, hown, m21, hnew⟩ := row_push (ty := 57) row57 (row_mod hr7 mm fun _ _ => id) (b := ⟨w18.heap.size, 0, none⟩) (m := 1) (cc := 1) (news := [.pointer (some ⟨w17.heap.size, 0, none⟩)]) rfl (by decide)
    (by intro j v hj; cases j with
        | zero => simp at hj; subst hj; rw [cl1 b19]; rfl
        | succ j => simp at hj) (by simp [Value.oneCell']) (by omega)
  refine ⟨_, w21, by rw [hsl]; rw [hsl] at hrun; exact hrun, _, _, _, rfl, ?_⟩
  have hnd := hda.apart
  have hdlt := hda.lt d (by simp [fp])
  have hrow : ∀ k, rowB row k → fp d row ws k := by intro k hk; simp [rowB] at hk; simp [fp, hk]
  have hrowd : ¬ rowB row d := by
    intro hk
    simp only [rowB] at hk
    rw [hk] at hnd
    simp at hnd
  have hda' : ¬ rowB (some a') d := by
    intro hk
    rcases hnew d hk with h | h
    · exact hrowd h
    · have := hm7.size; omega
  have hc21 := m21.at (mm.at' hc7) hrowd
  refine ⟨⟨_, by rw [cl2 hc21]; rfl⟩, fz2 hc21 _ _, ?_⟩
  intro w27 e27
  have m27 : Mod (on d) w21 w27 := by subst e27; exact Mod.set2 _ _ _ _ _
  have c27 : w27.heap[d]? = some (.cells #[.slice (some a') (ws.length + 1) c', .bool true] 59 (0, 0)) := by
    subst e27; rw [set2 hc21]; rfl
  clear e27
  have hwlt : ∀ x ∈ ws, fp d row ws x.p ∧ fp d row ws x.m := by
    intro x hx
    simp only [fp, fpW, List.mem_cons, List.mem_append, List.mem_flatMap]
    exact ⟨.inr (.inr ⟨x, hx, by simp⟩), .inr (.inr ⟨x, hx, by simp⟩)⟩
  have hsz := hm7.size
  have hwnd : ∀ k ∈ fpW ws, k ≠ d ∧ ¬ rowB row k := by
    intro k hk
    rw [List.nodup_cons, List.nodup_append] at hnd
    refine ⟨fun e => hnd.1 (by subst e; simp [hk]), fun hr => ?_⟩
    exact hnd.2.2.2 k (by simp [rowB] at hr; simp [hr]) k hk rfl
  have hmA : Mod (fun k => k = d ∨ rowB row k) w7 w27 :=
    (mm.no_trans (m21.mono fun k _ hk => .inr hk)).trans' m27 fun k _ hk => .inl hk
  have hE' := h w27 (fun k => F k ∨ w.heap.size ≤ k) ?_ ?_ fun k hk => hk
  · rw [hE] at hE'; exact hE'
  · refine ⟨some a', ws ++ [⟨w17.heap.size, w7.heap.size, client, queue, most, []⟩], ⟨⟨_, c', by simpa using c27, ?_⟩, ?_, ?_⟩, ?_, ?_⟩
    · have := row_mod hown m27 (fun k hk => fun e => hda' (by cases e; exact hk))
      simpa [Wish.ptr] using this
    · intro x hx
      rw [List.mem_append] at hx
      rcases hx with hx | hx
      · refine (hd7.wish x hx).mod hmA ?_ ?_
        · have := hwnd x.p (by simp only [fpW, List.mem_flatMap]; exact ⟨x, hx, by simp⟩)
          rintro (h | h)
          · exact this.1 h
          · exact this.2 h
        · have := hwnd x.m (by simp only [fpW, List.mem_flatMap]; exact ⟨x, hx, by simp⟩)
          rintro (h | h)
          · exact this.1 h
          · exact this.2 h
      · simp at hx
        subst hx
        have hb : ∀ k, w7.heap.size ≤ k → ¬ rowB row k := fun k hk hr => by have := hda.lt k (hrow k hr); omega
        exact ⟨m27.at (m21.at b18' (hb w17.heap.size (by omega))) (show ¬ w17.heap.size = d by omega), (b17'.mod m21 (hb w7.heap.size (by omega))).mod m27 (show ¬ w7.heap.size = d by omega)⟩
    · have e : fpW (ws ++ [⟨w17.heap.size, w7.heap.size, client, queue, most, []⟩]) = fpW ws ++ [w17.heap.size, w7.heap.size] := by simp [fpW]
      rw [e]
      have hwl : ∀ k ∈ fpW ws, k < w.heap.size := fun k hk => hda.lt k (by simp [fp, hk])
      have ha' : rowB row a'.block ∨ w19.heap.size ≤ a'.block := hnew _ (by simp [rowB])
      have ha'' : a'.block ≠ d := fun e => hda' (by simp [rowB, e])
      have ha3 : ∀ k ∈ fpW ws, a'.block ≠ k := by
        intro k hk e
        rcases ha' with h | h
        · rw [e] at h; exact (hwnd k hk).2 h
        · have := hwl k hk; omega
      have ha4 : a'.block < w7.heap.size ∨ w19.heap.size ≤ a'.block := ha'.imp (fun h => by have := hda.lt _ (hrow _ h); omega) id
      rw [List.nodup_cons, List.nodup_append] at hnd
      simp only [Option.map_some, Option.toList_some, List.cons_append, List.nil_append, List.nodup_cons, List.mem_cons, List.mem_append, List.not_mem_nil, or_false, not_or]
      refine ⟨⟨fun e => ha'' e.symm, fun hk => (hwnd d hk).1 rfl, by omega, by omega⟩, ⟨fun hk => ha3 _ hk rfl, by omega, by omega⟩, ?_⟩
      rw [List.nodup_append]
      refine ⟨hnd.2.2.1, by simp; omega, ?_⟩
      intro a ha b hb
      have := hwl a ha
      simp at hb
      omega
    · rw [List.map_append, hl, addL, if_pos hE]; rfl
    · intro k hk
      simp only [fp, fpW, List.flatMap_append, List.mem_cons, List.mem_append] at hk
      have hold : fp d row ws k → F k ∨ w.heap.size ≤ k := fun h => .inl (hF k h)
      rcases hk with rfl | hk | hk | hk
      · exact hold (by simp [fp])
      · have : rowB (some a') k := by simp at hk; simp [rowB, hk]
        rcases hnew k this with h | h
        · exact hold (hrow k h)
        · exact .inr (by omega)
      · exact hold (by simp only [fp, List.mem_cons, List.mem_append]; exact .inr (.inr hk))
      · simp at hk
        exact .inr (by omega)
  · exact hm7.no_trans (hmA.mono fun k hk hS => hF k (by
      rcases hS with rfl | h
      · simp [fp]
      · exact hrow k h))
end Go.Proofs.Ytmnbnjkbbhjocaa

/- Contracts of the program's consumer functions that change a desk: Took, Settle. -/
namespace Go.Proofs.Ytmnbnjkbbhjocaa
open Go Go.Proofs.Ytmnbnjkbbhjocaa.St

theorem set70 : setOk Try.prog 70 .u64 = true := by kernel_rfl
theorem ptr68 : ptrOk Try.prog 68 = true := by kernel_rfl
theorem size57 : (Try.prog.info? 68).map (·.size) = some 1 := rowOk_size row57
theorem u57 : Try.prog.underlying 57 = some (.slice 68) := (rowOk_of row57).1

theorem index_ok (a : Option Addr) (l c : Nat) (w : World) (ws : List Wish) (hr : w.ownsRow 0 68 1 (.slice a l c) ws.length (ws.map Wish.ptr)) (hws : ∀ x ∈ ws, ∃ cs t, w.heap[x.p]? = some (.cells cs t (0, 0)))
    (hnd : (ws.map (·.p)).Nodup) (i : Nat) (hi : i < ws.length) (R : Value → World → Prop) (h : ∀ w', Mod no w w' → R (.int .i64 i) w') :
    Ca Try.prog 30 #[.slice a l c, .pointer (some ⟨ws[i].p, 0, none⟩)] w R := by
  obtain ⟨hl, _, hlc, hc⟩ := row_len hr
  refine ca30 a l c _ w R ?_
  refine ⟨fun x w' => ∃ k : Nat, x = k ∧ k ≤ i ∧ Mod no w w', fun x _ => ((l : Int) - x).toNat, ⟨0, rfl, Nat.zero_le _, Mod.refl _ _⟩, ?_⟩
  rintro _ x w4 ⟨k, rfl, hk, hm⟩
  have hlt : k < ws.length := by omega
  rw [show decide ((k : Int) < l) = true from decide_eq_true (by omega)]
  obtain ⟨g, rfl, hcell⟩ := row_at (row_mod hr hm fun _ _ => id) (i := k) (v := ws[k].ptr) (by simp [hlt])
  refine ⟨_, rfl, by omega, by omega, some ⟨ws[k].p, 0, none⟩, by simpa [Wish.ptr] using hcell, ?_⟩
  obtain ⟨_, _, hp1⟩ := hws _ (List.getElem_mem hi)
  obtain ⟨_, _, hp2⟩ := hws _ (List.getElem_mem hlt)
  refine ptrEq_ok ptr68 (hm.at' hp1) (hm.at' hp2) (ifK_of (fun hb => ?_) (fun hb => ?_))
  · have e : ws[i].p = ws[k].p := eq_of_beq hb
    have : i = k := by
      exact (List.getElem_inj (xs := ws.map (·.p)) (h₀ := by simpa using hi) (h₁ := by simpa using hlt) hnd).1 (by simpa using e)
    subst this
    exact h w4 hm
  · have hne : k ≠ i := fun e => by subst e; simp at hb
    have e : IntKind.i64.wrap ((k : Int) + 1) = ((k + 1 : Nat) : Int) := by rw [wrap64 (by omega) (by omega)]; omega
    rw [e]
    exact ⟨⟨k + 1, rfl, by omega, hm⟩, by simp only; omega⟩

def holdsB (q : ByteArray) (tag : Int) (x : One) : Bool := (x.queue.toList == q.toList) && x.tags.contains tag

theorem asks_holds (w : World) (q : ByteArray) (tag : Int) (b1 b2 : Nat) (y x : Wish) (h1 : w.heap[b1]? = some (.cells #[.pointer (some ⟨y.p, 0, none⟩)] 68 (0, 0))) (h2 : w.heap[b2]? = some (.cells #[.int .u64 tag] 27 (0, 0)))
    (hy : WishAt w y) (hq : y.queue = q) (hx : WishAt w x) :
    Asks (.func (.func 29) #[] #[.pointer (some ⟨b1, 0, none⟩), .pointer (some ⟨b2, 0, none⟩)]) w x (holdsB q tag x.one) := by
  intro w' hm R hR
  refine ca29 _ _ _ w' R ?_
  intro w0 e
  subst e
  have hm' := Mod.drew w'
  have hR' := hR _ hm'
  have hc := hm'.at' (hm.at' hx.cell)
  have hcy := hm'.at' (hm.at' hy.cell)
  refine ⟨x.queue, by rw [cl1 hc]; rfl, some ⟨y.p, 0, none⟩, by rw [cl (hm'.at' (hm.at' h1))]; rfl, y.queue, by rw [cl1 hcy]; rfl, ?_⟩
  rw [hq]
  refine ifK_of (fun hb => ?_) (fun hb => ?_)
  · refine ⟨some x.m, by rw [cl1 hc]; rfl, tag, by rw [cl (hm'.at' (hm.at' h2))]; rfl, _, _, set_has set70 (hx.tags.mod (hm.trans hm') id) tag, _, rfl, ?_⟩
    rw [holdsB, show (x.one.queue.toList == q.toList) = true from hb, Bool.true_and] at hR'
    exact hR'
  · rw [holdsB, show (x.one.queue.toList == q.toList) = false from hb, Bool.false_and] at hR'
    exact hR'

def tookE (l : List One) (client tag : Int) : Int :=
  match l.find? (·.client == client) with
  | none => 3
  | some x => if decide ((x.tags.length : Int) ≥ x.most) then 5 else if (l.find? (holdsB x.queue tag)).isSome then 4 else if tag == 0 then 2 else 0
/-- A thing goes to the line's end, changed. -/
def toEnd (l : List One) (φ : One → Bool) (f : One → One) : List One :=
  match l.findIdx? φ with
  | none => l
  | some i => l.take i ++ (l.drop (i + 1) ++ ((l.drop i).take 1).map f)
theorem drop_mid {α : Type} (a b : List α) (y : α) : (a ++ y :: b).drop (a.length + 1) = b := by
  rw [show a ++ y :: b = (a ++ [y]) ++ b by simp]
  exact List.drop_left' (by simp)
theorem toEnd_at {l a b : List One} {y : One} {φ : One → Bool} (f : One → One) (hl : l = a ++ y :: b) (hi : l.findIdx? φ = some a.length) : toEnd l φ f = a ++ (b ++ [f y]) := by
  rw [toEnd, hi, hl]
  simp only []
  rw [drop_mid]
  simp
def tookL (l : List One) (client tag : Int) : List One :=
  if tookE l client tag = 0 then toEnd l (·.client == client) fun x => { x with tags := x.tags ++ [tag] } else l

theorem fpW_append (a b : List Wish) : fpW (a ++ b) = fpW a ++ fpW b := by simp [fpW]

theorem mem_fp_row {d : Nat} {row : Option Addr} {ws : List Wish} {k : Nat} (h : rowB row k) : fp d row ws k := by simp [rowB] at h; simp [fp, h]
theorem mem_fp_p {d : Nat} {row : Option Addr} {ws : List Wish} {x : Wish} (h : x ∈ ws) : fp d row ws x.p := by
  simp only [fp, fpW, List.mem_cons, List.mem_append, List.mem_flatMap]; exact .inr (.inr ⟨x, h, by simp⟩)
theorem mem_fp_m {d : Nat} {row : Option Addr} {ws : List Wish} {x : Wish} (h : x ∈ ws) : fp d row ws x.m := by
  simp only [fp, fpW, List.mem_cons, List.mem_append, List.mem_flatMap]; exact .inr (.inr ⟨x, h, by simp⟩)

theorem nodup_p : ∀ {ws : List Wish}, (fpW ws).Nodup → (ws.map (·.p)).Nodup
  | [], _ => by simp
  | x :: ws, h => by
    simp only [fpW, List.flatMap_cons] at h
    rw [List.nodup_append] at h
    rw [List.map_cons, List.nodup_cons]
    refine ⟨fun hm => ?_, nodup_p h.2.1⟩
    obtain ⟨y, hy, e⟩ := List.mem_map.1 hm
    exact h.2.2 x.p (by simp) y.p (by simp only [List.mem_flatMap]; exact ⟨y, hy, by simp⟩) e.symm

theorem DeskAt.nd {w : World} {d : Nat} {row : Option Addr} {ws : List Wish} (h : DeskAt w d row ws) : (fpW ws).Nodup := by
  have := h.apart
  rw [List.nodup_cons, List.nodup_append] at this
  exact this.2.2.1

theorem DeskAt.ne_row {w : World} {d : Nat} {row : Option Addr} {ws : List Wish} (h : DeskAt w d row ws) : ¬ rowB row d ∧ (∀ x ∈ ws, x.p ≠ d ∧ x.m ≠ d ∧ ¬ rowB row x.p ∧ ¬ rowB row x.m) := by
  have hnd := h.apart
  rw [List.nodup_cons, List.nodup_append] at hnd
  have hr : ∀ k, rowB row k → k ∈ (row.map (·.block)).toList := fun k hk => by simp [rowB] at hk; simp [hk]
  refine ⟨fun hk => hnd.1 (by simp only [List.mem_append]; exact .inl (hr d hk)), fun x hx => ?_⟩
  have hp : x.p ∈ fpW ws := by simp only [fpW, List.mem_flatMap]; exact ⟨x, hx, by simp⟩
  have hm : x.m ∈ fpW ws := by simp only [fpW, List.mem_flatMap]; exact ⟨x, hx, by simp⟩
  exact ⟨fun e => hnd.1 (by rw [← e]; simp [hp]), fun e => hnd.1 (by rw [← e]; simp [hm]), fun hk => hnd.2.2.2 _ (hr _ hk) _ hp rfl, fun hk => hnd.2.2.2 _ (hr _ hk) _ hm rfl⟩

/-- In blocks that are no other's, each block belongs to one. -/
theorem fpW_apart {a b : List Wish} {x y : Wish} (h : (fpW (a ++ x :: b)).Nodup) (hy : y ∈ a ++ b) : x.m ≠ y.p ∧ x.m ≠ y.m ∧ x.p ≠ y.p ∧ x.p ≠ y.m ∧ x.p ≠ x.m := by
  have hp : (fpW ((a ++ b) ++ [x])).Nodup := by
    have e1 : fpW (a ++ x :: b) = fpW a ++ ([x.p, x.m] ++ fpW b) := by simp [fpW]
    have e2 : fpW (a ++ b ++ [x]) = fpW a ++ (fpW b ++ [x.p, x.m]) := by simp [fpW]
    rw [e1] at h
    rw [e2]
    exact (List.Perm.nodup_iff (List.Perm.append_left _ List.perm_append_comm)).1 h
  rw [fpW_append, List.nodup_append] at hp
  have h1 : y.p ∈ fpW (a ++ b) := by simp only [fpW, List.mem_flatMap]; exact ⟨y, hy, by simp⟩
  have h2 : y.m ∈ fpW (a ++ b) := by simp only [fpW, List.mem_flatMap]; exact ⟨y, hy, by simp⟩
  have h3 := hp.2.1
  simp [fpW] at h3
  exact ⟨fun e => hp.2.2 _ h1 x.m (by simp [fpW]) e.symm, fun e => hp.2.2 _ h2 x.m (by simp [fpW]) e.symm, fun e => hp.2.2 _ h1 x.p (by simp [fpW]) e.symm, fun e => hp.2.2 _ h2 x.p (by simp [fpW]) e.symm, h3⟩

theorem findIdx_one (ws : List Wish) (φ : One → Bool) : (ws.findIdx? fun x => φ x.one) = (ws.map Wish.one).findIdx? φ := by
  rw [List.findIdx?_map]; rfl

theorem find_split {α : Type} {φ : α → Bool} {ws : List α} {x : α} (h : ws.find? φ = some x) : ∃ a b, ws = a ++ x :: b ∧ ws.findIdx? φ = some a.length ∧ φ x = true := by
  rw [find_get] at h
  cases hi : ws.findIdx? φ with
  | none => rw [hi] at h; cases h
  | some i =>
    rw [hi] at h
    obtain ⟨hlt, hb, _⟩ := List.findIdx?_eq_some_iff_getElem.1 hi
    simp only at h
    rw [List.getElem?_eq_getElem hlt] at h
    injection h with h
    subst h
    refine ⟨ws.take i, ws.drop (i + 1), ?_, ?_, hb⟩
    · rw [← List.drop_eq_getElem_cons hlt, List.take_append_drop]
    · rw [List.length_take, Nat.min_eq_left (by omega)]

/-- A desk whose one goes to the line's end. -/
theorem desk_end {w w' : World} {d : Nat} {row : Option Addr} {ws : List Wish} {F : Nat → Prop} {a b : List Wish} {x x' : Wish} {sl sc : Nat} {l' : List One} (hda : DeskAt w d row ws) (hab : ws = a ++ x :: b) (hp : x'.p = x.p) (hm : x'.m = x.m)
    (hF : ∀ k, fp d row ws k → F k) (hc : w'.heap[d]? = some (.cells #[.slice row sl sc, .bool true] 59 (0, 0)))
    (hr : w'.ownsRow 0 68 1 (.slice row sl sc) ws.length (((ws.map Wish.ptr).take a.length ++ ((ws.map Wish.ptr).drop (a.length + 1) ++ (ws.map Wish.ptr).drop (ws.length - 1))).set (sl - 1) x.ptr))
    (hsl : sl = ws.length) (hw : ∀ y ∈ a ++ b, WishAt w' y) (hx' : WishAt w' x') (hl : (a ++ (b ++ [x'])).map Wish.one = l') : Dk w' d F l' := by
  have hlen : (a ++ (b ++ [x'])).length = ws.length := by rw [hab]; simp
  have hfp : fpW (a ++ (b ++ [x'])) = fpW a ++ (fpW b ++ [x.p, x.m]) := by rw [fpW_append, fpW_append]; simp [fpW, hp, hm]
  have hfp0 : fpW ws = fpW a ++ ([x.p, x.m] ++ fpW b) := by rw [hab, fpW_append]; simp [fpW]
  have hperm : (fpW ws).Perm (fpW (a ++ (b ++ [x']))) := by rw [hfp, hfp0]; exact List.Perm.append_left _ List.perm_append_comm
  refine ⟨row, a ++ (b ++ [x']), ⟨⟨sl, sc, hc, ?_⟩, ?_, ?_⟩, hl, ?_⟩
  · rw [hlen]
    have e : ((ws.map Wish.ptr).take a.length ++ ((ws.map Wish.ptr).drop (a.length + 1) ++ (ws.map Wish.ptr).drop (ws.length - 1))).set (sl - 1) x.ptr = (a ++ (b ++ [x'])).map Wish.ptr := by
      obtain ⟨z, hz⟩ : ∃ z, (ws.map Wish.ptr).drop (ws.length - 1) = [z] := List.length_eq_one_iff.1 (by rw [List.length_drop, List.length_map, hab]; simp; omega)
      rw [hz, hsl]
      subst hab
      have h1 : ((a ++ x :: b).map Wish.ptr).take a.length = a.map Wish.ptr := by simp
      have h2 : ((a ++ x :: b).map Wish.ptr).drop (a.length + 1) = b.map Wish.ptr := by
        rw [show a ++ x :: b = (a ++ [x]) ++ b by simp, List.map_append]
        exact List.drop_left' (by simp)
      rw [h1, h2]
      have h3 : (a ++ x :: b).length - 1 = (a.map Wish.ptr ++ b.map Wish.ptr).length := by simp
      rw [h3, ← List.append_assoc, List.set_append_right _ _ (Nat.le_refl _)]
      simp [Wish.ptr, hp]
    rw [← e]
    exact hr
  · intro y hy
    rw [← List.append_assoc, List.mem_append] at hy
    rcases hy with hy | hy
    · exact hw y hy
    · simp at hy; subst hy; exact hx'
  · have h := hda.apart
    rw [List.nodup_cons, List.nodup_append] at h ⊢
    refine ⟨fun hm => h.1 ?_, h.2.1, hperm.nodup_iff.1 h.2.2.1, fun p hp' q hq => h.2.2.2 p hp' q (hperm.mem_iff.2 hq)⟩
    rw [List.mem_append] at hm ⊢
    exact hm.imp id fun h => hperm.mem_iff.2 h
  · intro k hk
    refine hF k ?_
    simp only [fp, List.mem_cons, List.mem_append] at hk ⊢
    exact hk.imp id fun h => h.imp id fun h => hperm.mem_iff.2 h

theorem took_ok (d : Nat) (F : Nat → Prop) (l : List One) (client tag : Int) (w : World) (hd : Dk w d F l) (R : Value → World → Prop)
    (h : ∀ w', Dk w' d F (tookL l client tag) → Mod F w w' → R (.int .i64 (tookE l client tag)) w') :
    Ca Try.prog 11 #[.pointer (some ⟨d, 0, none⟩), .int .i64 client, .int .u64 tag] w R := by
  have same : ∀ w' e, Mod no w w' → tookE l client tag = e → e ≠ 0 → R (.int .i64 e) w' := by
    intro w' e hm he hne
    have h' := h w' (by rw [tookL, he, if_neg hne]; exact hd.no hm) hm.of_no
    rwa [he] at h'
  obtain ⟨row, ws, hda, hl, hF⟩ := hd
  obtain ⟨sl, sc, hc, hr⟩ := hda.cell
  obtain ⟨hsl, _, hlc, hcm⟩ := row_len hr
  refine ca11 _ client tag w R ?_
  intro w0 e0
  have m0 : Mod no w w0 := by subst e0; exact Mod.alloc _ _
  have b0 : w0.heap[w.heap.size]? = some (.cells #[.int .u64 tag] 27 (0, 0)) := by subst e0; exact new_at _ _
  clear e0
  refine made_of d w0 _ (m0.at' hc) rfl ⟨true, rfl, ?_⟩
  refine ifK_of (fun hb => by cases hb) (fun _ => ?_)
  refine of_ok d row ws client w0 (hda.no m0) _ fun w5 m5 => ⟨_, rfl, ?_⟩
  have m5' := m0.trans m5
  intro w7 e7
  have m7 : Mod no w5 w7 := by subst e7; exact Mod.alloc _ _
  have b7 : w7.heap[w5.heap.size]? = some (.cells #[.pointer none] 68 (0, 0)) := by subst e7; exact new_at _ _
  clear e7
  refine ⟨⟨_, by rw [cl1 b7]; rfl⟩, fz1 b7 _, ?_⟩
  intro w9 e9
  have m9 : Mod no w5 w9 := by subst e9; exact m7.new (Mod.set1 _ _ _ _) fun k hk => by cases hk; exact Nat.le_refl _
  have b9 : w9.heap[w5.heap.size]? = some (.cells #[.pointer (wptr (ws.find? (·.client == client)))] 68 (0, 0)) := by subst e9; rw [set1 b7]; rfl
  clear e9
  have m9' := m5'.trans m9
  refine ⟨_, by rw [cl b9]; rfl, ?_⟩
  have hfl : l.find? (·.client == client) = (ws.find? (·.client == client)).map Wish.one := by rw [← hl, ← find_one]; rfl
  cases hf : ws.find? (·.client == client) with
  | none =>
    rw [hf] at hfl
    exact same _ _ m9' (by simp only [tookE, hfl]; rfl) (by decide)
  | some x =>
  rw [hf] at b9 hfl
  have hx : x ∈ ws := List.mem_of_find?_eq_some hf
  show atW (World.drew w9) _
  intro w11 e11
  have m11 : Mod no w9 w11 := by subst e11; exact Mod.drew _
  clear e11
  have b11 := m11.at' b9
  have m11' := m9'.trans m11
  have hw11 := (hda.wish x hx).mod m11' id id
  obtain ⟨es, clock, hes, hsz⟩ := hw11.tags.size
  refine ⟨some ⟨x.p, 0, none⟩, by rw [cl b11]; rfl, some x.m, by rw [cl1 hw11.cell]; rfl, some ⟨x.p, 0, none⟩, by rw [cl b11]; rfl, x.most, by rw [cl1 hw11.cell]; rfl, es, clock, hes, by rw [cl1 b11]; rfl, by rw [cl2 hw11.cell]; rfl, ?_⟩
  have hsz' : es.size = x.tags.length := by rw [hsz]; simp [setKs, intKs]
  rw [hsz']
  refine ifK_of (fun h1 => same _ _ m11' (by simp only [tookE, hfl, Option.map_some]; exact if_pos h1) (by decide)) (fun h1 => ?_)
  have b0' := ((m5.trans m9).trans m11).at' b0
  refine find_ok d row ws _ w11 (fun y => holdsB x.queue tag y.one) (hda.no m11') (fun y hy => asks_holds w11 x.queue tag _ _ x y b11 b0' hw11 rfl ((hda.wish y hy).mod m11' id id)) _ fun w20 m20 => ⟨_, rfl, ?_⟩
  have m20' := m11'.trans m20
  have hf2 : (wptr (ws.find? fun y => holdsB x.queue tag y.one)).isNone = !(l.find? (holdsB x.queue tag)).isSome := by
    rw [← hl, ← find_one]
    cases ws.find? (fun y => holdsB x.queue tag y.one) <;> rfl
  rw [hf2, Bool.not_not]
  refine ifK_of (fun h2 => same _ _ m20' (by simp only [tookE, hfl, Option.map_some]; exact (if_neg (by rw [show decide ((x.one.tags.length : Int) ≥ x.one.most) = false from h1]; decide)).trans (if_pos h2)) (by decide)) (fun h2 => ?_)
  refine ⟨tag, by rw [cl (m20.at' b0')]; rfl, ?_⟩
  have hE : tookE l client tag = if tag == 0 then 2 else 0 := by
    simp only [tookE, hfl, Option.map_some]
    exact (if_neg (by rw [show decide ((x.one.tags.length : Int) ≥ x.one.most) = false from h1]; decide)).trans (if_neg (by rw [show (l.find? (holdsB x.one.queue tag)).isSome = false from h2]; decide))
  refine ifK_of (fun h3 => same _ _ m20' (by rw [hE, h3]; rfl) (by decide)) (fun h3 => ?_)
  rw [h3] at hE
  have hE : tookE l client tag = 0 := hE
  have hnot : tag ∉ x.tags := by
    intro hmem
    have : l.find? (holdsB x.queue tag) = none := by simpa using h2
    rw [List.find?_eq_none] at this
    have := this x.one (by rw [← hl]; exact List.mem_map_of_mem hx)
    simp [holdsB, Wish.one, hmem] at this
  intro w23 e23
  have m23 : Mod no w20 w23 := by subst e23; exact Mod.drew _
  clear e23
  have m23' := m20'.trans m23
  have b23 := (m20.trans m23).at' b11
  have hw23 := (hda.wish x hx).mod m23' id id
  obtain ⟨w28, hrun, m28, t28⟩ := set_add set70 hw23.tags hnot
  refine ⟨some ⟨x.p, 0, none⟩, by rw [cl b23]; rfl, some x.m, by rw [cl1 hw23.cell]; rfl, tag, by rw [cl ((m20.trans m23).at' b0')]; rfl, w28, hrun, ?_⟩
  intro w29 e29
  have m29 : Mod (on x.m) w23 w29 := by subst e29; exact m28.trans_no (Mod.drew _)
  have t29 : MapAt w29 x.m (setOf (x.tags ++ [tag])) := by subst e29; exact t28.mod (Mod.drew _) id
  clear e29
  obtain ⟨hdrow, hnr⟩ := hda.ne_row
  have hsx := hnr x hx
  have hc23 := m23'.at' hc
  have hr23 := row_mod hr m23' fun _ _ => id
  have hlt5 := m5'.size
  have hbox : w5.heap.size ≠ x.m := by have := hda.lt x.m (mem_fp_m hx); omega
  have hc29 := m29.at hc23 (fun e => hsx.2.1 e.symm)
  have hr29 := row_mod hr23 m29 fun k hk e => by cases e; exact hsx.2.2.2 hk
  have b29 := m29.at b23 hbox
  obtain ⟨a, b, hab, hidx, hcl⟩ := find_split hf
  have hap := fun y hy => fpW_apart (a := a) (b := b) (x := x) (y := y) (by rw [← hab]; exact hda.nd) hy
  have hi : a.length < ws.length := by rw [hab]; simp
  have hwi : ws[a.length] = x := by simp [hab]
  refine ⟨row, sl, sc, by rw [cl1 hc29]; rfl, some ⟨x.p, 0, none⟩, by rw [cl b29]; rfl, ?_⟩
  have hcells : ∀ y ∈ ws, ∃ cs t, w29.heap[y.p]? = some (.cells cs t (0, 0)) := by
    intro y hy
    refine ⟨_, _, m29.at (m23'.at' (hda.wish y hy).cell) fun e => ?_⟩
    rw [hab] at hy
    rcases List.mem_append.1 hy with h | h
    · exact (hap y (List.mem_append_left _ h)).1 e.symm
    · rcases List.mem_cons.1 h with rfl | h
      · have := fpW_apart (a := a) (b := b) (x := y) (y := y) (by rw [← hab]; exact hda.nd)
        have h5 : y.p ≠ y.m := by
          have hn := hda.nd
          rw [hab, fpW_append] at hn
          have := (List.nodup_append.1 hn).2.1
          simp only [fpW, List.flatMap_cons] at this
          have := (List.nodup_append.1 this).1
          simpa using this
        exact h5 e
      · exact (hap y (List.mem_append_right _ h)).1 e.symm
  have hix := index_ok row sl sc w29 ws hr29 hcells (nodup_p hda.nd) a.length hi
  rw [hwi] at hix
  refine hix _ fun w36 m36 => ⟨_, rfl, ?_⟩
  intro w38 e38
  have m38 : Mod no w36 w38 := by subst e38; exact Mod.drew _
  clear e38
  have m38' := m36.trans m38
  have hc38 := m38'.at' hc29
  have hr38 := row_mod hr29 m38' fun _ _ => id
  have b38 := m38'.at' b29
  have t38 := t29.mod m38' id
  refine ⟨row, sl, sc, by rw [cl1 hc38]; rfl, by omega, by omega, by omega, row, sl, sc, by rw [cl1 hc38]; rfl, ?_⟩
  have e1 : IntKind.i64.wrap ((a.length : Int) + 1) = ((a.length + 1 : Nat) : Int) := by rw [wrap64 (by omega) (by omega)]; omega
  rw [e1]
  refine ⟨by omega, by omega, by omega, ?_⟩
  have hone : ∀ v ∈ ws.map Wish.ptr, v.oneCell' = true := by
    intro v hv
    obtain ⟨y, _, rfl⟩ := List.mem_map.1 hv
    rfl
  obtain ⟨w48, v48, hcopy, m48, hr48⟩ := row_close (P := Try.prog) (t := 57) (ty := 3) u57 size57 hr38 hi hone
  refine ⟨_, w48, hcopy, _, rfl, ?_⟩
  intro w50 e50
  have m50 : Mod (rowB row) w38 w50 := by subst e50; exact m48.trans_no (Mod.drew _)
  have hr50 := row_mod hr48 (Mod.drew w48) fun _ _ => id
  rw [← e50] at hr50
  clear e50
  have hc50 := m50.at hc38 hdrow
  have hboxr : ¬ rowB row w5.heap.size := fun hk => by have := hda.lt _ (mem_fp_row hk); omega
  have b50 := m50.at b38 hboxr
  have t50 := t38.mod m50 hsx.2.2.2
  have e2 : IntKind.i64.wrap ((sl : Int) - 1) = ((sl - 1 : Nat) : Int) := by rw [wrap64 (by omega) (by omega)]; omega
  refine ⟨row, sl, sc, by rw [cl1 hc50]; rfl, row, sl, sc, by rw [cl1 hc50]; rfl, some ⟨x.p, 0, none⟩, by rw [cl b50]; rfl, ?_⟩
  rw [e2]
  obtain ⟨ad, had, hold, hfz, m62, hr62⟩ := row_put hr50 (i := sl - 1) (by omega) (x.ptr)
  refine ⟨ad, had, by omega, by omega, hold, hfz, ?_⟩
  intro w62 e62
  have e62 : w62 = w50.setCell ((ad.add ((sl - 1) * 1)).add 0) x.ptr := e62
  rw [← e62] at m62 hr62
  clear e62
  have mAll : Mod (fun k => k = x.m ∨ rowB row k) w w62 :=
    m23'.no_trans (((m29.mono fun k _ hk => .inl hk).trans_no m38').trans' (m50.trans m62) fun k _ hk => .inr hk)
  have h' := h w62 ?_ (mAll.mono fun k _ hk => hF k (by
    rcases hk with rfl | hk
    · exact mem_fp_m hx
    · exact mem_fp_row hk))
  · rw [hE] at h'; exact h'
  · have hx' : WishAt w62 { x with tags := x.tags ++ [tag] } := by
      have hpm : x.p ≠ x.m := by
        have hn := hda.nd
        rw [hab, fpW_append] at hn
        have := (List.nodup_append.1 hn).2.1
        simp only [fpW, List.flatMap_cons] at this
        have := (List.nodup_append.1 this).1
        simpa using this
      refine ⟨mAll.at (hda.wish x hx).cell ?_, t50.mod m62 hsx.2.2.2⟩
      rintro (e | e)
      · exact hpm e
      · exact hsx.2.2.1 e
    exact desk_end (x' := { x with tags := x.tags ++ [tag] }) hda hab rfl rfl hF (m62.at hc50 hdrow) hr62 (by omega) (fun y hy => (hda.wish y (by rw [hab]; rcases List.mem_append.1 hy with h | h <;> simp [h])).mod mAll
      (by have h1 := hap y hy; have h2 := hnr y (by rw [hab]; rcases List.mem_append.1 hy with h | h <;> simp [h])
          rintro (e | e)
          · exact h1.1 e.symm
          · exact h2.2.2.1 e)
      (by have h1 := hap y hy; have h2 := hnr y (by rw [hab]; rcases List.mem_append.1 hy with h | h <;> simp [h])
          rintro (e | e)
          · exact h1.2.1 e.symm
          · exact h2.2.2.2 e)) hx' (by
        have hi' : l.findIdx? (·.client == client) = some (a.map Wish.one).length := by rw [← hl, ← findIdx_one, List.length_map]; exact hidx
        rw [tookL, if_pos hE, toEnd_at _ (a := a.map Wish.one) (b := b.map Wish.one) (y := x.one) (by rw [← hl, hab]; simp) hi']
        simp [Wish.one])
end Go.Proofs.Ytmnbnjkbbhjocaa

/- Contracts of the program's consumer functions: Settle; and what a desk that no call made answers. -/
namespace Go.Proofs.Ytmnbnjkbbhjocaa
open Go Go.Proofs.Ytmnbnjkbbhjocaa.St

def settleE (l : List One) (client tag : Int) : Int :=
  match l.find? (·.client == client) with
  | none => 3
  | some x => if !x.tags.contains tag then 10 else 0
def settleQ (l : List One) (client tag : Int) : ByteArray :=
  match l.find? (·.client == client) with
  | none => ByteArray.mk #[]
  | some x => if !x.tags.contains tag then ByteArray.mk #[] else x.queue
/-- One changes where it stands. -/
def inPlace (l : List One) (φ : One → Bool) (f : One → One) : List One :=
  match l.findIdx? φ with
  | none => l
  | some i => l.take i ++ (((l.drop i).take 1).map f ++ l.drop (i + 1))
theorem inPlace_at {l a b : List One} {y : One} {φ : One → Bool} (f : One → One) (hl : l = a ++ y :: b) (hi : l.findIdx? φ = some a.length) : inPlace l φ f = a ++ f y :: b := by
  rw [inPlace, hi, hl]
  simp only []
  rw [drop_mid]
  simp
def settleL (l : List One) (client tag : Int) : List One :=
  if settleE l client tag = 0 then inPlace l (·.client == client) fun x => { x with tags := x.tags.erase tag } else l

theorem settle_ok (d : Nat) (F : Nat → Prop) (l : List One) (client tag : Int) (w : World) (hd : Dk w d F l) (R : Value → World → Prop)
    (h : ∀ w', Dk w' d F (settleL l client tag) → Mod F w w' → R (.tuple #[.string (settleQ l client tag), .int .i64 (settleE l client tag)]) w') :
    Ca Try.prog 22 #[.pointer (some ⟨d, 0, none⟩), .int .i64 client, .int .u64 tag] w R := by
  have same : ∀ w' e q, Mod no w w' → settleE l client tag = e → settleQ l client tag = q → e ≠ 0 → R (.tuple #[.string q, .int .i64 e]) w' := by
    intro w' e q hm he hq hne
    have h' := h w' (by rw [settleL, he, if_neg hne]; exact hd.no hm) hm.of_no
    rwa [he, hq] at h'
  obtain ⟨row, ws, hda, hl, hF⟩ := hd
  obtain ⟨sl, sc, hc, hr⟩ := hda.cell
  refine ca22 _ client tag w R ?_
  refine made_of d w _ hc rfl ⟨true, rfl, ?_⟩
  refine ifK_of (fun hb => by cases hb) (fun _ => ?_)
  refine of_ok d row ws client w hda _ fun w4 m4 => ⟨_, rfl, ?_⟩
  have hfl : l.find? (·.client == client) = (ws.find? (·.client == client)).map Wish.one := by rw [← hl, ← find_one]; rfl
  cases hf : ws.find? (·.client == client) with
  | none =>
    rw [hf] at hfl
    exact same _ _ _ m4 (by simp only [settleE, hfl]; rfl) (by simp only [settleQ, hfl]; rfl) (by decide)
  | some x =>
  rw [hf] at hfl
  have hx : x ∈ ws := List.mem_of_find?_eq_some hf
  have hw4 := (hda.wish x hx).mod m4 id id
  refine ⟨some x.m, by rw [cl1 hw4.cell]; rfl, _, _, set_has set70 hw4.tags tag, _, rfl, ?_⟩
  refine ifK_of (fun h1 => same _ _ _ m4 (by simp only [settleE, hfl, Option.map_some]; exact if_pos h1) (by simp only [settleQ, hfl, Option.map_some]; exact if_pos h1) (by decide)) (fun h1 => ?_)
  have hE : settleE l client tag = 0 := by simp only [settleE, hfl, Option.map_some]; exact if_neg (by rw [show (!x.one.tags.contains tag) = false from h1]; decide)
  have hQ : settleQ l client tag = x.queue := by simp only [settleQ, hfl, Option.map_some]; exact if_neg (by rw [show (!x.one.tags.contains tag) = false from h1]; decide)
  obtain ⟨w14, hrun, m14, t14⟩ := set_del (u := 27) (ty := 0) set70 hw4.tags tag
  obtain ⟨a, b, hab, hidx, hcl⟩ := find_split hf
  have hap := fun y hy => fpW_apart (a := a) (b := b) (x := x) (y := y) (by rw [← hab]; exact hda.nd) hy
  have hpm : x.p ≠ x.m := by
    have hn := hda.nd
    rw [hab, fpW_append] at hn
    have := (List.nodup_append.1 hn).2.1
    simp only [fpW, List.flatMap_cons] at this
    have := (List.nodup_append.1 this).1
    simpa using this
  have mAll := m4.no_trans m14
  have hc14 := mAll.at (hda.wish x hx).cell hpm
  refine ⟨some x.m, by rw [cl1 hw4.cell]; rfl, _, w14, hrun, rfl, x.queue, by rw [cl1 hc14]; rfl, ?_⟩
  obtain ⟨hdrow, hnr⟩ := hda.ne_row
  have hsx := hnr x hx
  have h' := h w14 ?_ (mAll.mono fun k _ hk => hF k (by cases hk; exact mem_fp_m hx))
  · rw [hE, hQ] at h'; exact h'
  · have hfp : fpW (a ++ { x with tags := x.tags.erase tag } :: b) = fpW ws := by rw [hab]; simp [fpW]
    have hfp' : ∀ k, fp d row (a ++ { x with tags := x.tags.erase tag } :: b) k ↔ fp d row ws k := by intro k; simp only [fp, hfp]
    have hlen : (a ++ { x with tags := x.tags.erase tag } :: b).length = ws.length := by rw [hab]; simp
    refine ⟨row, a ++ { x with tags := x.tags.erase tag } :: b, ⟨⟨sl, sc, mAll.at hc (fun e => hsx.2.1 e.symm), ?_⟩, ?_, ?_⟩, ?_, ?_⟩
    · rw [hlen]
      have e : (a ++ { x with tags := x.tags.erase tag } :: b).map Wish.ptr = ws.map Wish.ptr := by rw [hab]; simp [Wish.ptr]
      rw [e]
      exact row_mod hr mAll fun k hk e => by cases e; exact hsx.2.2.2 hk
    · intro y hy
      rcases List.mem_append.1 hy with h | h
      · exact (hda.wish y (by rw [hab]; simp [h])).mod mAll (fun e => (hap y (List.mem_append_left _ h)).1 e.symm) (fun e => (hap y (List.mem_append_left _ h)).2.1 e.symm)
      · rcases List.mem_cons.1 h with rfl | h
        · exact ⟨hc14, t14⟩
        · exact (hda.wish y (by rw [hab]; simp [h])).mod mAll (fun e => (hap y (List.mem_append_right _ h)).1 e.symm) (fun e => (hap y (List.mem_append_right _ h)).2.1 e.symm)
    · rw [hfp]; exact hda.apart
    · have hi' : l.findIdx? (·.client == client) = some (a.map Wish.one).length := by rw [← hl, ← findIdx_one, List.length_map]; exact hidx
      rw [settleL, if_pos hE, inPlace_at _ (a := a.map Wish.one) (b := b.map Wish.one) (y := x.one) (by rw [← hl, hab]; simp) hi']
      simp [Wish.one]
    · intro k hk; exact hF k ((hfp' k).1 hk)
end Go.Proofs.Ytmnbnjkbbhjocaa

/- What a desk that no call made answers; the document's examples. -/
namespace Go.Proofs.Ytmnbnjkbbhjocaa
open Go Go.Proofs.Ytmnbnjkbbhjocaa.St

/-- No call made this desk. -/
def Um (w : World) (d : Option Addr) : Prop := d = none ∨ ∃ k, d = some ⟨k, 0, none⟩ ∧ w.heap[k]? = some (.cells #[.slice none 0 0, .bool false] 59 (0, 0))
theorem Um.no {w w' : World} {d : Option Addr} (h : Um w d) (hm : Mod no w w') : Um w' d := h.imp id fun ⟨k, e, hk⟩ => ⟨k, e, hm.at' hk⟩

section
variable {w : World} {d : Option Addr} {R : Value → World → Prop}
theorem made_um (h : Um w d) (hR : R (.bool false) w) : Ca Try.prog 24 #[.pointer d] w R := by
  rcases h with rfl | ⟨k, rfl, hk⟩
  · exact made_nil w R hR
  · exact made_of k w R hk rfl hR
theorem of_um (client : Int) (h : Um w d) (hR : ∀ w', Mod no w w' → R (.pointer none) w') : Ca Try.prog 26 #[.pointer d, .int .i64 client] w R := by
  rcases h with rfl | ⟨k, rfl, hk⟩
  · exact of_nil client w R hR
  · exact of_zero k client w R hk hR
theorem next_um (q : ByteArray) (h : Um w d) (hR : ∀ w', Mod no w w' → R (.tuple #[.int .i64 0, .bool false]) w') : Ca Try.prog 10 #[.pointer d, .string q] w R := by
  rcases h with rfl | ⟨k, rfl, hk⟩
  · exact next_nil q w R hR
  · exact next_zero k q w R hk hR
theorem add_um (client : Int) (q : ByteArray) (most : Int) (h : Um w d) (hR : R (.int .i64 1) w) : Ca Try.prog 9 #[.pointer d, .int .i64 client, .string q, .int .i64 most] w R := by
  refine ca9 d client q most w R ?_
  exact made_um h ⟨false, rfl, hR⟩
theorem took_um (client tag : Int) (h : Um w d) (hR : ∀ w', Mod no w w' → R (.int .i64 1) w') : Ca Try.prog 11 #[.pointer d, .int .i64 client, .int .u64 tag] w R := by
  refine ca11 d client tag w R ?_
  intro w0 e0
  have m0 : Mod no w w0 := by subst e0; exact Mod.alloc _ _
  exact made_um (h.no m0) ⟨false, rfl, hR _ m0⟩
theorem settle_um (client tag : Int) (h : Um w d) (hR : R (.tuple #[.string (ByteArray.mk #[]), .int .i64 1]) w) : Ca Try.prog 22 #[.pointer d, .int .i64 client, .int .u64 tag] w R := by
  refine ca22 d client tag w R ?_
  exact made_um h ⟨false, rfl, hR⟩
theorem clients_um (h : Um w d) (hR : R (.slice none 0 0) w) : Ca Try.prog 13 #[.pointer d] w R := by
  refine ca13 d w R ?_
  exact made_um h ⟨false, rfl, hR⟩
theorem forget_um (q : ByteArray) (h : Um w d) (hR : R (.slice none 0 0) w) : Ca Try.prog 23 #[.pointer d, .string q] w R := by
  refine ca23 d q w R ?_
  refine clients_um h ⟨none, 0, 0, rfl, ?_⟩
  refine ⟨fun a l c x w' => a = none ∧ l = 0 ∧ c = 0 ∧ x = 0 ∧ w' = w, fun _ _ _ _ _ => 0, ⟨rfl, rfl, rfl, rfl, rfl⟩, ?_⟩
  rintro _ a l c x w' ⟨rfl, rfl, rfl, rfl, rfl⟩
  exact hR

/-- Two cells of a new block are written. -/
theorem two {w2 : World} {k : Nat} {v0 v1 u0 u1 : Value} {t : TypeId} (hk : w2.heap[k]? = some (.cells #[v0, v1] t (0, 0))) {K : World → Prop}
    (h : ∀ w7, w7.heap[k]? = some (.cells #[u0, u1] t (0, 0)) → Mod (on k) w2 w7 → K w7) :
    (∃ v, w2.cell? (Addr.add ⟨k, 0, none⟩ 0) = some v) ∧ w2.frozen? (Addr.add ⟨k, 0, none⟩ 0) = false ∧ atW (w2.setCell (Addr.add ⟨k, 0, none⟩ 0) u0) fun w5 =>
    (∃ v, w5.cell? (Addr.add ⟨k, 0, none⟩ 1) = some v) ∧ w5.frozen? (Addr.add ⟨k, 0, none⟩ 1) = false ∧ atW (w5.setCell (Addr.add ⟨k, 0, none⟩ 1) u1) K := by
  refine ⟨⟨_, by rw [cl1 hk]; rfl⟩, fz1 hk _, ?_⟩
  intro w5 e5
  have m5 : Mod (on k) w2 w5 := by subst e5; exact Mod.set1 _ _ _ _
  have b5 : w5.heap[k]? = some (.cells #[u0, v1] t (0, 0)) := by subst e5; rw [set1 hk]; rfl
  refine ⟨⟨_, by rw [cl1 b5]; rfl⟩, fz1 b5 _, ?_⟩
  intro w7 e7
  have m7 : Mod (on k) w5 w7 := by subst e7; exact Mod.set1 _ _ _ _
  have b7 : w7.heap[k]? = some (.cells #[u0, u1] t (0, 0)) := by subst e7; rw [set1 b5]; rfl
  exact h w7 b7 (m5.trans m7)

/-- Two cells of a block that is new are set; what was old is as it was. -/
theorem fresh2 {w : World} {u0 u1 z0 z1 : Value} {t : TypeId} {K : World → Prop}
    (h : ∀ w7, w7.heap[w.heap.size]? = some (.cells #[u0, u1] t (0, 0)) → Mod no w w7 → K w7) : atW (w.alloc (.cells #[z0, z1] t (0, 0))) fun w0 =>
    (∃ v, w0.cell? (Addr.add ⟨w.heap.size, 0, none⟩ 0) = some v) ∧ w0.frozen? (Addr.add ⟨w.heap.size, 0, none⟩ 0) = false ∧ atW (w0.setCell (Addr.add ⟨w.heap.size, 0, none⟩ 0) u0) fun w5 =>
    (∃ v, w5.cell? (Addr.add ⟨w.heap.size, 0, none⟩ 1) = some v) ∧ w5.frozen? (Addr.add ⟨w.heap.size, 0, none⟩ 1) = false ∧ atW (w5.setCell (Addr.add ⟨w.heap.size, 0, none⟩ 1) u1) K := by
  intro w0 e0
  have m0 : Mod no w w0 := by subst e0; exact Mod.alloc _ _
  have b0 : w0.heap[w.heap.size]? = some (.cells #[z0, z1] t (0, 0)) := by subst e0; exact new_at _ _
  exact two b0 fun w7 b7 m7 => h w7 b7 (m0.new m7 fun k hk => by cases hk; exact Nat.le_refl _)

theorem drop_um (client : Int) (h : Um w d) (hR : ∀ w', Mod no w w' → R (.tuple #[.agg #[.string (ByteArray.mk #[]), .slice none 0 0], .int .i64 1]) w') : Ca Try.prog 12 #[.pointer d, .int .i64 client] w R := by
  refine ca12 d client w R ?_
  intro w0 e0
  have m0 : Mod no w w0 := by subst e0; exact Mod.alloc _ _
  have b0 : w0.heap[w.heap.size]? = some (.cells #[.string (ByteArray.mk #[]), .slice none 0 0] 33 (0, 0)) := by subst e0; exact new_at _ _
  refine made_um (h.no m0) ⟨false, rfl, ?_⟩
  refine two b0 fun w7 b7 m7 => ?_
  exact ⟨_, by rw [cl1 b7]; rfl, _, _, _, by rw [cl1 b7]; rfl, hR w7 (m0.new m7 fun k hk => by cases hk; exact Nat.le_refl _)⟩

theorem hold_um (client : Int) (h : Um w d) (hR : ∀ w', Mod no w w' → R (.tuple #[.agg #[.string (ByteArray.mk #[]), .slice none 0 0], .bool false]) w') : Ca Try.prog 19 #[.pointer d, .int .i64 client] w R := by
  refine ca19 d client w R ?_
  intro w0 e0
  have m0 : Mod no w w0 := by subst e0; exact Mod.alloc _ _
  have b0 : w0.heap[w.heap.size]? = some (.cells #[.string (ByteArray.mk #[]), .slice none 0 0] 33 (0, 0)) := by subst e0; exact new_at _ _
  refine of_um client (h.no m0) fun w2 m2 => ⟨none, rfl, ?_⟩
  refine two (m2.at' b0) fun w7 b7 m7 => ?_
  exact ⟨_, by rw [cl1 b7]; rfl, _, _, _, by rw [cl1 b7]; rfl, hR w7 ((m0.trans m2).new m7 fun k hk => by cases hk; exact Nat.le_refl _)⟩
end
end Go.Proofs.Ytmnbnjkbbhjocaa

/- The document's examples ('lives'): they are as it says. -/
namespace Go.Proofs.Ytmnbnjkbbhjocaa
open Go Go.Proofs.Ytmnbnjkbbhjocaa.St

def roomO (queue : ByteArray) (x : One) : Bool := (x.queue.toList == queue.toList) && decide ((x.tags.length : Int) < x.most)
def nextC (l : List One) (queue : ByteArray) : Int := ((l.find? (roomO queue)).map (·.client)).getD 0
def nextB (l : List One) (queue : ByteArray) : Bool := (l.find? (roomO queue)).isSome

theorem next_dk (d : Nat) (F : Nat → Prop) (l : List One) (queue : ByteArray) (w : World) (hd : Dk w d F l) (R : Value → World → Prop)
    (h : ∀ w', Mod no w w' → R (.tuple #[.int .i64 (nextC l queue), .bool (nextB l queue)]) w') :
    Ca Try.prog 10 #[.pointer (some ⟨d, 0, none⟩), .string queue] w R := by
  obtain ⟨row, ws, hda, hl, hF⟩ := hd
  refine next_ok d row ws queue w hda R fun w' hm => ?_
  have h' := h w' hm
  have e : l.find? (roomO queue) = (ws.find? (roomy queue)).map Wish.one := by rw [← hl, ← find_one]; rfl
  rw [nextC, nextB, e, Option.map_map, Option.isSome_map] at h'
  exact h'

theorem Dk.mono {w : World} {d : Nat} {F G : Nat → Prop} {l : List One} (h : Dk w d F l) (hFG : ∀ k, F k → G k) : Dk w d G l :=
  let ⟨row, ws, hd, hl, hF⟩ := h
  ⟨row, ws, hd, hl, fun k hk => hFG k (hF k hk)⟩

/-- What is new since w0. -/
def new (w0 : World) : Nat → Prop := fun k => w0.heap.size ≤ k
theorem news {w0 w w' : World} (h : Mod no w0 w) (h' : Mod (new w0) w w') : Mod no w0 w' := h.new h' fun _ hk => hk

theorem new_dk (w : World) (R : Value → World → Prop) (h : ∀ w', Mod no w w' → Dk w' w.heap.size (new w) [] → R (.pointer (some ⟨w.heap.size, 0, none⟩)) w') : Ca Try.prog 8 #[] w R :=
  new_ok w R fun w' hm hd => h w' hm ⟨none, [], hd, rfl, fun k hk => by simp [fp, fpW] at hk; subst hk; exact Nat.le_refl _⟩

/-- Add, of a desk that is all new since w0. -/
theorem add_dk (w0 : World) (d : Nat) (l : List One) (client : Int) (queue : ByteArray) (most : Int) (w : World) (hm : Mod no w0 w) (hd : Dk w d (new w0) l) (R : Value → World → Prop)
    (h : ∀ w', Mod no w0 w' → Dk w' d (new w0) (addL l client queue most) → R (.int .i64 (addE l client queue most)) w') :
    Ca Try.prog 9 #[.pointer (some ⟨d, 0, none⟩), .int .i64 client, .string queue, .int .i64 most] w R :=
  add_ok d (new w0) l client queue most w hd R fun w' _ hd' hm' hF => h w' (news hm hm') (hd'.mono fun k hk => (hF k hk).elim id fun h => Nat.le_trans hm.size h)

theorem took_dk (w0 : World) (d : Nat) (l : List One) (client tag : Int) (w : World) (hm : Mod no w0 w) (hd : Dk w d (new w0) l) (R : Value → World → Prop)
    (h : ∀ w', Mod no w0 w' → Dk w' d (new w0) (tookL l client tag) → R (.int .i64 (tookE l client tag)) w') :
    Ca Try.prog 11 #[.pointer (some ⟨d, 0, none⟩), .int .i64 client, .int .u64 tag] w R :=
  took_ok d (new w0) l client tag w hd R fun w' hd' hm' => h w' (news hm hm') hd'

theorem settle_dk (w0 : World) (d : Nat) (l : List One) (client tag : Int) (w : World) (hm : Mod no w0 w) (hd : Dk w d (new w0) l) (R : Value → World → Prop)
    (h : ∀ w', Mod no w0 w' → Dk w' d (new w0) (settleL l client tag) → R (.tuple #[.string (settleQ l client tag), .int .i64 (settleE l client tag)]) w') :
    Ca Try.prog 22 #[.pointer (some ⟨d, 0, none⟩), .int .i64 client, .int .u64 tag] w R :=
  settle_ok d (new w0) l client tag w hd R fun w' hd' hm' => h w' (news hm hm') hd'

def qq : ByteArray := ByteArray.mk #[113]
theorem name_q : nameB qq = true := by
  have h1 : lettersB qq = true := by decide
  have h2 : (ByteArray.toList qq == ByteArray.toList (ByteArray.mk #[])) = false := by
    rw [ByteArray.toList_eq, ByteArray.toList_eq]; decide
  rw [nameB, plainB, h1, h2]; decide

theorem lives_ok (w : World) (R : Value → World → Prop) (h : ∀ w', Mod no w w' → R (.bool true) w') : Ca Try.prog 14 #[] w R := by
  refine ca14 w R ?_
  refine new_dk w _ fun w1 m1 d1 => ⟨_, rfl, ?_⟩
  have a1 : addE [] 1 qq 1 = 0 := by simp [addE, name_q]
  have b1 : addL [] 1 qq 1 = [⟨1, qq, 1, []⟩] := by simp [addL, a1]
  refine add_dk w _ _ 1 qq 1 w1 m1 d1 _ fun w4 m4 d4 => ⟨_, rfl, ?_⟩
  rw [a1]
  rw [b1] at d4
  show Ca _ _ _ _ _
  have a2 : addE [⟨1, qq, 1, []⟩] 2 qq 1 = 0 := by simp [addE, name_q]
  have b2 : addL [⟨1, qq, 1, []⟩] 2 qq 1 = [⟨1, qq, 1, []⟩, ⟨2, qq, 1, []⟩] := by simp [addL, a2]
  refine add_dk w _ _ 2 qq 1 w4 m4 d4 _ fun w7 m7 d7 => ⟨_, rfl, ?_⟩
  rw [a2]
  rw [b2] at d7
  show Ca _ _ _ _ _
  refine next_dk _ _ _ qq w7 d7 _ fun w10 m10 => ⟨_, _, rfl, ?_⟩
  have d10 := d7.no m10
  have m10 := m7.trans m10
  have a3 : tookE [⟨1, qq, 1, []⟩, ⟨2, qq, 1, []⟩] 1 5 = 0 := by simp [tookE, holdsB]
  have b3 : tookL [⟨1, qq, 1, []⟩, ⟨2, qq, 1, []⟩] 1 5 = [⟨2, qq, 1, []⟩, ⟨1, qq, 1, [5]⟩] := by simp [tookL, a3, toEnd, List.findIdx?_cons]
  refine took_dk w _ _ 1 5 w10 m10 d10 _ fun w14 m14 d14 => ⟨_, rfl, ?_⟩
  rw [b3] at d14
  refine next_dk _ _ _ qq w14 d14 _ fun w17 m17 => ⟨_, _, rfl, ?_⟩
  have d17 := d14.no m17
  have m17 := m14.trans m17
  refine settle_dk w _ _ 1 5 w17 m17 d17 _ fun w21 m21 d21 => ⟨_, _, rfl, ?_⟩
  have c1 : nextC [⟨1, qq, 1, []⟩, ⟨2, qq, 1, []⟩] qq = 1 := by simp [nextC, roomO]
  have c2 : nextC [⟨2, qq, 1, []⟩, ⟨1, qq, 1, [5]⟩] qq = 2 := by simp [nextC, roomO]
  have c3 : settleQ [⟨2, qq, 1, []⟩, ⟨1, qq, 1, [5]⟩] 1 5 = qq := by simp [settleQ]
  have c4 : settleE [⟨2, qq, 1, []⟩, ⟨1, qq, 1, [5]⟩] 1 5 = 0 := by simp [settleE]
  rw [c1, a3, c2, c3, c4]
  have c5 : (ByteArray.toList qq == ByteArray.toList (ByteArray.mk #[113])) = true := beq_self_eq_true _
  rw [c5]
  exact h w21 m21
end Go.Proofs.Ytmnbnjkbbhjocaa

/- Plain laws on lists of whole numbers: swaps, parts that are sorted. It names no program. -/
namespace Go.Proofs.Ytmnbnjkbbhjocaa.St

/-- What can be sorted: of two, one is less or the other is at most so; and what is at most so goes on. -/
class Lin (α : Type) [LE α] [_root_.LT α] : Prop where
  nlt : ∀ {a b : α}, ¬ a < b → b ≤ a
  lle : ∀ {a b : α}, a < b → a ≤ b
  tr : ∀ {a b c : α}, a ≤ b → b ≤ c → a ≤ c
instance : Lin Int := ⟨fun h => by omega, fun h => by omega, fun h h' => by omega⟩

section
variable {α : Type} [Inhabited α]
def at0 (xs : List α) (i : Nat) : α := xs.getD i default
/-- At a stands v (a word of its own, so that no solver looks into it). -/
structure AtE (xs : List α) (a : Nat) (v : α) : Prop where
  eq : at0 xs a = v
def swapL (xs : List α) (i j : Nat) : List α := (xs.set i (at0 xs j)).set j (at0 xs i)

theorem at0_eq {xs : List α} {i : Nat} (h : i < xs.length) : at0 xs i = xs[i] := by simp [at0, h]
theorem at0_set {xs : List α} {i k : Nat} {v : α} (h : i < xs.length) : at0 (xs.set i v) k = if k = i then v else at0 xs k := by
  simp only [at0, List.getD_eq_getElem?_getD, List.getElem?_set]
  by_cases e : i = k
  · subst e; simp [h]
  · rw [if_neg e, if_neg (fun h => e h.symm)]
@[simp] theorem length_swapL (xs : List α) (i j : Nat) : (swapL xs i j).length = xs.length := by simp [swapL]
theorem at0_swapL {xs : List α} {i j k : Nat} (hi : i < xs.length) (hj : j < xs.length) : at0 (swapL xs i j) k = if k = j then at0 xs i else if k = i then at0 xs j else at0 xs k := by
  rw [swapL, at0_set (by simpa using hj), at0_set hi]

theorem swapL_perm {xs : List α} {i j : Nat} (hi : i < xs.length) (hj : j < xs.length) : (swapL xs i j).Perm xs := by
  have h := Array.swap_perm (xs := xs.toArray) (i := i) (j := j) (by simpa using hi) (by simpa using hj)
  have e : (xs.toArray.swap i j (by simpa using hi) (by simpa using hj)).toList = swapL xs i j := by
    simp [Array.swap, swapL, at0_eq hi, at0_eq hj]
  rw [← e]
  exact Array.perm_iff_toList_perm.1 h

/-- Of the part [a, b) another order; all else as it was. -/
structure Seg (a b : Nat) (xs ys : List α) : Prop where
  len : ys.length = xs.length
  out : ∀ k, k < a ∨ b ≤ k → at0 ys k = at0 xs k
  perm : ys.Perm xs

theorem Seg.refl (a b : Nat) (xs : List α) : Seg a b xs xs := ⟨rfl, fun _ _ => rfl, .refl _⟩
theorem Seg.trans {a b : Nat} {xs ys zs : List α} (h : Seg a b xs ys) (h' : Seg a b ys zs) : Seg a b xs zs :=
  ⟨h'.len.trans h.len, fun k hk => (h'.out k hk).trans (h.out k hk), h'.perm.trans h.perm⟩
theorem Seg.mono {a b a' b' : Nat} {xs ys : List α} (h : Seg a b xs ys) (ha : a' ≤ a) (hb : b ≤ b') : Seg a' b' xs ys :=
  ⟨h.len, fun k hk => h.out k (by omega), h.perm⟩
theorem Seg.swap {a b i j : Nat} {xs : List α} (hi : i < xs.length) (hj : j < xs.length) (h1 : a ≤ i) (h2 : i < b) (h3 : a ≤ j) (h4 : j < b) : Seg a b xs (swapL xs i j) :=
  ⟨length_swapL _ _ _, fun k hk => by rw [at0_swapL hi hj, if_neg (by omega), if_neg (by omega)], swapL_perm hi hj⟩

/-- The part [a, b) is sorted. -/
def Srt [LE α] (xs : List α) (a b : Nat) : Prop := ∀ p q, a ≤ p → p < q → q < b → at0 xs p ≤ at0 xs q

/-- A part's elements are the same ones. -/
theorem Seg.part {a b : Nat} {xs ys : List α} (h : Seg a b xs ys) (hab : a ≤ b) : ((ys.take b).drop a).Perm ((xs.take b).drop a) := by
  have split : ∀ l : List α, l = l.take a ++ ((l.take b).drop a ++ l.drop b) := by
    intro l
    have h1 : l.take b = l.take a ++ (l.take b).drop a := by
      have := (List.take_append_drop a (l.take b)).symm
      rwa [List.take_take, Nat.min_eq_left hab] at this
    rw [← List.append_assoc, ← h1, List.take_append_drop]
  have ext : ∀ (l l' : List α), l.length = l'.length → (∀ k, k < l.length → at0 l k = at0 l' k) → l = l' := by
    intro l l' hl hk
    apply List.ext_getElem hl
    intro i h1 h2
    have := hk i h1
    rwa [at0_eq h1, at0_eq h2] at this
  have e1 : ys.take a = xs.take a := by
    refine ext _ _ (by simp [h.len]) fun k hk => ?_
    simp at hk
    have := h.out k (.inl (by omega))
    rw [at0_eq (by simp; omega), at0_eq (by have := h.len; simp; omega)]
    rw [at0_eq (by omega), at0_eq (by have := h.len; omega)] at this
    simpa using this
  have e2 : ys.drop b = xs.drop b := by
    refine ext _ _ (by simp [h.len]) fun k hk => ?_
    simp at hk
    have := h.out (b + k) (.inr (by omega))
    rw [at0_eq (by simp; omega), at0_eq (by have := h.len; simp; omega)]
    rw [at0_eq (by omega), at0_eq (by have := h.len; omega)] at this
    simpa using this
  have hp := h.perm
  rw [split ys, split xs, e1, e2] at hp
  exact (List.perm_append_right_iff _).1 ((List.perm_append_left_iff _).1 hp)

theorem Seg.all {a b : Nat} {xs ys : List α} (h : Seg a b xs ys) (hb : b ≤ xs.length) {P : α → Prop} (hx : ∀ k, a ≤ k → k < b → P (at0 xs k)) : ∀ k, a ≤ k → k < b → P (at0 ys k) := by
  intro k h1 h2
  have hp := h.part (by omega : a ≤ b)
  have hl := h.len
  have hm : at0 ys k ∈ (ys.take b).drop a := by
    rw [List.mem_drop_iff_getElem]
    refine ⟨k - a, by simp; omega, ?_⟩
    rw [at0_eq (by omega)]
    simp [show a + (k - a) = k by omega]
  have := hp.mem_iff.1 hm
  rw [List.mem_drop_iff_getElem] at this
  obtain ⟨i, hi, e⟩ := this
  simp at hi
  rw [← e]
  have := hx (a + i) (by omega) (by omega)
  rw [at0_eq (by omega)] at this
  simpa using this

end

section
variable {α : Type} [Inhabited α] [LE α] [_root_.LT α] [Lin α]
omit [Inhabited α] in
theorem Lin.refl (x : α) : x ≤ x := by
  by_cases h : x < x
  · exact Lin.lle h
  · exact Lin.nlt h

omit [_root_.LT α] [Lin α] in
theorem Srt.nil (xs : List α) (a b : Nat) (h : b ≤ a + 1) : Srt xs a b := fun p q _ _ _ => by omega
omit [_root_.LT α] [Lin α] in
theorem Srt.of_out {xs ys : List α} {a b a' b' : Nat} (h : Srt xs a b) (hs : Seg a' b' xs ys) (hd : b ≤ a' ∨ b' ≤ a) : Srt ys a b := fun p q h1 h2 h3 => by
  rw [hs.out p (by omega), hs.out q (by omega)]; exact h p q h1 h2 h3

/-- Insertion: all is sorted but what stands at j. -/
def Ins (xs : List α) (a i j : Nat) : Prop := ∀ p q, a ≤ p → p < q → q ≤ i → q ≠ j → at0 xs p ≤ at0 xs q
omit [_root_.LT α] [Lin α] in
theorem Ins.start {xs : List α} {a i : Nat} (h : Srt xs a i) : Ins xs a i i := fun p q h1 h2 h3 h4 => h p q h1 h2 (by omega)
theorem Ins.done {xs : List α} {a i j : Nat} (h : Ins xs a i j) (hj : j ≤ a ∨ at0 xs (j - 1) ≤ at0 xs j) : Srt xs a (i + 1) := by
  intro p q h1 h2 h3
  by_cases e : q = j
  · subst e
    rcases hj with hj | hj
    · omega
    · by_cases e' : p = q - 1
      · subst e'; exact hj
      · exact Lin.tr (h p (q - 1) h1 (by omega) (by omega) (by omega)) hj
  · exact h p q h1 h2 (by omega) e
theorem Ins.step {xs : List α} {a i j : Nat} (h : Ins xs a i j) (hi : i < xs.length) (hja : a < j) (hji : j ≤ i) (hlt : at0 xs j < at0 xs (j - 1)) : Ins (swapL xs j (j - 1)) a i (j - 1) := by
  have hs : ∀ k, at0 (swapL xs j (j - 1)) k = if k = j - 1 then at0 xs j else if k = j then at0 xs (j - 1) else at0 xs k := fun k => at0_swapL (by omega) (by omega)
  intro p q h1 h2 h3 h4
  rw [hs p, hs q, if_neg h4]
  by_cases hq : q = j
  · subst hq
    rw [if_pos rfl]
    by_cases hp : p = q - 1
    · rw [if_pos hp]; exact Lin.lle hlt
    · rw [if_neg hp, if_neg (by omega)]
      exact h p (q - 1) h1 (by omega) (by omega) (by omega)
  · rw [if_neg hq]
    by_cases hp : p = j - 1
    · rw [if_pos hp]
      exact h j q (by omega) (by omega) h3 hq
    · rw [if_neg hp]
      by_cases hp2 : p = j
      · rw [if_pos hp2]; exact h (j - 1) q (by omega) (by omega) h3 hq
      · rw [if_neg hp2]; exact h p q h1 h2 h3 hq
end
end Go.Proofs.Ytmnbnjkbbhjocaa.St

/- Rows of one-cell elements (numbers, strings). It names no program. -/
namespace Go.Proofs.Ytmnbnjkbbhjocaa.St
open Go

/-- The row a[:l:c] holds these elements. -/
def Els {α : Type} (val : α → Value) (e : TypeId) (w : World) (a : Option Addr) (l c : Nat) (xs : List α) : Prop := w.ownsRow 0 e 1 (.slice a l c) l (xs.map val)
/-- The row a[:l:c] holds these numbers. -/
abbrev Ints (ik : IntKind) (e : TypeId) (w : World) (a : Option Addr) (l c : Nat) (xs : List Int) : Prop := Els (Value.int ik) e w a l c xs

section
variable {α : Type} {val : α → Value} {e : TypeId} {w w' : World} {a : Option Addr} {l c : Nat} {xs : List α}
theorem Els.len (h : Els val e w a l c xs) : xs.length = l ∧ l ≤ c ∧ c ≤ 9223372036854775807 := by
  obtain ⟨_, h1, h2, h3⟩ := row_len h
  exact ⟨by simpa using h1, h2, h3⟩
theorem Els.blk (h : Els val e w a l c xs) : ∀ k, rowB a k → k < w.heap.size := by
  intro k hk
  rcases h.2 with ⟨hv, _⟩ | ⟨g, cap, cur, hv, _, hg, _⟩
  · injection hv with h1; subst h1; simp [rowB] at hk
  · injection hv with h1; subst h1; simp [rowB] at hk; subst hk; exact lt_of_heap hg
theorem Els.mod {S : Nat → Prop} (h : Els val e w a l c xs) (hm : Mod S w w') (hs : ∀ k, rowB a k → ¬ S k) : Els val e w' a l c xs := row_mod h hm hs
theorem Els.no (h : Els val e w a l c xs) (hm : Mod no w w') : Els val e w' a l c xs := row_mod h hm fun _ _ => id
theorem Els.at (h : Els val e w a l c xs) {i : Nat} (hi : i < xs.length) : ∃ g, a = some ⟨g, 0, none⟩ ∧ w.cell? (Addr.add ⟨g, 0, none⟩ (i * 1)) = some (val xs[i]) :=
  row_at h (i := i) (by simp [hi])
theorem Els.put (h : Els val e w a l c xs) {i : Nat} (hi : i < xs.length) (v : α) :
    ∃ ad, a = some ad ∧ (∃ u, w.cell? (Addr.add (Addr.add ad (i * 1)) 0) = some u) ∧ w.frozen? (Addr.add (Addr.add ad (i * 1)) 0) = false ∧
      Mod (rowB a) w (w.setCell (Addr.add (Addr.add ad (i * 1)) 0) (val v)) ∧ Els val e (w.setCell (Addr.add (Addr.add ad (i * 1)) 0) (val v)) a l c (xs.set i v) := by
  obtain ⟨ad, h1, h2, h3, h4, h5⟩ := row_put h (i := i) (by have := h.len; omega) (val v)
  exact ⟨ad, h1, h2, h3, h4, by rw [Els, List.map_set]; exact h5⟩
end

section
variable {α : Type} [Inhabited α] {val : α → Value} {e : TypeId} {w : World} {a : Option Addr} {l c : Nat} {xs : List α}
theorem Els.get (h : Els val e w a l c xs) {i : Nat} (hi : i < xs.length) : ∃ g, a = some ⟨g, 0, none⟩ ∧ w.cell? (Addr.add ⟨g, 0, none⟩ (i * 1)) = some (val (at0 xs i)) := by
  rw [at0_eq hi]; exact h.at hi
omit [Inhabited α] in
theorem Els.lt (h : Els val e w a l c xs) {i : Nat} (hi : i < l) : i < xs.length := by have := h.len.1; omega
omit [Inhabited α] in
theorem Els.le (h : Els val e w a l c xs) {i : Nat} (hi : i ≤ l) : i ≤ xs.length := by have := h.len.1; omega
/-- Two of a part are swapped. -/
theorem Els.seg (h : Els val e w a l c xs) {p q i j : Nat} (hi : i < l) (hj : j < l) (h1 : p ≤ i) (h2 : i < q) (h3 : p ≤ j) (h4 : j < q) : Seg p q xs (swapL xs i j) := Seg.swap (h.lt hi) (h.lt hj) h1 h2 h3 h4
/-- One is read. -/
theorem Els.rd (h : Els val e w a l c xs) {i : Int} (n : Nat) (hi : i = n) (hn : n < l) {K : α → Prop} (hk : K (at0 xs n)) :
    ∃ ad : Addr, a = some ad ∧ (0 : Int) ≤ i ∧ i < (↑l : Int) ∧ ∃ x : α, w.cell? (Addr.add ad (Int.toNat i * 1)) = some (val x) ∧ K x := by
  subst hi
  obtain ⟨g, rfl, hc⟩ := h.get (i := n) (by have := h.len; omega)
  exact ⟨_, rfl, by omega, by omega, _, hc, hk⟩
omit [Inhabited α] in
/-- One is written. -/
theorem Els.wr (h : Els val e w a l c xs) {i : Int} (n : Nat) (hi : i = n) (hn : n < l) (v : α) {K : World → Prop} (hk : ∀ w', Mod (rowB a) w w' → Els val e w' a l c (xs.set n v) → K w') :
    ∃ ad : Addr, a = some ad ∧ (0 : Int) ≤ i ∧ i < (↑l : Int) ∧ (∃ u : Value, w.cell? (Addr.add (Addr.add ad (Int.toNat i * 1)) 0) = some u) ∧ w.frozen? (Addr.add (Addr.add ad (Int.toNat i * 1)) 0) = false ∧
      atW (w.setCell (Addr.add (Addr.add ad (Int.toNat i * 1)) 0) (val v)) K := by
  subst hi
  obtain ⟨ad, had, hold, hfz, m, hp⟩ := h.put (i := n) (by have := h.len; omega) v
  refine ⟨ad, had, by omega, by omega, hold, hfz, fun w' e => ?_⟩
  subst e
  exact hk _ m hp
/-- Two are swapped. -/
theorem Els.swp (h : Els val e w a l c xs) {i j : Int} (m n : Nat) (hi : i = m) (hj : j = n) (hm : m < l) (hn : n < l) {K : World → Prop}
    (hk : ∀ w', Els val e w' a l c (swapL xs m n) → Mod (rowB a) w w' → K w') :
    ∃ ad : Addr, a = some ad ∧ (0 : Int) ≤ j ∧ j < (↑l : Int) ∧ ∃ x : α, w.cell? (Addr.add ad (Int.toNat j * 1)) = some (val x) ∧
    ∃ ad : Addr, a = some ad ∧ (0 : Int) ≤ i ∧ i < (↑l : Int) ∧ ∃ y : α, w.cell? (Addr.add ad (Int.toNat i * 1)) = some (val y) ∧
    ∃ ad : Addr, a = some ad ∧ (0 : Int) ≤ i ∧ i < (↑l : Int) ∧ (∃ u : Value, w.cell? (Addr.add (Addr.add ad (Int.toNat i * 1)) 0) = some u) ∧ w.frozen? (Addr.add (Addr.add ad (Int.toNat i * 1)) 0) = false ∧
      atW (w.setCell (Addr.add (Addr.add ad (Int.toNat i * 1)) 0) (val x)) fun w1 =>
    ∃ ad : Addr, a = some ad ∧ (0 : Int) ≤ j ∧ j < (↑l : Int) ∧ (∃ u : Value, w1.cell? (Addr.add (Addr.add ad (Int.toNat j * 1)) 0) = some u) ∧ w1.frozen? (Addr.add (Addr.add ad (Int.toNat j * 1)) 0) = false ∧
      atW (w1.setCell (Addr.add (Addr.add ad (Int.toNat j * 1)) 0) (val y)) K := by
  refine h.rd n hj hn (h.rd m hi hm (h.wr m hi hm _ fun w1 m1 h1 => h1.wr n hj hn _ fun w2 m2 h2 => hk w2 h2 (m1.trans m2)))
end

end Go.Proofs.Ytmnbnjkbbhjocaa.St

/- Iterators as they are ranged over. It names no program. -/
namespace Go.Proofs.Ytmnbnjkbbhjocaa.St
open Go

def isIt : Obj → Bool
  | .mapIter _ _ _ _ => true
  | .stringIter _ _ => true
  | _ => false

/-- What was older than B stands, and so do iterators. -/
structure Kp (B : Nat) (w w' : World) : Prop where
  os : w'.os = w.os
  tape : w'.tape = w.tape
  output : w'.output = w.output
  size : w.heap.size ≤ w'.heap.size
  old : ∀ k o, w.heap[k]? = some o → (k < B ∨ isIt o = true) → w'.heap[k]? = some o

theorem Kp.refl (B : Nat) (w : World) : Kp B w w := ⟨rfl, rfl, rfl, Nat.le_refl _, fun _ _ h _ => h⟩
theorem Kp.trans {B : Nat} {w w' w'' : World} (h : Kp B w w') (h' : Kp B w' w'') : Kp B w w'' :=
  ⟨h'.os.trans h.os, h'.tape.trans h.tape, h'.output.trans h.output, Nat.le_trans h.size h'.size, fun k o ho hk => h'.old k o (h.old k o ho hk) hk⟩
theorem Kp.of_mod {B : Nat} {S : Nat → Prop} {w w' : World} (h : Mod S w w') (hs : ∀ k o, w.heap[k]? = some o → (k < B ∨ isIt o = true) → ¬ S k) : Kp B w w' :=
  ⟨h.os, h.tape, h.output, h.size, fun k o ho hk => h.at ho (hs k o ho hk)⟩
theorem Kp.of_no {B : Nat} {w w' : World} (h : Mod no w w') : Kp B w w' := Kp.of_mod h fun _ _ _ _ => id
theorem Kp.mod {w w' : World} (h : Kp w.heap.size w w') : Mod no w w' :=
  ⟨h.os, h.tape, h.output, h.size, fun k hk _ => by rw [h.old k _ (Array.getElem?_eq_getElem hk) (.inl hk), Array.getElem?_eq_getElem hk]⟩

/-- What a yield gathers stands where nothing changes but an iterator. -/
def Stab (J : List Value → World → Prop) : Prop :=
  (∀ l w w', J l w → Mod no w w' → J l w') ∧ ∀ l w w' b o, J l w → w.heap[b]? = some o → isIt o = true → Mod (on b) w w' → J l w'

/-- The function value seq, called with a yield, hands it one of the lists of S, one by one: fewer than N, each a T. -/
def SeqOf (P : Program) (seq : Value) (B : Nat) (w0 : World) (N : Nat) (T : Value → Prop) (S : List Value → Prop) : Prop :=
  (∃ g first cap, seq = .func (.func g) first cap) ∧
  ∀ (J : List Value → World → Prop) (y : Value) (w : World) (R : Value → World → Prop), Kp B w0 w → Stab J → J [] w →
    (∀ pre x w', Kp B w0 w' → J pre w' → pre.length < N → T x → ∀ R' : Value → World → Prop, (∀ w'', Kp B w' w'' → J (pre ++ [x]) w'' → R' (.bool true) w'') → CaV P y #[x] w' R') →
    (∀ w' xs, S xs → J xs w' → Kp B w0 w' → R (.tuple #[]) w') → CaV P seq #[y] w R
end Go.Proofs.Ytmnbnjkbbhjocaa.St

/- The formulas of functions, printed by a program of mine (gen.py) out of the translation. -/
namespace Go.Proofs.Ytmnbnjkbbhjocaa
open Go Go.Proofs.Ytmnbnjkbbhjocaa.St
set_option maxRecDepth 100000

/-- slices.AppendSeq[[]uint64,uint64] -/
noncomputable def C66 : Code := (Try.f66.body).getD .skip
def pl66 : Nat → Plan := fun _ => .done
def ls66 : Nat → List (Nat × LT) := fun _ => []
def W66 (sa : Option Addr) (sl : Nat) (sc : Nat) (seq : Value) (w : World) (R : Value → World → Prop) : Prop :=
  (atW (World.alloc w (Obj.cells (Array.mk [Value.slice sa sl sc]) 31 (0, 0))) (fun w0 =>
    (rfW Try.prog (seq) (w0) (fun v1 => (fun w2 => (fun z3 => (fun z4 =>
      (onI IntKind.u64 (v1) (fun x5 =>
        (z3 (fun w6 =>
          (∃ p7 : Option Addr, (∃ n8 : Nat, (∃ n9 : Nat, ((World.cell? w6 (Addr.mk (Array.size (World.heap w)) 0 none) = some (Value.slice p7 n8 n9)) ∧ (atW (World.alloc w6 (Obj.cells (Array.mk [Value.int IntKind.u64 x5]) 27 (0, 0))) (fun w10 =>
            (∃ v11 : Value, (∃ w12 : World, ((Sem.run Try.prog (Builtin.append_ (Array.mk [31, 31]) 31 (Array.mk [Value.slice p7 n8 n9, Value.slice (some (Addr.mk (Array.size (World.heap w6)) 0 none)) 1 1])) w10 = Result.ok v11 w12) ∧ (∃ p13 : Option Addr, (∃ n14 : Nat, (∃ n15 : Nat, ((v11 = Value.slice p13 n14 n15) ∧ ((∃ v16 : Value, (World.cell? w12 (Addr.add (Addr.mk (Array.size (World.heap w)) 0 none) 0) = some v16)) ∧ ((World.frozen? w12 (Addr.add (Addr.mk (Array.size (World.heap w)) 0 none) 0) = false) ∧ (atW (World.setCell w12 (Addr.add (Addr.mk (Array.size (World.heap w)) 0 none) 0) (Value.slice p13 n14 n15)) (fun w17 =>
              (z4 (w17)))))))))))))))))))) (w2)))))))) (fun w18 =>
      (∃ p19 : Option Addr, (∃ n20 : Nat, (∃ n21 : Nat, ((World.cell? w18 (Addr.mk (Array.size (World.heap w)) 0 none) = some (Value.slice p19 n20 n21)) ∧ (((World.heap w18)[Array.size (World.heap w0)]? = some (Obj.deferred (some []))) ∧ (atW (World.putObj w18 (Array.size (World.heap w0)) (Obj.deferred none)) (fun w22 =>
        (R (Value.slice p19 n20 n21) (w22)))))))))))))
theorem ca66 (sa : Option Addr) (sl : Nat) (sc : Nat) (seq : Value) (w : World) (R : Value → World → Prop) (h : W66 sa sl sc seq w R) : Ca Try.prog 66 ⟨[(.slice sa sl sc), seq]⟩ w R := by
  have h1 : Try.prog.follows .mixedOrders = true := by kernel_rfl
  have h2 : Try.f66.body = some C66 := by kernel_rfl
  have h3 : (Try.f66.name == "runtime.NumGoroutine") = false := by kernel_rfl
  have h6 : Try.f66.results.toList = [.tmp 4] := by kernel_rfl
  have h4 : Nat.ble 2 13 = true := by kernel_rfl
  have h5 : okCode 13 pl66 ls66 C66 0 = true := by kernel_rfl
  have e : W66 sa sl sc seq w R = wpC none Try.prog 13 pl66 ls66 C66 0 (endP Try.prog [.tmp 4] R) (fr0 [(.slice sa sl sc), seq]) [] w := by kernel_rfl
  exact ca_of' (P := Try.prog) (g := 66) (fn := Try.f66) (c := C66) (m := 13) (rs := [.tmp 4]) (args := [(.slice sa sl sc), seq]) (pl := pl66) (ls := ls66) (w := w) (R := R) h1 Try.func66 h2 Try.ntmps66 h6 h3 h4 h5 (Eq.mp e h)

/-- slices.Collect[uint64] -/
noncomputable def C51 : Code := (Try.f51.body).getD .skip
def pl51 : Nat → Plan := fun _ => .done
def ls51 : Nat → List (Nat × LT) := fun _ => []
def W51 (seq : Value) (w : World) (R : Value → World → Prop) : Prop :=
  (Ca Try.prog (66) (Array.mk [Value.slice none 0 0, seq]) (w) (fun v0 => (fun w1 =>
    (∃ p2 : Option Addr, (∃ n3 : Nat, (∃ n4 : Nat, ((v0 = Value.slice p2 n3 n4) ∧ (R (Value.slice p2 n3 n4) (w1)))))))))
theorem ca51 (seq : Value) (w : World) (R : Value → World → Prop) (h : W51 seq w R) : Ca Try.prog 51 ⟨[seq]⟩ w R := by
  have h1 : Try.prog.follows .mixedOrders = true := by kernel_rfl
  have h2 : Try.f51.body = some C51 := by kernel_rfl
  have h3 : (Try.f51.name == "runtime.NumGoroutine") = false := by kernel_rfl
  have h6 : Try.f51.results.toList = [.tmp 2] := by kernel_rfl
  have h4 : Nat.ble 1 5 = true := by kernel_rfl
  have h5 : okCode 5 pl51 ls51 C51 0 = true := by kernel_rfl
  have e : W51 seq w R = wpC none Try.prog 5 pl51 ls51 C51 0 (endP Try.prog [.tmp 2] R) (fr0 [seq]) [] w := by kernel_rfl
  exact ca_of' (P := Try.prog) (g := 51) (fn := Try.f51) (c := C51) (m := 5) (rs := [.tmp 2]) (args := [seq]) (pl := pl51) (ls := ls51) (w := w) (R := R) h1 Try.func51 h2 Try.ntmps51 h6 h3 h4 h5 (Eq.mp e h)

/-- maps.Keys[map[uint64]bool,uint64,bool] -/
noncomputable def C46 : Code := (Try.f46.body).getD .skip
def pl46 : Nat → Plan := fun _ => .done
def ls46 : Nat → List (Nat × LT) := fun _ => []
def W46 (m : Option Nat) (w : World) (R : Value → World → Prop) : Prop :=
  (atW (World.alloc w (Obj.cells (Array.mk [Value.map m]) 70 (0, 0))) (fun w0 =>
    (R (Value.func (Fn.func 53) (Array.mk []) (Array.mk [Value.pointer (some (Addr.mk (Array.size (World.heap w)) 0 none))])) (w0))))
theorem ca46 (m : Option Nat) (w : World) (R : Value → World → Prop) (h : W46 m w R) : Ca Try.prog 46 ⟨[(.map m)]⟩ w R := by
  have h1 : Try.prog.follows .mixedOrders = true := by kernel_rfl
  have h2 : Try.f46.body = some C46 := by kernel_rfl
  have h3 : (Try.f46.name == "runtime.NumGoroutine") = false := by kernel_rfl
  have h6 : Try.f46.results.toList = [.tmp 2] := by kernel_rfl
  have h4 : Nat.ble 1 4 = true := by kernel_rfl
  have h5 : okCode 4 pl46 ls46 C46 0 = true := by kernel_rfl
  have e : W46 m w R = wpC none Try.prog 4 pl46 ls46 C46 0 (endP Try.prog [.tmp 2] R) (fr0 [(.map m)]) [] w := by kernel_rfl
  exact ca_of' (P := Try.prog) (g := 46) (fn := Try.f46) (c := C46) (m := 4) (rs := [.tmp 2]) (args := [(.map m)]) (pl := pl46) (ls := ls46) (w := w) (R := R) h1 Try.func46 h2 Try.ntmps46 h6 h3 h4 h5 (Eq.mp e h)

/-- maps.Keys[map[uint64]bool,uint64,bool]$1 -/
noncomputable def C53 : Code := (Try.f53.body).getD .skip
def pl53 : Nat → Plan := fun _ => .done
def ls53 : Nat → List (Nat × LT)
  | 1 => []
  | _ => []
def W53 (yield : Value) (c0 : Option Addr) (w : World) (R : Value → World → Prop) : Prop :=
  (onP (c0) (fun a0 =>
    (∃ p1 : Option Nat, ((World.cell? w a0 = some (Value.map p1)) ∧ (rngM (p1) (w) (fun v2 => (fun w3 =>
      (∃ z4 : World → Prop, (∃ z5 : World → Nat, ((z4 (w3)) ∧ (∀ (_ : Nat → Value), (∀ (w7 : World), ((z4 (w7)) → (nxtM Try.prog (0) (v2) (w7) (fun _ => (fun _ => (fun w10 =>
        (∃ v11 : Value, (∃ v12 : Value, ((Sem.run Try.prog (Instr.entry v2) w10 = Result.ok (Value.tuple #[v11, v12]) w10) ∧ (onI IntKind.u64 (v11) (fun x13 =>
          (CaV Try.prog (yield) (Array.mk [Value.int IntKind.u64 x13]) (w10) (fun v14 => (fun w15 =>
            (∃ b16 : Bool, ((v14 = Value.bool b16) ∧ (ifK (!b16)
              (R (Value.tuple (Array.mk (List.reverse []))) (w15))
              ((z4 (w15)) ∧ (z5 w15 < z5 w7)))))))))))))))) (fun w17 =>
        (R (Value.tuple (Array.mk (List.reverse []))) (w17)))))))))))))))))
theorem ca53 (yield : Value) (c0 : Option Addr) (w : World) (R : Value → World → Prop) (h : W53 yield c0 w R) : Ca Try.prog 53 ⟨[yield, (.pointer c0)]⟩ w R := by
  have h1 : Try.prog.follows .mixedOrders = true := by kernel_rfl
  have h2 : Try.f53.body = some C53 := by kernel_rfl
  have h3 : (Try.f53.name == "runtime.NumGoroutine") = false := by kernel_rfl
  have h6 : Try.f53.results.toList = [] := by kernel_rfl
  have h4 : Nat.ble 2 14 = true := by kernel_rfl
  have h5 : okCode 14 pl53 ls53 C53 0 = true := by kernel_rfl
  have e : W53 yield c0 w R = wpC none Try.prog 14 pl53 ls53 C53 0 (endP Try.prog [] R) (fr0 [yield, (.pointer c0)]) [] w := by kernel_rfl
  exact ca_of' (P := Try.prog) (g := 53) (fn := Try.f53) (c := C53) (m := 14) (rs := []) (args := [yield, (.pointer c0)]) (pl := pl53) (ls := ls53) (w := w) (R := R) h1 Try.func53 h2 Try.ntmps53 h6 h3 h4 h5 (Eq.mp e h)

/-- slices.Sorted[uint64] -/
noncomputable def C45 : Code := (Try.f45.body).getD .skip
def pl45 : Nat → Plan := fun _ => .done
def ls45 : Nat → List (Nat × LT) := fun _ => []
def W45 (seq : Value) (w : World) (R : Value → World → Prop) : Prop :=
  (Ca Try.prog (51) (Array.mk [seq]) (w) (fun v0 => (fun w1 =>
    (∃ p2 : Option Addr, (∃ n3 : Nat, (∃ n4 : Nat, ((v0 = Value.slice p2 n3 n4) ∧ (Ca Try.prog (52) (Array.mk [Value.slice p2 n3 n4]) (w1) (fun v5 => (fun w6 =>
      ((v5 = Value.tuple (Array.mk (List.reverse []))) ∧ (R (Value.slice p2 n3 n4) (w6)))))))))))))
theorem ca45 (seq : Value) (w : World) (R : Value → World → Prop) (h : W45 seq w R) : Ca Try.prog 45 ⟨[seq]⟩ w R := by
  have h1 : Try.prog.follows .mixedOrders = true := by kernel_rfl
  have h2 : Try.f45.body = some C45 := by kernel_rfl
  have h3 : (Try.f45.name == "runtime.NumGoroutine") = false := by kernel_rfl
  have h6 : Try.f45.results.toList = [.tmp 2] := by kernel_rfl
  have h4 : Nat.ble 1 9 = true := by kernel_rfl
  have h5 : okCode 9 pl45 ls45 C45 0 = true := by kernel_rfl
  have e : W45 seq w R = wpC none Try.prog 9 pl45 ls45 C45 0 (endP Try.prog [.tmp 2] R) (fr0 [seq]) [] w := by kernel_rfl
  exact ca_of' (P := Try.prog) (g := 45) (fn := Try.f45) (c := C45) (m := 9) (rs := [.tmp 2]) (args := [seq]) (pl := pl45) (ls := ls45) (w := w) (R := R) h1 Try.func45 h2 Try.ntmps45 h6 h3 h4 h5 (Eq.mp e h)

/-- (*staith/consumer.wish).held -/
noncomputable def C33 : Code := (Try.f33.body).getD .skip
def pl33 : Nat → Plan
  | 1 => (.quiet 0 (.quiet 1 (.quiet 2 (.quiet 3 (.quiet 4 (.quiet 5 (.quiet 6 (.quiet 7 (.eff 8 [3] (.eff 9 [3] (.quiet 10 (.eff 11 [] .done))))))))))))
  | _ => .done
def ls33 : Nat → List (Nat × LT) := fun _ => []
def W33 (w_ : Option Addr) (w : World) (R : Value → World → Prop) : Prop :=
  (atW (World.alloc w (Obj.cells (Array.mk [Value.string (ByteArray.mk #[]), Value.slice none 0 0]) 33 (0, 0))) (fun w0 =>
    (atW (World.drew w0) (fun w1 =>
      (onP (w_) (fun a2 =>
        (∃ s3 : ByteArray, ((World.cell? w1 (Addr.add a2 1) = some (Value.string s3)) ∧ (onP (w_) (fun a4 =>
          (∃ p5 : Option Nat, ((World.cell? w1 (Addr.add a4 3) = some (Value.map p5)) ∧ (Ca Try.prog (46) (Array.mk [Value.map p5]) (w1) (fun v6 => (fun w7 =>
            (∃ v8 : Value, ((v6 = v8) ∧ ((World.cell? w7 (Addr.add (Addr.add a2 1) 0) = some (Value.string s3)) ∧ (Ca Try.prog (45) (Array.mk [v8]) (w7) (fun v9 => (fun w10 =>
              (∃ p11 : Option Addr, (∃ n12 : Nat, (∃ n13 : Nat, ((v9 = Value.slice p11 n12 n13) ∧ ((World.cell? w10 (Addr.add (Addr.add a2 1) 0) = some (Value.string s3)) ∧ ((∃ v14 : Value, (World.cell? w10 (Addr.add (Addr.mk (Array.size (World.heap w)) 0 none) 0) = some v14)) ∧ ((World.frozen? w10 (Addr.add (Addr.mk (Array.size (World.heap w)) 0 none) 0) = false) ∧ (atW (World.setCell w10 (Addr.add (Addr.mk (Array.size (World.heap w)) 0 none) 0) (Value.string s3)) (fun w15 =>
                ((∃ v16 : Value, (World.cell? w15 (Addr.add (Addr.mk (Array.size (World.heap w)) 0 none) 1) = some v16)) ∧ ((World.frozen? w15 (Addr.add (Addr.mk (Array.size (World.heap w)) 0 none) 1) = false) ∧ (atW (World.setCell w15 (Addr.add (Addr.mk (Array.size (World.heap w)) 0 none) 1) (Value.slice p11 n12 n13)) (fun w17 =>
                  (∃ s18 : ByteArray, ((World.cell? w17 (Addr.add (Addr.mk (Array.size (World.heap w)) 0 none) 0) = some (Value.string s18)) ∧ (∃ p19 : Option Addr, (∃ n20 : Nat, (∃ n21 : Nat, ((World.cell? w17 (Addr.add (Addr.mk (Array.size (World.heap w)) 0 none) 1) = some (Value.slice p19 n20 n21)) ∧ (R (Value.agg (Array.mk (List.reverse [Value.slice p19 n20 n21, Value.string s18]))) (w17))))))))))))))))))))))))))))))))))))))))))
theorem ca33 (w_ : Option Addr) (w : World) (R : Value → World → Prop) (h : W33 w_ w R) : Ca Try.prog 33 ⟨[(.pointer w_)]⟩ w R := by
  have h1 : Try.prog.follows .mixedOrders = true := by kernel_rfl
  have h2 : Try.f33.body = some C33 := by kernel_rfl
  have h3 : (Try.f33.name == "runtime.NumGoroutine") = false := by kernel_rfl
  have h6 : Try.f33.results.toList = [.cell 2 33] := by kernel_rfl
  have h4 : Nat.ble 1 14 = true := by kernel_rfl
  have h5 : okCode 14 pl33 ls33 C33 0 = true := by kernel_rfl
  have e : W33 w_ w R = wpC none Try.prog 14 pl33 ls33 C33 0 (endP Try.prog [.cell 2 33] R) (fr0 [(.pointer w_)]) [] w := by kernel_rfl
  exact ca_of' (P := Try.prog) (g := 33) (fn := Try.f33) (c := C33) (m := 14) (rs := [.cell 2 33]) (args := [(.pointer w_)]) (pl := pl33) (ls := ls33) (w := w) (R := R) h1 Try.func33 h2 Try.ntmps33 h6 h3 h4 h5 (Eq.mp e h)
end Go.Proofs.Ytmnbnjkbbhjocaa

/- The library's AppendSeq, Collect: of whole numbers of one type. -/
namespace Go.Proofs.Ytmnbnjkbbhjocaa.Sequint64
open Go Go.Proofs.Ytmnbnjkbbhjocaa Go.Proofs.Ytmnbnjkbbhjocaa.St

theorem rowE : rowOk Try.prog 31 27 = true := by kernel_rfl

/-- What AppendSeq has gathered: in a box that is the block w.heap.size, in a row of its own. -/
def Got (w : World) (Rdy : World → Prop) (xs : List Value) (w' : World) : Prop :=
  Rdy w' ∧ ∃ a l c, w'.heap[w.heap.size]? = some (.cells #[.slice a l c] 31 (0, 0)) ∧ w'.ownsRow 0 27 1 (.slice a l c) xs.length xs ∧ ∀ k, rowB a k → w.heap.size < k

theorem appendSeq_ok (seq : Value) (N : Nat) (S : List Value → Prop) (w : World) (hN : N ≤ 1099511627775) (hseq : SeqOf Try.prog seq w.heap.size w N (fun v => ∃ k, v = .int .u64 k) S) (R : Value → World → Prop)
    (h : ∀ w' a l c xs, S xs → w'.ownsRow 0 27 1 (.slice a l c) l xs → Mod no w w' → (∀ k, rowB a k → w.heap.size < k) → R (.slice a l c) w') :
    Ca Try.prog 66 #[.slice none 0 0, seq] w R := by
  refine ca66 none 0 0 seq w R ?_
  intro w0 e0
  have m0 : Mod no w w0 := by subst e0; exact Mod.alloc _ _
  have b0 : w0.heap[w.heap.size]? = some (.cells #[.slice none 0 0] 31 (0, 0)) := by subst e0; exact new_at _ _
  have s0 : w0.heap.size = w.heap.size + 1 := by subst e0; simp
  clear e0
  refine ⟨hseq.1, ?_⟩
  intro Rdy Bsy hrs hbs hrb w1 m1 s1 hr1 hy
  have b1 := Mod.at' m1 b0
  -- how a record's blocks are apart from others
  have hrec : ∀ w', Rdy w' ∨ Bsy w' → ∀ k cs t fz, w'.heap[k]? = some (.cells cs t fz) → k ≠ w0.heap.size ∧ k ≠ w0.heap.size + 1 := by
    intro w' hw k cs t fz hk
    obtain ⟨h1, r, h2⟩ := hrb w' hw
    exact ⟨fun e => (by rw [e, h1] at hk; cases hk), fun e => (by rw [e, h2] at hk; cases hk)⟩
  have hstab : Stab (Got w Rdy) := by
    constructor
    · rintro l w1 w2 ⟨hr, a, ll, c, hb, ho, hn⟩ hm
      obtain ⟨h1, r, h2⟩ := hrb w1 (.inl hr)
      exact ⟨hrs w1 w2 hr (by rw [hm.at' h1, h1]) (by rw [hm.at' h2, h2]), a, ll, c, hm.at' hb, row_mod ho hm fun _ _ => id, hn⟩
    · rintro l w1 w2 b o ⟨hr, a, ll, c, hb, ho, hn⟩ hbo hit hm
      obtain ⟨h1, r, h2⟩ := hrb w1 (.inl hr)
      have hne : ∀ k o', w1.heap[k]? = some o' → isIt o' = false → ¬ on b k := by
        intro k o' hk hf e
        cases e
        rw [hbo] at hk
        cases hk
        rw [hit] at hf
        cases hf
      refine ⟨hrs w1 w2 hr (by rw [hm.at h1 (hne _ _ h1 rfl), h1]) (by rw [hm.at h2 (hne _ _ h2 rfl), h2]), a, ll, c, hm.at hb (hne _ _ hb rfl), row_mod ho hm ?_, hn⟩
      intro k hk2
      rcases ho.2 with ⟨hv, _⟩ | ⟨g, cap, cur, hv, _, hg, _⟩
      · injection hv with e1; subst e1; simp [rowB] at hk2
      · injection hv with e1; subst e1; simp [rowB] at hk2; subst hk2; exact hne _ _ hg rfl
  refine hseq.2 (Got w Rdy) _ w1 _ (Kp.of_no (m0.trans m1)) hstab ⟨hr1, none, 0, 0, b1, World.ownsRow_nil _ _ _ _, fun k hk => by simp [rowB] at hk⟩ ?_ ?_
  · rintro pre x w2 hk2 ⟨hr2, a, ll, c, hb2, ho2, hn2⟩ hlen ⟨k, rfl⟩ R' hR'
    refine (hy (.int .u64 k) w2 (fun w3 => R' (.bool true) w3) hr2 ?_).mono fun v w3 ⟨hv, hR⟩ => by rw [hv]; exact hR
    refine ⟨hr2, fun w6 hbz m6 s6 => ?_⟩
    obtain ⟨q1, q2⟩ := hrec w2 (.inl hr2) _ _ _ _ hb2
    have hrow2 : ∀ k, rowB a k → k ≠ w0.heap.size ∧ k ≠ w0.heap.size + 1 := by
      intro k hk
      rcases ho2.2 with ⟨hv, _⟩ | ⟨g, cap, cur, hv, _, hg, _⟩
      · injection hv with e1; subst e1; simp [rowB] at hk
      · injection hv with e1; subst e1; simp [rowB] at hk; subst hk; exact hrec w2 (.inl hr2) _ _ _ _ hg
    have b6 := m6.at hb2 q2
    have o6 := row_mod ho2 m6 fun k hk => (hrow2 k hk).2
    obtain ⟨hll, _, _, _⟩ := row_len o6
    subst hll
    refine ⟨a, pre.length, c, by rw [cl b6]; rfl, ?_⟩
    intro w10 e10
    have m10 : Mod no w6 w10 := by subst e10; exact Mod.alloc _ _
    have b10 : w10.heap[w6.heap.size]? = some (.cells #[.int .u64 k] 27 (0, 0)) := by subst e10; exact new_at _ _
    have s10 : w10.heap.size = w6.heap.size + 1 := by subst e10; simp
    clear e10
    obtain ⟨a', c', w12, hrun, o12, m12, hnew⟩ := row_push (ty := 31) rowE (row_mod o6 m10 fun _ _ => id) (b := ⟨w6.heap.size, 0, none⟩) (m := 1) (cc := 1) (news := [.int .u64 k]) rfl (by decide)
      (by intro j v hj; cases j with
          | zero => simp at hj; subst hj; rw [cl1 b10]; rfl
          | succ j => simp at hj) (by simp [Value.oneCell']) (by omega)
    have hbox : ¬ rowB a w.heap.size := fun hk => by have := hn2 _ hk; omega
    have b12 := m12.at (m10.at' b6) hbox
    refine ⟨_, w12, hrun, _, _, _, rfl, ⟨_, by rw [cl1 b12]; rfl⟩, fz1 b12 _, ?_⟩
    intro w17 e17
    have m17 : Mod (on w.heap.size) w12 w17 := by subst e17; exact Mod.set1 _ _ _ _
    have b17 : w17.heap[w.heap.size]? = some (.cells #[.slice (some a') (pre.length + 1) c'] 31 (0, 0)) := by subst e17; rw [set1 b12]; rfl
    clear e17
    have hlt2 := lt_of_heap hb2
    have hnew' : ∀ k, rowB (some a') k → w.heap.size < k ∧ (rowB a k ∨ w6.heap.size ≤ k) := by
      intro k hk
      rcases hnew k hk with h | h
      · exact ⟨hn2 k h, .inl h⟩
      · exact ⟨by omega, .inr (by omega)⟩
    have o17 := row_mod o12 m17 fun k hk e => by cases e; have := (hnew' _ hk).1; omega
    have mA : Mod (fun k => rowB a k ∨ k = w.heap.size) w6 w17 := (m10.no_trans (m12.mono fun k _ hk => .inl hk)).trans' m17 fun k _ hk => .inr hk
    obtain ⟨h1, r, h2⟩ := hrb w6 (.inr hbz)
    have n1 : ¬ (rowB a w0.heap.size ∨ w0.heap.size = w.heap.size) := fun h => h.elim (fun h => (hrow2 _ h).1 rfl) (by omega)
    have n2 : ¬ (rowB a (w0.heap.size + 1) ∨ w0.heap.size + 1 = w.heap.size) := fun h => h.elim (fun h => (hrow2 _ h).2 rfl) (by omega)
    refine ⟨hbs w6 w17 hbz (by rw [mA.at h1 n1, h1]) (by rw [mA.at h2 n2, h2]), fun w3 hr3 m3 s3 => hR' w3 ?_ ?_⟩
    · -- what was older stands, and iterators do
      have mB : Mod (fun k => k = w0.heap.size + 1 ∨ (rowB a k ∨ k = w.heap.size)) w2 w3 := ((m6.mono fun k _ hk => .inl hk).trans' mA fun k _ hk => .inr hk).trans' m3 fun k _ hk => .inl hk
      refine Kp.of_mod mB fun k o ho hk hS => ?_
      obtain ⟨g1, r, g2⟩ := hrb w2 (.inl hr2)
      rcases hS with rfl | hS | rfl
      · rw [g2] at ho
        cases ho
        rcases hk with hk | hk
        · omega
        · cases hk
      · rcases ho2.2 with ⟨hv, _⟩ | ⟨g, cap, cur, hv, _, hg, _⟩
        · injection hv with e1; subst e1; simp [rowB] at hS
        · injection hv with e1
          subst e1
          have := hn2 _ hS
          simp [rowB] at hS
          subst hS
          rw [hg] at ho
          cases ho
          rcases hk with hk | hk
          · omega
          · cases hk
      · rw [hb2] at ho
        cases ho
        rcases hk with hk | hk
        · omega
        · cases hk
    · refine ⟨hr3, some a', pre.length + 1, c', m3.at b17 (fun e => q2 e), ?_, fun k hk => (hnew' k hk).1⟩
      rw [List.length_append]
      refine row_mod o17 m3 fun k hk e => ?_
      cases e
      rcases (hnew' _ hk).2 with h | h
      · exact (hrow2 _ h).2 rfl
      · have := lt_of_heap h2
        omega
  · rintro w2 xs hS ⟨hr2, a, ll, c, hb2, ho2, hn2⟩ hk2
    refine ⟨hr2, fun w3 m3 s3 hd3 => ?_⟩
    obtain ⟨q1, q2⟩ := hrec w2 (.inl hr2) _ _ _ _ hb2
    have hrow2 : ∀ k, rowB a k → k ≠ w0.heap.size ∧ k ≠ w0.heap.size + 1 := by
      intro k hk
      rcases ho2.2 with ⟨hv, _⟩ | ⟨g, cap, cur, hv, _, hg, _⟩
      · injection hv with e1; subst e1; simp [rowB] at hk
      · injection hv with e1; subst e1; simp [rowB] at hk; subst hk; exact hrec w2 (.inl hr2) _ _ _ _ hg
    have b3 := m3.at hb2 (fun e => e.elim q1 q2)
    have o3 := row_mod ho2 m3 fun k hk e => e.elim (hrow2 k hk).1 (hrow2 k hk).2
    obtain ⟨hll, _, _, _⟩ := row_len o3
    subst hll
    refine ⟨a, _, c, by rw [cl b3]; rfl, hd3, ?_⟩
    intro w4 e4
    have m4 : Mod (on w0.heap.size) w3 w4 := by subst e4; exact Mod.putObj _ _ _
    have o4 := row_mod o3 m4 fun k hk e => by cases e; exact (hrow2 _ hk).1 rfl
    refine h w4 a xs.length c xs hS o4 ?_ hn2
    have mB : Mod (fun k => k = w0.heap.size ∨ k = w0.heap.size + 1) w2 w4 := m3.trans' m4 fun k _ hk => .inl hk
    exact hk2.mod.new mB fun k hk => by rcases hk with rfl | rfl <;> omega

end Go.Proofs.Ytmnbnjkbbhjocaa.Sequint64

/- A range over a map, wherever its iterator lies. It names no program. -/
namespace Go.Proofs.Ytmnbnjkbbhjocaa.St
open Go

section
variable {P : Program}
/-- 'next' over a map that stands as it was: nothing is left; or one that is left comes out. -/
theorem next_at {w : World} {ty : TypeId} {it bm since c0 : Nat} {seen : Array Nat} {es : Array MapEntry} {clock : Nat} (hit : w.heap[it]? = some (.mapIter (some bm) since seen c0)) (hb : w.heap[bm]? = some (.map es clock))
    (hold : ∀ x ∈ es.toList, x.born < since) (hsc : since ≤ c0) :
    ((leftOf es seen).size = 0 ∧ (Instr.next (.pointer (some ⟨it, 0, none⟩)) false ty).run P w = .ok (.tuple #[.bool false]) w) ∨
    ∃ e ∈ (leftOf es seen).toList, ∃ w' : World, (Instr.next (.pointer (some ⟨it, 0, none⟩)) false ty).run P w = .ok (.tuple #[.bool true, e.key, e.val]) w' ∧ Mod (on it) w w' ∧
      w'.heap[it]? = some (.mapIter (some bm) since (seen.push e.born) clock) := by
  simp only [Instr.next, getObj, Sem.run_bind, Sem.run, hit, hb, Result.andThen, next_test_false seen es since c0 hold hsc, Bool.false_eq_true, if_false]
  unfold leftOf
  have hmem : ∀ x ∈ (Array.filter (fun e => !seen.contains e.born) es).toList, x.born < since := fun x hx => hold x (by simp at hx ⊢; exact hx.1)
  generalize Array.filter (fun e => !seen.contains e.born) es = L at hmem ⊢
  have e1 : L.filter (fun x => decide (x.born < since)) = L := Array.filter_eq_self.2 (fun x hx => by simpa using hmem x (by simpa using hx))
  have e2 : L.filter (fun x => decide (x.born ≥ since)) = #[] := by
    rw [Array.filter_eq_empty_iff]
    intro x hx
    have := hmem x (by simpa using hx)
    simp
    omega
  simp only [e1, e2, Array.append_empty]
  by_cases h0 : L.size = 0
  · left
    have : L = #[] := Array.eq_empty_of_size_eq_zero h0
    subst this
    refine ⟨rfl, ?_⟩
    simp [choose, Sem.run, Question.forced]
  · right
    have hne : L.isEmpty = false := by simp [Array.isEmpty, h0]
    simp only [hne, Bool.false_eq_true, if_false, Array.empty_append, Array.size_map]
    have hch : ∃ (j : Nat) (w1 : World), j < L.size ∧ Mod no w w1 ∧ w1.heap = w.heap ∧ (choose (Question.mapNext L.size)).run P w = .ok j w1 := by
      by_cases hf : L.size ≤ 1
      · exact ⟨0, w, by omega, Mod.refl _ _, rfl, by simp [choose, Sem.run, Question.forced, hf]⟩
      · exact ⟨_, w.drew, Nat.mod_lt _ (by omega), Mod.drew w, rfl, by
          simp only [choose, Sem.run, Question.forced, decide_eq_true_eq, hf, if_false, Question.cut]
          rfl⟩
    obtain ⟨j, w1, hj, hm1, hheap, hrun⟩ := hch
    have hit1 : w1.heap[it]? = some (.mapIter (some bm) since seen c0) := by rw [hheap, hit]
    have hset : ∀ o' : Obj, (setObj it o').run P w1 = .ok () (w1.putObj it o') := fun o' => by
      simp [setObj, Sem.run, hit1, World.putObj]
    refine ⟨L[j], by simp, w1.putObj it (.mapIter (some bm) since (seen.push L[j].born) clock), ?_, hm1.no_trans (Mod.putObj w1 it _), put_at _ hit1⟩
    simp only [hrun, Array.getElem?_map, Array.getElem?_eq_getElem hj, Option.map_some, Sem.run_bind, hset, Result.andThen]
    rfl

theorem entry_at {w : World} {it bm since : Nat} {seen : Array Nat} {es : Array MapEntry} {clock : Nat} {e : MapEntry} (hit : w.heap[it]? = some (.mapIter (some bm) since (seen.push e.born) clock)) (hb : w.heap[bm]? = some (.map es clock))
    (he : e ∈ es.toList) (hn : (es.toList.map (·.born)).Nodup) : (Instr.entry (.pointer (some ⟨it, 0, none⟩))).run P w = .ok (.tuple #[e.key, e.val]) w := by
  have hf : es.find? (·.born == e.born) = some e := by rw [← Array.find?_toList]; exact find_born e es.toList hn he
  simp only [Instr.entry, getObj, Sem.run_bind, Sem.run, hit, hb, Result.andThen, Array.back?_push, bne_self_eq_false, Bool.false_eq_true, if_false, hf]
  rfl
end

theorem filter_perm {p q : MapEntry → Bool} {e : MapEntry} : ∀ {l : List MapEntry}, (l.map (·.born)).Nodup → e ∈ l → p e = true → (∀ x ∈ l, q x = (p x && !(x.born == e.born))) → (l.filter p).Perm (e :: l.filter q)
  | [], _, h, _, _ => by simp at h
  | x :: l, hn, he, hp, hq => by
    rw [List.map_cons, List.nodup_cons] at hn
    have hqx := hq x (by simp)
    rcases List.mem_cons.1 he with rfl | he'
    · have hqe : q e = false := by rw [hqx]; simp
      rw [List.filter_cons_of_pos hp, List.filter_cons_of_neg (by simp [hqe])]
      have : l.filter p = l.filter q := by
        apply List.filter_congr
        intro y hy
        rw [hq y (by simp [hy])]
        have : (y.born == e.born) = false := beq_false_of_ne fun h => hn.1 (by rw [← h]; exact List.mem_map_of_mem hy)
        simp [this]
      rw [this]
    · have hne : (x.born == e.born) = false := beq_false_of_ne fun h => hn.1 (by rw [h]; exact List.mem_map_of_mem he')
      have ih := filter_perm (l := l) hn.2 he' hp fun y hy => hq y (by simp [hy])
      have hqp : q x = p x := by rw [hqx, hne]; simp
      cases hpx : p x with
      | true =>
        rw [List.filter_cons_of_pos hpx, List.filter_cons_of_pos (by rw [hqp, hpx])]
        exact (List.Perm.cons x ih).trans (List.Perm.swap e x _)
      | false =>
        rw [List.filter_cons_of_neg (by simp [hpx]), List.filter_cons_of_neg (by simp [hqp, hpx])]
        exact ih

theorem left_perm {es : Array MapEntry} {seen : Array Nat} {e : MapEntry} (hn : (es.toList.map (·.born)).Nodup) (he : e ∈ (leftOf es seen).toList) :
    (leftOf es seen).toList.Perm (e :: (leftOf es (seen.push e.born)).toList) := by
  obtain ⟨h1, h2⟩ := mem_left he
  simp only [leftOf, Array.toList_filter]
  refine filter_perm hn h1 (by simpa using h2) fun x _ => ?_
  rw [contains_push, Bool.not_or]
end Go.Proofs.Ytmnbnjkbbhjocaa.St

/- Plain laws on lists that are sorted in parts: heaps, parting at an element, what is left to sort. It names no program. -/
namespace Go.Proofs.Ytmnbnjkbbhjocaa.St
variable {α : Type} [Inhabited α] [LE α] [_root_.LT α] [Lin α]

/-! ### Heaps -/
def Hp (xs : List α) (f lo hi : Nat) : Prop := ∀ p c, lo ≤ p → (c = 2 * p + 1 ∨ c = 2 * p + 2) → c < hi → at0 xs (f + c) ≤ at0 xs (f + p)
structure Sift (xs : List α) (f lo hi r : Nat) : Prop where
  a : ∀ p c, lo ≤ p → p ≠ r → (c = 2 * p + 1 ∨ c = 2 * p + 2) → c < hi → at0 xs (f + c) ≤ at0 xs (f + p)
  b : ∀ q c, lo ≤ q → (r = 2 * q + 1 ∨ r = 2 * q + 2) → (c = 2 * r + 1 ∨ c = 2 * r + 2) → c < hi → at0 xs (f + c) ≤ at0 xs (f + q)
omit [_root_.LT α] [Lin α] in
theorem Sift.start {xs : List α} {f lo hi : Nat} (h : Hp xs f (lo + 1) hi) : Sift xs f lo hi lo :=
  ⟨fun p c h1 h2 h3 h4 => h p c (by omega) h3 h4, fun q c h1 h2 => by omega⟩
omit [_root_.LT α] [Lin α] in
theorem Sift.done {xs : List α} {f lo hi r : Nat} (h : Sift xs f lo hi r) (hc : ∀ c, (c = 2 * r + 1 ∨ c = 2 * r + 2) → c < hi → at0 xs (f + c) ≤ at0 xs (f + r)) : Hp xs f lo hi := by
  intro p c h1 h2 h3
  by_cases e : p = r
  · subst e; exact hc c h2 h3
  · exact h.a p c h1 e h2 h3
theorem Sift.step {xs : List α} {f lo hi r c : Nat} (h : Sift xs f lo hi r) (hr : lo ≤ r) (hx : f + hi ≤ xs.length) (hc : c = 2 * r + 1 ∨ c = 2 * r + 2) (hch : c < hi)
    (hmax : ∀ e, (e = 2 * r + 1 ∨ e = 2 * r + 2) → e < hi → at0 xs (f + e) ≤ at0 xs (f + c)) (hlt : at0 xs (f + r) < at0 xs (f + c)) : Sift (swapL xs (f + r) (f + c)) f lo hi c := by
  have hs : ∀ k, at0 (swapL xs (f + r) (f + c)) (f + k) = if k = c then at0 xs (f + r) else if k = r then at0 xs (f + c) else at0 xs (f + k) := by
    intro k
    rw [at0_swapL (by omega) (by omega)]
    by_cases h1 : k = c
    · subst h1; rw [if_pos rfl, if_pos rfl]
    · rw [if_neg h1, if_neg (by omega)]
      by_cases h2 : k = r
      · subst h2; rw [if_pos rfl, if_pos rfl]
      · rw [if_neg h2, if_neg (by omega)]
  refine ⟨fun p e h1 h2 h3 h4 => ?_, fun q e h1 h2 h3 h4 => ?_⟩
  · rw [hs e, hs p, if_neg h2]
    by_cases hp : p = r
    · subst hp
      rw [if_pos rfl]
      by_cases he : e = c
      · subst he; rw [if_pos rfl]; exact Lin.lle hlt
      · rw [if_neg he, if_neg (by omega)]; exact hmax e h3 h4
    · rw [if_neg hp]
      by_cases he : e = c
      · omega
      · rw [if_neg he]
        by_cases he' : e = r
        · rw [if_pos he']
          subst he'
          exact h.b p c h1 h3 hc hch
        · rw [if_neg he']; exact h.a p e h1 hp h3 h4
  · have hq : q = r := by omega
    subst hq
    rw [hs e, hs q, if_neg (by omega), if_neg (by omega), if_neg (by omega), if_pos rfl]
    exact h.a c e (by omega) (by omega) h3 h4
theorem Hp.top {xs : List α} {f n : Nat} (h : Hp xs f 0 n) : ∀ k, k < n → at0 xs (f + k) ≤ at0 xs f := by
  intro k
  induction k using Nat.strongRecOn with
  | _ k ih =>
    intro hk
    by_cases h0 : k = 0
    · subst h0; exact Lin.refl _
    · refine Lin.tr (h ((k - 1) / 2) k (Nat.zero_le _) (by omega) hk) (ih _ (by omega) (by omega))

/-- While a heap is taken down: [0, n) is one, what is behind it is sorted, and not less. -/
structure Pop (xs : List α) (f n hi : Nat) : Prop where
  hp : Hp xs f 0 n
  srt : ∀ p q, n ≤ p → p < q → q < hi → at0 xs (f + p) ≤ at0 xs (f + q)
  le : ∀ k q, k < n → n ≤ q → q < hi → at0 xs (f + k) ≤ at0 xs (f + q)
omit [_root_.LT α] [Lin α] in
theorem Pop.swap {xs : List α} {f i hi : Nat} (h : Pop xs f (i + 1) hi) (hi1 : i < hi) (hx : f + hi ≤ xs.length) : Hp (swapL xs f (f + i)) f (0 + 1) i := by
  intro p c h1 h2 h3
  rw [at0_swapL (by omega) (by omega), at0_swapL (by omega) (by omega), if_neg (by omega), if_neg (by omega), if_neg (by omega), if_neg (by omega)]
  exact h.hp p c (by omega) h2 (by omega)
theorem Pop.step {xs zs : List α} {f i hi : Nat} (h : Pop xs f (i + 1) hi) (hi1 : i < hi) (hx : f + hi ≤ xs.length) (hs : Seg (f + 0) (f + i) (swapL xs f (f + i)) zs) (hz : Hp zs f 0 i) : Pop zs f i hi := by
  have hs : Seg f (f + i) (swapL xs f (f + i)) zs := hs
  have sw : ∀ k, at0 (swapL xs f (f + i)) k = if k = f + i then at0 xs f else if k = f then at0 xs (f + i) else at0 xs k := fun k => at0_swapL (by omega) (by omega)
  have hii : at0 zs (f + i) = at0 xs f := by rw [hs.out _ (by omega), sw, if_pos rfl]
  have hq : ∀ q, i < q → at0 zs (f + q) = at0 xs (f + q) := fun q hq => by rw [hs.out _ (by omega), sw, if_neg (by omega), if_neg (by omega)]
  have old : ∀ P : α → Prop, (∀ k, k < i + 1 → P (at0 xs (f + k))) → ∀ k, k < i → P (at0 zs (f + k)) := by
    intro P hP k hk
    refine hs.all (by simp; omega) (P := P) (fun m h1 h2 => ?_) (f + k) (by omega) (by omega)
    rw [sw, if_neg (by omega)]
    by_cases e : m = f
    · rw [if_pos e]; exact hP i (by omega)
    · rw [if_neg e]
      have := hP (m - f) (by omega)
      rwa [show f + (m - f) = m by omega] at this
  refine ⟨hz, fun p q h1 h2 h3 => ?_, fun k q h1 h2 h3 => ?_⟩
  · rw [hq q (by omega)]
    by_cases e : p = i
    · rw [e, hii]; exact h.le 0 q (by omega) (by omega) h3
    · rw [hq p (by omega)]; exact h.srt p q (by omega) h2 h3
  · by_cases e : q = i
    · rw [e, hii]; exact old (fun v => v ≤ at0 xs f) (fun m hm => h.hp.top m hm) k h1
    · rw [hq q (by omega)]; exact old (fun v => v ≤ at0 xs (f + q)) (fun m hm => h.le m q hm (by omega) h3) k h1
omit [_root_.LT α] [Lin α] in
theorem Pop.done {xs : List α} {f hi : Nat} (h : Pop xs f 0 hi) : Srt xs f (f + hi) := by
  intro p q h1 h2 h3
  have := h.srt (p - f) (q - f) (by omega) (by omega) (by omega)
  rwa [show f + (p - f) = p by omega, show f + (q - f) = q by omega] at this
omit [_root_.LT α] [Lin α] in
theorem Pop.start {xs : List α} {f hi : Nat} (h : Hp xs f 0 hi) : Pop xs f hi hi := ⟨h, fun _ _ _ _ _ => by omega, fun _ _ _ _ _ => by omega⟩

/-! ### Parting -/
structure Pt (xs : List α) (a b i j : Nat) : Prop where
  ai : a + 1 ≤ i
  ij : i ≤ j + 1
  jb : j < b
  lo : ∀ k, a < k → k < i → at0 xs k ≤ at0 xs a
  hi : ∀ k, j < k → k < b → at0 xs a ≤ at0 xs k
omit [_root_.LT α] [Lin α] in
theorem Pt.up {xs : List α} {a b i j : Nat} (h : Pt xs a b i j) (hij : i ≤ j) (hx : at0 xs i ≤ at0 xs a) : Pt xs a b (i + 1) j :=
  ⟨by have := h.ai; omega, by omega, h.jb, fun k h1 h2 => by
    by_cases e : k = i
    · rw [e]; exact hx
    · exact h.lo k h1 (by omega), h.hi⟩
omit [_root_.LT α] [Lin α] in
theorem Pt.down {xs : List α} {a b i j : Nat} (h : Pt xs a b i j) (hij : i ≤ j) (hx : at0 xs a ≤ at0 xs j) : Pt xs a b i (j - 1) :=
  ⟨h.ai, by have := h.ai; omega, by have := h.jb; omega, h.lo, fun k h1 h2 => by
    by_cases e : k = j
    · rw [e]; exact hx
    · exact h.hi k (by omega) h2⟩
omit [_root_.LT α] [Lin α] in
theorem Pt.swap {xs : List α} {a b i j : Nat} (h : Pt xs a b i j) (hb : b ≤ xs.length) (hij : i < j) (h1 : at0 xs j ≤ at0 xs a) (h2 : at0 xs a ≤ at0 xs i) : Pt (swapL xs i j) a b (i + 1) (j - 1) := by
  have hai := h.ai
  have hjb := h.jb
  have sw : ∀ k, at0 (swapL xs i j) k = if k = j then at0 xs i else if k = i then at0 xs j else at0 xs k := fun k => at0_swapL (by omega) (by omega)
  have swa : at0 (swapL xs i j) a = at0 xs a := by rw [sw, if_neg (by omega), if_neg (by omega)]
  refine ⟨by omega, by omega, by omega, fun k h3 h4 => ?_, fun k h3 h4 => ?_⟩
  · rw [swa, sw k, if_neg (by omega)]
    by_cases e : k = i
    · rw [if_pos e]; exact h1
    · rw [if_neg e]; exact h.lo k h3 (by omega)
  · rw [swa, sw k]
    by_cases e : k = j
    · rw [if_pos e]; exact h2
    · rw [if_neg e, if_neg (by omega)]; exact h.hi k (by omega) h4
/-- What is at m parts the others. -/
structure Parted (xs : List α) (a m b : Nat) : Prop where
  am : a ≤ m
  mb : m < b
  lo : ∀ k, a ≤ k → k < m → at0 xs k ≤ at0 xs m
  hi : ∀ k, m < k → k < b → at0 xs m ≤ at0 xs k
omit [_root_.LT α] [Lin α] in
theorem Pt.done {xs : List α} {a b i j : Nat} (h : Pt xs a b i j) (hb : b ≤ xs.length) (hij : j < i) : Parted (swapL xs j a) a j b := by
  have hai := h.ai
  have hjb := h.jb
  have hij' := h.ij
  have sw : ∀ k, at0 (swapL xs j a) k = if k = a then at0 xs j else if k = j then at0 xs a else at0 xs k := fun k => at0_swapL (by omega) (by omega)
  have swj : at0 (swapL xs j a) j = at0 xs a := by
    rw [sw]
    by_cases e : j = a
    · rw [if_pos e, e]
    · rw [if_neg e, if_pos rfl]
  refine ⟨by omega, hjb, fun k h1 h2 => ?_, fun k h1 h2 => ?_⟩
  · rw [swj, sw k]
    by_cases e : k = a
    · rw [if_pos e]; exact h.lo j (by omega) (by omega)
    · rw [if_neg e, if_neg (by omega)]; exact h.lo k (by omega) (by omega)
  · rw [swj, sw k, if_neg (by omega), if_neg (by omega)]
    exact h.hi k h1 h2
omit [_root_.LT α] [Lin α] in
theorem Parted.left {xs ys : List α} {a m b : Nat} (h : Parted xs a m b) (hb : b ≤ xs.length) (hs : Seg a m xs ys) : Parted ys a m b := by
  have hm := h.mb
  refine ⟨h.am, h.mb, fun k h1 h2 => ?_, fun k h1 h2 => ?_⟩
  · rw [hs.out m (by omega)]
    exact hs.all (by omega) (P := fun v => v ≤ at0 xs m) (fun k h1 h2 => h.lo k h1 h2) k h1 h2
  · rw [hs.out m (by omega), hs.out k (by omega)]; exact h.hi k h1 h2
omit [_root_.LT α] [Lin α] in
theorem Parted.right {xs ys : List α} {a m b : Nat} (h : Parted xs a m b) (hb : b ≤ xs.length) (hs : Seg (m + 1) b xs ys) : Parted ys a m b := by
  have hm := h.mb
  refine ⟨h.am, h.mb, fun k h1 h2 => ?_, fun k h1 h2 => ?_⟩
  · rw [hs.out m (by omega), hs.out k (by omega)]; exact h.lo k h1 h2
  · rw [hs.out m (by omega)]
    exact hs.all (by omega) (P := fun v => at0 xs m ≤ v) (fun k h1 h2 => h.hi k (by omega) h2) k (by omega) h2

/-! ### What is left to sort -/
/-- Of [a, b) all but [a', b') stands where it belongs. -/
def Alm (xs : List α) (a b a' b' : Nat) : Prop := ∀ p q, a ≤ p → p < q → q < b → ¬ (a' ≤ p ∧ q < b') → at0 xs p ≤ at0 xs q
/-- What stands before a is no more than any of [a, b). -/
def Bel (xs : List α) (a b : Nat) : Prop := 0 < a → ∀ k, a ≤ k → k < b → at0 xs (a - 1) ≤ at0 xs k
section
omit [_root_.LT α] [Lin α]
variable {xs ys : List α} {a b a' b' m : Nat}
theorem Alm.start (xs : List α) (a b : Nat) : Alm xs a b a b := fun _ _ h1 _ h3 h4 => absurd ⟨h1, h3⟩ h4
theorem Alm.seg (h : Alm xs a b a' b') (hs : Seg a' b' xs ys) (ha : a ≤ a') (hb : b' ≤ b) (hx : b ≤ xs.length) : Alm ys a b a' b' := by
  intro p q h1 h2 h3 h4
  by_cases hp : a' ≤ p ∧ p < b'
  · rw [hs.out q (by omega)]
    exact hs.all (by omega) (P := fun v => v ≤ at0 xs q) (fun k h5 h6 => h k q (by omega) (by omega) h3 (by omega)) p hp.1 hp.2
  · rw [hs.out p (by omega)]
    by_cases hq : a' ≤ q ∧ q < b'
    · exact hs.all (by omega) (P := fun v => at0 xs p ≤ v) (fun k h5 h6 => h p k h1 (by omega) (by omega) (by omega)) q hq.1 hq.2
    · rw [hs.out q (by omega)]; exact h p q h1 h2 h3 h4
theorem Alm.full (h : Alm xs a b a' b') (hs : Srt xs a' b') : Srt xs a b := by
  intro p q h1 h2 h3
  by_cases e : a' ≤ p ∧ q < b'
  · exact hs p q e.1 h2 e.2
  · exact h p q h1 h2 h3 e
theorem Bel.seg (h : Bel xs a b) (hs : Seg a b xs ys) (hx : b ≤ xs.length) : Bel ys a b := by
  intro h0 k h1 h2
  rw [hs.out (a - 1) (by omega)]
  exact hs.all hx (P := fun v => at0 xs (a - 1) ≤ v) (fun k h3 h4 => h h0 k h3 h4) k h1 h2
theorem Bel.mono (h : Bel xs a b) (hb : m ≤ b) : Bel xs a m := fun h0 k h1 h2 => h h0 k h1 (by omega)
theorem Parted.bel (h : Parted xs a m b) : Bel xs (m + 1) b := fun _ k h1 h2 => h.hi k (by omega) h2
end
theorem Alm.left {xs : List α} {a b a' b' m : Nat} (h : Alm xs a b a' b') (hp : Parted xs a' m b') (hs : Srt xs a' m) : Alm xs a b (m + 1) b' := by
  intro p q h1 h2 h3 h4
  have := hp.am
  by_cases e : a' ≤ p ∧ q < b'
  · have hpm : p ≤ m := by omega
    by_cases e1 : p = m
    · subst e1; exact hp.hi q h2 e.2
    · have h5 := hp.lo p e.1 (by omega)
      by_cases e2 : q < m
      · exact hs p q e.1 h2 e2
      · by_cases e3 : q = m
        · rw [e3]; exact h5
        · exact Lin.tr h5 (hp.hi q (by omega) e.2)
  · exact h p q h1 h2 h3 e
theorem Alm.right {xs : List α} {a b a' b' m : Nat} (h : Alm xs a b a' b') (hp : Parted xs a' m b') (hs : Srt xs (m + 1) b') : Alm xs a b a' m := by
  intro p q h1 h2 h3 h4
  have := hp.mb
  by_cases e : a' ≤ p ∧ q < b'
  · have hqm : m ≤ q := by omega
    by_cases e1 : q = m
    · subst e1; exact hp.lo p e.1 h2
    · have h5 := hp.hi q (by omega) e.2
      by_cases e2 : m < p
      · exact hs p q (by omega) h2 e.2
      · by_cases e3 : p = m
        · rw [e3]; exact h5
        · exact Lin.tr (hp.lo p e.1 (by omega)) h5
  · exact h p q h1 h2 h3 e
/-- [a, m) is of what is least, [m, b) of what is no less. -/
structure Eqd (xs : List α) (a m b : Nat) : Prop where
  am : a < m
  mb : m ≤ b
  srt : Srt xs a m
  le : ∀ p q, a ≤ p → p < m → m ≤ q → q < b → at0 xs p ≤ at0 xs q
  bel : Bel xs m b
theorem Pt.eqd {xs : List α} {a b i j : Nat} (h : Pt xs a b i j) (hij : j < i) (hmin : ∀ k, a ≤ k → k < b → at0 xs a ≤ at0 xs k) : Eqd xs a i b := by
  have h1 := h.ai
  have h2 := h.ij
  have h3 := h.jb
  have hlo : ∀ k, a ≤ k → k < i → at0 xs k ≤ at0 xs a := fun k h4 h5 => by
    by_cases e : k = a
    · rw [e]; exact Lin.refl _
    · exact h.lo k (by omega) h5
  refine ⟨by omega, by omega, fun p q h4 h5 h6 => ?_, fun p q h4 h5 h6 h7 => ?_, fun _ k h4 h5 => ?_⟩
  · exact Lin.tr (hlo p h4 (by omega)) (hmin q (by omega) (by omega))
  · exact Lin.tr (hlo p h4 h5) (hmin q (by omega) h7)
  · exact Lin.tr (hlo (i - 1) (by omega) (by omega)) (hmin k (by omega) h5)
omit [_root_.LT α] [Lin α] in
theorem Alm.eqd {xs : List α} {a b a' b' m : Nat} (h : Alm xs a b a' b') (he : Eqd xs a' m b') : Alm xs a b m b' := by
  intro p q h1 h2 h3 h4
  by_cases e : a' ≤ p ∧ q < b'
  · by_cases e1 : q < m
    · exact he.srt p q e.1 h2 e1
    · exact he.le p q e.1 (by omega) (by omega) e.2
  · exact h p q h1 h2 h3 e
end Go.Proofs.Ytmnbnjkbbhjocaa.St

/- The formulas of functions, printed by a program of mine (gen.py) out of the translation. -/
namespace Go.Proofs.Ytmnbnjkbbhjocaa
open Go Go.Proofs.Ytmnbnjkbbhjocaa.St
set_option maxRecDepth 100000

/-- cmp.isNaN[uint64] -/
noncomputable def C87 : Code := (Try.f87.body).getD .skip
def pl87 : Nat → Plan := fun _ => .done
def ls87 : Nat → List (Nat × LT) := fun _ => []
def W87 (x : Int) (w : World) (R : Value → World → Prop) : Prop :=
  (R (Value.bool (x != x)) (w))
theorem ca87 (x : Int) (w : World) (R : Value → World → Prop) (h : W87 x w R) : Ca Try.prog 87 ⟨[(.int .u64 x)]⟩ w R := by
  have h1 : Try.prog.follows .mixedOrders = true := by kernel_rfl
  have h2 : Try.f87.body = some C87 := by kernel_rfl
  have h3 : (Try.f87.name == "runtime.NumGoroutine") = false := by kernel_rfl
  have h6 : Try.f87.results.toList = [.tmp 2] := by kernel_rfl
  have h4 : Nat.ble 1 6 = true := by kernel_rfl
  have h5 : okCode 6 pl87 ls87 C87 0 = true := by kernel_rfl
  have e : W87 x w R = wpC none Try.prog 6 pl87 ls87 C87 0 (endP Try.prog [.tmp 2] R) (fr0 [(.int .u64 x)]) [] w := by kernel_rfl
  exact ca_of' (P := Try.prog) (g := 87) (fn := Try.f87) (c := C87) (m := 6) (rs := [.tmp 2]) (args := [(.int .u64 x)]) (pl := pl87) (ls := ls87) (w := w) (R := R) h1 Try.func87 h2 Try.ntmps87 h6 h3 h4 h5 (Eq.mp e h)

/-- cmp.Less[uint64] -/
noncomputable def C80 : Code := (Try.f80.body).getD .skip
def pl80 : Nat → Plan := fun _ => .done
def ls80 : Nat → List (Nat × LT) := fun _ => []
def W80 (x : Int) (y : Int) (w : World) (R : Value → World → Prop) : Prop :=
  (Ca Try.prog (87) (Array.mk [Value.int IntKind.u64 x]) (w) (fun v0 => (fun w1 =>
    (∃ b2 : Bool, ((v0 = Value.bool b2) ∧ (ifK (b2)
      (Ca Try.prog (87) (Array.mk [Value.int IntKind.u64 y]) (w1) (fun v3 => (fun w4 =>
        (∃ b5 : Bool, ((v3 = Value.bool b5) ∧ (ifK (!b5)
          (R (Value.bool true) (w4))
          (R (Value.bool (decide (x < y))) (w4))))))))
      (R (Value.bool (decide (x < y))) (w1))))))))
theorem ca80 (x : Int) (y : Int) (w : World) (R : Value → World → Prop) (h : W80 x y w R) : Ca Try.prog 80 ⟨[(.int .u64 x), (.int .u64 y)]⟩ w R := by
  have h1 : Try.prog.follows .mixedOrders = true := by kernel_rfl
  have h2 : Try.f80.body = some C80 := by kernel_rfl
  have h3 : (Try.f80.name == "runtime.NumGoroutine") = false := by kernel_rfl
  have h6 : Try.f80.results.toList = [.tmp 4] := by kernel_rfl
  have h4 : Nat.ble 2 17 = true := by kernel_rfl
  have h5 : okCode 17 pl80 ls80 C80 0 = true := by kernel_rfl
  have e : W80 x y w R = wpC none Try.prog 17 pl80 ls80 C80 0 (endP Try.prog [.tmp 4] R) (fr0 [(.int .u64 x), (.int .u64 y)]) [] w := by kernel_rfl
  exact ca_of' (P := Try.prog) (g := 80) (fn := Try.f80) (c := C80) (m := 17) (rs := [.tmp 4]) (args := [(.int .u64 x), (.int .u64 y)]) (pl := pl80) (ls := ls80) (w := w) (R := R) h1 Try.func80 h2 Try.ntmps80 h6 h3 h4 h5 (Eq.mp e h)

/-- slices.insertionSortOrdered[uint64] -/
noncomputable def C74 : Code := (Try.f74.body).getD .skip
def pl74 : Nat → Plan
  | 4 => (.quiet 0 (.quiet 1 (.quiet 2 (.quiet 3 (.quiet 4 (.quiet 5 (.quiet 6 (.quiet 7 (.quiet 8 (.quiet 9 (.quiet 10 (.quiet 11 (.quiet 12 (.eff 13 [] (.quiet 14 .done)))))))))))))))
  | 6 => (.quiet 0 (.quiet 1 (.quiet 2 (.quiet 3 (.quiet 4 (.quiet 5 (.quiet 6 (.quiet 7 (.quiet 8 (.quiet 9 (.quiet 10 (.quiet 11 (.quiet 12 (.quiet 13 (.quiet 14 (.eff 15 [] (.quiet 16 (.eff 17 [] .done))))))))))))))))))
  | _ => .done
def ls74 : Nat → List (Nat × LT)
  | 1 => [(6, (.one (.int .i64)))]
  | 6 => [(7, (.one (.int .i64)))]
  | _ => []
def W74 (dataa : Option Addr) (datal : Nat) (_datac : Nat) (a_ : Int) (b : Int) (w : World) (R : Value → World → Prop) : Prop :=
  (∃ z0 : Int → World → Prop, (∃ z1 : Int → World → Nat, ((z0 (IntKind.wrap IntKind.i64 (a_ + 1)) (w)) ∧ (∀ (_ : Nat → Value), (∀ (x3 : Int), (∀ (w4 : World), ((z0 (x3) (w4)) → (ifK (decide (x3 < b))
    (∃ z5 : Int → World → Prop, (∃ z6 : Int → World → Nat, ((z5 (x3) (w4)) ∧ (∀ (_ : Nat → Value), (∀ (x8 : Int), (∀ (w9 : World), ((z5 (x8) (w9)) → (atW (World.drew w9) (fun w10 =>
      (ifK (decide (x8 > a_))
        (∃ a11 : Addr, ((dataa = some a11) ∧ (((0 : Int) ≤ x8) ∧ (((x8 : Int) < (↑datal : Int)) ∧ (∃ x12 : Int, ((World.cell? w10 (Addr.add a11 (Int.toNat x8 * 1)) = some (Value.int IntKind.u64 x12)) ∧ (∃ a13 : Addr, ((dataa = some a13) ∧ (((0 : Int) ≤ IntKind.wrap IntKind.i64 (x8 - 1)) ∧ (((IntKind.wrap IntKind.i64 (x8 - 1) : Int) < (↑datal : Int)) ∧ (∃ x14 : Int, ((World.cell? w10 (Addr.add a13 (Int.toNat (IntKind.wrap IntKind.i64 (x8 - 1)) * 1)) = some (Value.int IntKind.u64 x14)) ∧ (Ca Try.prog (80) (Array.mk [Value.int IntKind.u64 x12, Value.int IntKind.u64 x14]) (w10) (fun v15 => (fun w16 =>
          (∃ b17 : Bool, ((v15 = Value.bool b17) ∧ (ifK (b17)
            (atW (World.drew w16) (fun w18 =>
              (∃ a19 : Addr, ((dataa = some a19) ∧ (((0 : Int) ≤ IntKind.wrap IntKind.i64 (x8 - 1)) ∧ (((IntKind.wrap IntKind.i64 (x8 - 1) : Int) < (↑datal : Int)) ∧ (∃ x20 : Int, ((World.cell? w18 (Addr.add a19 (Int.toNat (IntKind.wrap IntKind.i64 (x8 - 1)) * 1)) = some (Value.int IntKind.u64 x20)) ∧ (∃ a21 : Addr, ((dataa = some a21) ∧ (((0 : Int) ≤ x8) ∧ (((x8 : Int) < (↑datal : Int)) ∧ (∃ x22 : Int, ((World.cell? w18 (Addr.add a21 (Int.toNat x8 * 1)) = some (Value.int IntKind.u64 x22)) ∧ (∃ a23 : Addr, ((dataa = some a23) ∧ (((0 : Int) ≤ x8) ∧ (((x8 : Int) < (↑datal : Int)) ∧ ((∃ v24 : Value, (World.cell? w18 (Addr.add (Addr.add a23 (Int.toNat x8 * 1)) 0) = some v24)) ∧ ((World.frozen? w18 (Addr.add (Addr.add a23 (Int.toNat x8 * 1)) 0) = false) ∧ (atW (World.setCell w18 (Addr.add (Addr.add a23 (Int.toNat x8 * 1)) 0) (Value.int IntKind.u64 x20)) (fun w25 =>
                (∃ a26 : Addr, ((dataa = some a26) ∧ (((0 : Int) ≤ IntKind.wrap IntKind.i64 (x8 - 1)) ∧ (((IntKind.wrap IntKind.i64 (x8 - 1) : Int) < (↑datal : Int)) ∧ ((∃ v27 : Value, (World.cell? w25 (Addr.add (Addr.add a26 (Int.toNat (IntKind.wrap IntKind.i64 (x8 - 1)) * 1)) 0) = some v27)) ∧ ((World.frozen? w25 (Addr.add (Addr.add a26 (Int.toNat (IntKind.wrap IntKind.i64 (x8 - 1)) * 1)) 0) = false) ∧ (atW (World.setCell w25 (Addr.add (Addr.add a26 (Int.toNat (IntKind.wrap IntKind.i64 (x8 - 1)) * 1)) 0) (Value.int IntKind.u64 x22)) (fun w28 =>
                  ((z5 (IntKind.wrap IntKind.i64 (x8 - 1)) (w28)) ∧ (z6 (IntKind.wrap IntKind.i64 (x8 - 1)) w28 < z6 x8 w9))))))))))))))))))))))))))))))))
            ((z0 (IntKind.wrap IntKind.i64 (x3 + 1)) (w16)) ∧ (z1 (IntKind.wrap IntKind.i64 (x3 + 1)) w16 < z1 x3 w4))))))))))))))))))))
        ((z0 (IntKind.wrap IntKind.i64 (x3 + 1)) (w10)) ∧ (z1 (IntKind.wrap IntKind.i64 (x3 + 1)) w10 < z1 x3 w4))))))))))))
    (R (Value.tuple (Array.mk (List.reverse []))) (w4))))))))))
theorem ca74 (dataa : Option Addr) (datal : Nat) (datac : Nat) (a_ : Int) (b : Int) (w : World) (R : Value → World → Prop) (h : W74 dataa datal datac a_ b w R) : Ca Try.prog 74 ⟨[(.slice dataa datal datac), (.int .i64 a_), (.int .i64 b)]⟩ w R := by
  have h1 : Try.prog.follows .mixedOrders = true := by kernel_rfl
  have h2 : Try.f74.body = some C74 := by kernel_rfl
  have h3 : (Try.f74.name == "runtime.NumGoroutine") = false := by kernel_rfl
  have h6 : Try.f74.results.toList = [] := by kernel_rfl
  have h4 : Nat.ble 3 49 = true := by kernel_rfl
  have h5 : okCode 49 pl74 ls74 C74 0 = true := by kernel_rfl
  have e : W74 dataa datal datac a_ b w R = wpC none Try.prog 49 pl74 ls74 C74 0 (endP Try.prog [] R) (fr0 [(.slice dataa datal datac), (.int .i64 a_), (.int .i64 b)]) [] w := by kernel_rfl
  exact ca_of' (P := Try.prog) (g := 74) (fn := Try.f74) (c := C74) (m := 49) (rs := []) (args := [(.slice dataa datal datac), (.int .i64 a_), (.int .i64 b)]) (pl := pl74) (ls := ls74) (w := w) (R := R) h1 Try.func74 h2 Try.ntmps74 h6 h3 h4 h5 (Eq.mp e h)
end Go.Proofs.Ytmnbnjkbbhjocaa

/- The library's sort of one-cell elements (numbers, strings), at one type of them: Less, insertion sort. -/
namespace Go.Proofs.Ytmnbnjkbbhjocaa.Sortuint64
open Go Go.Proofs.Ytmnbnjkbbhjocaa Go.Proofs.Ytmnbnjkbbhjocaa.St

theorem isNaN_ok (x : Int) (w : World) (R : Value → World → Prop) (h : R (.bool false) w) : Ca Try.prog 87 #[(Value.int .u64) x] w R := by
  refine ca87 x w R ?_
  exact (by simpa [W87] using h)
theorem less_ok (x y : Int) (w : World) (R : Value → World → Prop) (h : R (.bool (decide (x < y))) w) : Ca Try.prog 80 #[(Value.int .u64) x, (Value.int .u64) y] w R := by
  refine ca80 x y w R ?_
  exact isNaN_ok x w _ ⟨false, rfl, h⟩

section
variable {e : TypeId} {d : Option Addr} {l c : Nat} {xs : List Int} {w : World}
/-- Is the one less than the other? -/
theorem lss (hd : Els (Value.int .u64) e w d l c xs) {i j : Int} (m n : Nat) (hi : i = m) (hj : j = n) (hm : m < l) (hn : n < l) {A B : World → Prop} (hA : at0 xs m < at0 xs n → A w) (hB : ¬ at0 xs m < at0 xs n → B w) :
    ∃ ad : Addr, d = some ad ∧ (0 : Int) ≤ i ∧ i < (↑l : Int) ∧ ∃ x : Int, w.cell? (Addr.add ad (Int.toNat i * 1)) = some ((Value.int .u64) x) ∧
    ∃ ad : Addr, d = some ad ∧ (0 : Int) ≤ j ∧ j < (↑l : Int) ∧ ∃ y : Int, w.cell? (Addr.add ad (Int.toNat j * 1)) = some ((Value.int .u64) y) ∧
    Ca Try.prog 80 (Array.mk [(Value.int .u64) x, (Value.int .u64) y]) w (fun v w' => ∃ b : Bool, v = Value.bool b ∧ ifK b (A w') (B w')) :=
  hd.rd m hi hm (hd.rd n hj hn (less_ok _ _ _ _ ⟨_, rfl, ifK_dec hA hB⟩))
/-- Is the one not less than the other? -/
theorem nls (hd : Els (Value.int .u64) e w d l c xs) {i j : Int} (m n : Nat) (hi : i = m) (hj : j = n) (hm : m < l) (hn : n < l) {A B : World → Prop} (hA : ¬ at0 xs m < at0 xs n → A w) (hB : at0 xs m < at0 xs n → B w) :
    ∃ ad : Addr, d = some ad ∧ (0 : Int) ≤ i ∧ i < (↑l : Int) ∧ ∃ x : Int, w.cell? (Addr.add ad (Int.toNat i * 1)) = some ((Value.int .u64) x) ∧
    ∃ ad : Addr, d = some ad ∧ (0 : Int) ≤ j ∧ j < (↑l : Int) ∧ ∃ y : Int, w.cell? (Addr.add ad (Int.toNat j * 1)) = some ((Value.int .u64) y) ∧
    Ca Try.prog 80 (Array.mk [(Value.int .u64) x, (Value.int .u64) y]) w (fun v w' => ∃ b : Bool, v = Value.bool b ∧ ifK (!b) (A w') (B w')) :=
  hd.rd m hi hm (hd.rd n hj hn (less_ok _ _ _ _ ⟨_, rfl, ifK_not (fun h => hA (of_decide_eq_false h)) (fun h => hB (of_decide_eq_true h))⟩))
end

theorem insertion_ok (e : TypeId) (d : Option Addr) (l c : Nat) (a b : Nat) (xs : List Int) (w : World) (hd : Els (Value.int .u64) e w d l c xs) (hab : a ≤ b) (hb : b ≤ l) (hl : l < 4611686018427387904) (R : Value → World → Prop)
    (h : ∀ w' ys, Els (Value.int .u64) e w' d l c ys → Seg a b xs ys → Srt ys a b → Mod (rowB d) w w' → R (.tuple #[]) w') :
    Ca Try.prog 74 #[.slice d l c, .int .i64 a, .int .i64 b] w R := by
  obtain ⟨hxl, hlc, hcm⟩ := hd.len
  refine ca74 d l c a b w R ?_
  refine ⟨fun x w' => ∃ (i : Nat) (ys : List Int), x = i ∧ a < i ∧ (i ≤ b ∨ i = a + 1) ∧ Els (Value.int .u64) e w' d l c ys ∧ Seg a b xs ys ∧ Srt ys a (min i b) ∧ Mod (rowB d) w w',
    fun x _ => ((b : Int) - x).toNat, ⟨a + 1, xs, (by first | (simp only [IntKind.wrap_i64]; omega) | omega), by omega, .inr rfl, hd, Seg.refl _ _ _, Srt.nil _ _ _ (by omega), Mod.refl _ _⟩, ?_⟩
  rintro _ x w4 ⟨i, ys, rfl, hai, hib, hys, hseg, hsrt, hm⟩
  refine ifK_dec (fun hlt => ?_) (fun hge => ?_)
  · have hsrt : Srt ys a i := by rwa [Nat.min_eq_left (by omega)] at hsrt
    refine ⟨fun x w' => ∃ (j : Nat) (zs : List Int), x = j ∧ a ≤ j ∧ j ≤ i ∧ Els (Value.int .u64) e w' d l c zs ∧ Seg a b xs zs ∧ Ins zs a i j ∧ Mod (rowB d) w w', fun x _ => (x - a).toNat,
      ⟨i, ys, rfl, by omega, Nat.le_refl _, hys, hseg, Ins.start hsrt, hm⟩, ?_⟩
    rintro _ x w9 ⟨j, zs, rfl, haj, hji, hzs, hsg, hins, hm9⟩
    have hzl := hzs.len.1
    intro w10 e10
    have m10 : Mod no w9 w10 := by subst e10; exact Mod.drew _
    clear e10
    have hz10 := hzs.no m10
    have hm10 := hm9.trans_no m10
    have next : (j ≤ a ∨ at0 zs (j - 1) ≤ at0 zs j) → (∃ (i' : Nat) (ys : List Int), IntKind.i64.wrap ((i : Int) + 1) = i' ∧ a < i' ∧ (i' ≤ b ∨ i' = a + 1) ∧ Els (Value.int .u64) e w10 d l c ys ∧ Seg a b xs ys ∧ Srt ys a (min i' b) ∧ Mod (rowB d) w w10) ∧
        ((b : Int) - IntKind.i64.wrap ((i : Int) + 1)).toNat < ((b : Int) - i).toNat := by
      intro hj
      refine ⟨⟨i + 1, zs, (by first | (simp only [IntKind.wrap_i64]; omega) | omega), by omega, .inl (by omega), hz10, hsg, ?_, hm10⟩, (by first | (simp only [IntKind.wrap_i64]; omega) | omega)⟩
      rw [Nat.min_eq_left (by omega)]
      exact hins.done hj
    refine ifK_dec (fun hgt => ?_) (fun hle => next (.inl (by omega)))
    refine lss hz10 j (j - 1) rfl (by first | (simp only [IntKind.wrap_i64]; omega) | omega) (by omega) (by omega) (fun hls => ?_) (fun hls => next (.inr (Lin.nlt hls)))
    intro w18 e18
    have m18 : Mod no w10 w18 := by subst e18; exact Mod.drew _
    clear e18
    refine (hz10.no m18).swp j (j - 1) rfl (by first | (simp only [IntKind.wrap_i64]; omega) | omega) (by omega) (by omega) fun w28 hz28 m28 => ?_
    exact ⟨⟨j - 1, swapL zs j (j - 1), (by first | (simp only [IntKind.wrap_i64]; omega) | omega), by omega, by omega, hz28, hsg.trans (Seg.swap (by omega) (by omega) (by omega) (by omega) (by omega) (by omega)),
      hins.step (by omega) (by omega) hji hls, (hm10.trans_no m18).trans m28⟩, (by first | (simp only [IntKind.wrap_i64]; omega) | omega)⟩
  · rw [Nat.min_eq_right (by omega)] at hsrt
    exact h w4 ys hys hseg hsrt hm
end Go.Proofs.Ytmnbnjkbbhjocaa.Sortuint64

/- The formulas of functions, printed by a program of mine (gen.py) out of the translation. -/
namespace Go.Proofs.Ytmnbnjkbbhjocaa
open Go Go.Proofs.Ytmnbnjkbbhjocaa.St
set_option maxRecDepth 100000

/-- math/bits.Len64 -/
noncomputable def C64 : Code := (Try.f64.body).getD .skip
def pl64 : Nat → Plan := fun _ => .done
def ls64 : Nat → List (Nat × LT) := fun _ => []
def W64 (x : Int) (w : World) (R : Value → World → Prop) : Prop :=
  (ifK (decide (x ≥ 4294967296))
    (((0 : Int) ≤ 32) ∧ (ifK (decide (Int.fdiv x (2 ^ 32) ≥ 65536))
      (((0 : Int) ≤ 16) ∧ (ifK (decide (Int.fdiv (Int.fdiv x (2 ^ 32)) (2 ^ 16) ≥ 256))
        (((0 : Int) ≤ 8) ∧ (((0 : Int) ≤ IntKind.wrap IntKind.u8 (Int.fdiv (Int.fdiv (Int.fdiv x (2 ^ 32)) (2 ^ 16)) (2 ^ 8))) ∧ (((IntKind.wrap IntKind.u8 (Int.fdiv (Int.fdiv (Int.fdiv x (2 ^ 32)) (2 ^ 16)) (2 ^ 8)) : Int) < (↑256 : Int)) ∧ (R (Value.int IntKind.i64 (IntKind.wrap IntKind.i64 (IntKind.wrap IntKind.i64 (IntKind.wrap IntKind.i64 (32 + 16) + 8) + IntKind.wrap IntKind.i64 (byteAt (ByteArray.mk #[0, 1, 2, 2, 3, 3, 3, 3, 4, 4, 4, 4, 4, 4, 4, 4, 5, 5, 5, 5, 5, 5, 5, 5, 5, 5, 5, 5, 5, 5, 5, 5, 6, 6, 6, 6, 6, 6, 6, 6, 6, 6, 6, 6, 6, 6, 6, 6, 6, 6, 6, 6, 6, 6, 6, 6, 6, 6, 6, 6, 6, 6, 6, 6, 7, 7, 7, 7, 7, 7, 7, 7, 7, 7, 7, 7, 7, 7, 7, 7, 7, 7, 7, 7, 7, 7, 7, 7, 7, 7, 7, 7, 7, 7, 7, 7, 7, 7, 7, 7, 7, 7, 7, 7, 7, 7, 7, 7, 7, 7, 7, 7, 7, 7, 7, 7, 7, 7, 7, 7, 7, 7, 7, 7, 7, 7, 7, 7, 8, 8, 8, 8, 8, 8, 8, 8, 8, 8, 8, 8, 8, 8, 8, 8, 8, 8, 8, 8, 8, 8, 8, 8, 8, 8, 8, 8, 8, 8, 8, 8, 8, 8, 8, 8, 8, 8, 8, 8, 8, 8, 8, 8, 8, 8, 8, 8, 8, 8, 8, 8, 8, 8, 8, 8, 8, 8, 8, 8, 8, 8, 8, 8, 8, 8, 8, 8, 8, 8, 8, 8, 8, 8, 8, 8, 8, 8, 8, 8, 8, 8, 8, 8, 8, 8, 8, 8, 8, 8, 8, 8, 8, 8, 8, 8, 8, 8, 8, 8, 8, 8, 8, 8, 8, 8, 8, 8, 8, 8, 8, 8, 8, 8, 8, 8, 8, 8, 8, 8, 8, 8, 8, 8, 8, 8, 8, 8]) (Int.toNat (IntKind.wrap IntKind.u8 (Int.fdiv (Int.fdiv (Int.fdiv x (2 ^ 32)) (2 ^ 16)) (2 ^ 8)))))))) (w)))))
        (((0 : Int) ≤ IntKind.wrap IntKind.u8 (Int.fdiv (Int.fdiv x (2 ^ 32)) (2 ^ 16))) ∧ (((IntKind.wrap IntKind.u8 (Int.fdiv (Int.fdiv x (2 ^ 32)) (2 ^ 16)) : Int) < (↑256 : Int)) ∧ (R (Value.int IntKind.i64 (IntKind.wrap IntKind.i64 (IntKind.wrap IntKind.i64 (32 + 16) + IntKind.wrap IntKind.i64 (byteAt (ByteArray.mk #[0, 1, 2, 2, 3, 3, 3, 3, 4, 4, 4, 4, 4, 4, 4, 4, 5, 5, 5, 5, 5, 5, 5, 5, 5, 5, 5, 5, 5, 5, 5, 5, 6, 6, 6, 6, 6, 6, 6, 6, 6, 6, 6, 6, 6, 6, 6, 6, 6, 6, 6, 6, 6, 6, 6, 6, 6, 6, 6, 6, 6, 6, 6, 6, 7, 7, 7, 7, 7, 7, 7, 7, 7, 7, 7, 7, 7, 7, 7, 7, 7, 7, 7, 7, 7, 7, 7, 7, 7, 7, 7, 7, 7, 7, 7, 7, 7, 7, 7, 7, 7, 7, 7, 7, 7, 7, 7, 7, 7, 7, 7, 7, 7, 7, 7, 7, 7, 7, 7, 7, 7, 7, 7, 7, 7, 7, 7, 7, 8, 8, 8, 8, 8, 8, 8, 8, 8, 8, 8, 8, 8, 8, 8, 8, 8, 8, 8, 8, 8, 8, 8, 8, 8, 8, 8, 8, 8, 8, 8, 8, 8, 8, 8, 8, 8, 8, 8, 8, 8, 8, 8, 8, 8, 8, 8, 8, 8, 8, 8, 8, 8, 8, 8, 8, 8, 8, 8, 8, 8, 8, 8, 8, 8, 8, 8, 8, 8, 8, 8, 8, 8, 8, 8, 8, 8, 8, 8, 8, 8, 8, 8, 8, 8, 8, 8, 8, 8, 8, 8, 8, 8, 8, 8, 8, 8, 8, 8, 8, 8, 8, 8, 8, 8, 8, 8, 8, 8, 8, 8, 8, 8, 8, 8, 8, 8, 8, 8, 8, 8, 8, 8, 8, 8, 8, 8, 8]) (Int.toNat (IntKind.wrap IntKind.u8 (Int.fdiv (Int.fdiv x (2 ^ 32)) (2 ^ 16)))))))) (w))))))
      (ifK (decide (Int.fdiv x (2 ^ 32) ≥ 256))
        (((0 : Int) ≤ 8) ∧ (((0 : Int) ≤ IntKind.wrap IntKind.u8 (Int.fdiv (Int.fdiv x (2 ^ 32)) (2 ^ 8))) ∧ (((IntKind.wrap IntKind.u8 (Int.fdiv (Int.fdiv x (2 ^ 32)) (2 ^ 8)) : Int) < (↑256 : Int)) ∧ (R (Value.int IntKind.i64 (IntKind.wrap IntKind.i64 (IntKind.wrap IntKind.i64 (32 + 8) + IntKind.wrap IntKind.i64 (byteAt (ByteArray.mk #[0, 1, 2, 2, 3, 3, 3, 3, 4, 4, 4, 4, 4, 4, 4, 4, 5, 5, 5, 5, 5, 5, 5, 5, 5, 5, 5, 5, 5, 5, 5, 5, 6, 6, 6, 6, 6, 6, 6, 6, 6, 6, 6, 6, 6, 6, 6, 6, 6, 6, 6, 6, 6, 6, 6, 6, 6, 6, 6, 6, 6, 6, 6, 6, 7, 7, 7, 7, 7, 7, 7, 7, 7, 7, 7, 7, 7, 7, 7, 7, 7, 7, 7, 7, 7, 7, 7, 7, 7, 7, 7, 7, 7, 7, 7, 7, 7, 7, 7, 7, 7, 7, 7, 7, 7, 7, 7, 7, 7, 7, 7, 7, 7, 7, 7, 7, 7, 7, 7, 7, 7, 7, 7, 7, 7, 7, 7, 7, 8, 8, 8, 8, 8, 8, 8, 8, 8, 8, 8, 8, 8, 8, 8, 8, 8, 8, 8, 8, 8, 8, 8, 8, 8, 8, 8, 8, 8, 8, 8, 8, 8, 8, 8, 8, 8, 8, 8, 8, 8, 8, 8, 8, 8, 8, 8, 8, 8, 8, 8, 8, 8, 8, 8, 8, 8, 8, 8, 8, 8, 8, 8, 8, 8, 8, 8, 8, 8, 8, 8, 8, 8, 8, 8, 8, 8, 8, 8, 8, 8, 8, 8, 8, 8, 8, 8, 8, 8, 8, 8, 8, 8, 8, 8, 8, 8, 8, 8, 8, 8, 8, 8, 8, 8, 8, 8, 8, 8, 8, 8, 8, 8, 8, 8, 8, 8, 8, 8, 8, 8, 8, 8, 8, 8, 8, 8, 8]) (Int.toNat (IntKind.wrap IntKind.u8 (Int.fdiv (Int.fdiv x (2 ^ 32)) (2 ^ 8)))))))) (w)))))
        (((0 : Int) ≤ IntKind.wrap IntKind.u8 (Int.fdiv x (2 ^ 32))) ∧ (((IntKind.wrap IntKind.u8 (Int.fdiv x (2 ^ 32)) : Int) < (↑256 : Int)) ∧ (R (Value.int IntKind.i64 (IntKind.wrap IntKind.i64 (32 + IntKind.wrap IntKind.i64 (byteAt (ByteArray.mk #[0, 1, 2, 2, 3, 3, 3, 3, 4, 4, 4, 4, 4, 4, 4, 4, 5, 5, 5, 5, 5, 5, 5, 5, 5, 5, 5, 5, 5, 5, 5, 5, 6, 6, 6, 6, 6, 6, 6, 6, 6, 6, 6, 6, 6, 6, 6, 6, 6, 6, 6, 6, 6, 6, 6, 6, 6, 6, 6, 6, 6, 6, 6, 6, 7, 7, 7, 7, 7, 7, 7, 7, 7, 7, 7, 7, 7, 7, 7, 7, 7, 7, 7, 7, 7, 7, 7, 7, 7, 7, 7, 7, 7, 7, 7, 7, 7, 7, 7, 7, 7, 7, 7, 7, 7, 7, 7, 7, 7, 7, 7, 7, 7, 7, 7, 7, 7, 7, 7, 7, 7, 7, 7, 7, 7, 7, 7, 7, 8, 8, 8, 8, 8, 8, 8, 8, 8, 8, 8, 8, 8, 8, 8, 8, 8, 8, 8, 8, 8, 8, 8, 8, 8, 8, 8, 8, 8, 8, 8, 8, 8, 8, 8, 8, 8, 8, 8, 8, 8, 8, 8, 8, 8, 8, 8, 8, 8, 8, 8, 8, 8, 8, 8, 8, 8, 8, 8, 8, 8, 8, 8, 8, 8, 8, 8, 8, 8, 8, 8, 8, 8, 8, 8, 8, 8, 8, 8, 8, 8, 8, 8, 8, 8, 8, 8, 8, 8, 8, 8, 8, 8, 8, 8, 8, 8, 8, 8, 8, 8, 8, 8, 8, 8, 8, 8, 8, 8, 8, 8, 8, 8, 8, 8, 8, 8, 8, 8, 8, 8, 8, 8, 8, 8, 8, 8, 8]) (Int.toNat (IntKind.wrap IntKind.u8 (Int.fdiv x (2 ^ 32)))))))) (w)))))))
    (ifK (decide (x ≥ 65536))
      (((0 : Int) ≤ 16) ∧ (ifK (decide (Int.fdiv x (2 ^ 16) ≥ 256))
        (((0 : Int) ≤ 8) ∧ (((0 : Int) ≤ IntKind.wrap IntKind.u8 (Int.fdiv (Int.fdiv x (2 ^ 16)) (2 ^ 8))) ∧ (((IntKind.wrap IntKind.u8 (Int.fdiv (Int.fdiv x (2 ^ 16)) (2 ^ 8)) : Int) < (↑256 : Int)) ∧ (R (Value.int IntKind.i64 (IntKind.wrap IntKind.i64 (IntKind.wrap IntKind.i64 (IntKind.wrap IntKind.i64 (0 + 16) + 8) + IntKind.wrap IntKind.i64 (byteAt (ByteArray.mk #[0, 1, 2, 2, 3, 3, 3, 3, 4, 4, 4, 4, 4, 4, 4, 4, 5, 5, 5, 5, 5, 5, 5, 5, 5, 5, 5, 5, 5, 5, 5, 5, 6, 6, 6, 6, 6, 6, 6, 6, 6, 6, 6, 6, 6, 6, 6, 6, 6, 6, 6, 6, 6, 6, 6, 6, 6, 6, 6, 6, 6, 6, 6, 6, 7, 7, 7, 7, 7, 7, 7, 7, 7, 7, 7, 7, 7, 7, 7, 7, 7, 7, 7, 7, 7, 7, 7, 7, 7, 7, 7, 7, 7, 7, 7, 7, 7, 7, 7, 7, 7, 7, 7, 7, 7, 7, 7, 7, 7, 7, 7, 7, 7, 7, 7, 7, 7, 7, 7, 7, 7, 7, 7, 7, 7, 7, 7, 7, 8, 8, 8, 8, 8, 8, 8, 8, 8, 8, 8, 8, 8, 8, 8, 8, 8, 8, 8, 8, 8, 8, 8, 8, 8, 8, 8, 8, 8, 8, 8, 8, 8, 8, 8, 8, 8, 8, 8, 8, 8, 8, 8, 8, 8, 8, 8, 8, 8, 8, 8, 8, 8, 8, 8, 8, 8, 8, 8, 8, 8, 8, 8, 8, 8, 8, 8, 8, 8, 8, 8, 8, 8, 8, 8, 8, 8, 8, 8, 8, 8, 8, 8, 8, 8, 8, 8, 8, 8, 8, 8, 8, 8, 8, 8, 8, 8, 8, 8, 8, 8, 8, 8, 8, 8, 8, 8, 8, 8, 8, 8, 8, 8, 8, 8, 8, 8, 8, 8, 8, 8, 8, 8, 8, 8, 8, 8, 8]) (Int.toNat (IntKind.wrap IntKind.u8 (Int.fdiv (Int.fdiv x (2 ^ 16)) (2 ^ 8)))))))) (w)))))
        (((0 : Int) ≤ IntKind.wrap IntKind.u8 (Int.fdiv x (2 ^ 16))) ∧ (((IntKind.wrap IntKind.u8 (Int.fdiv x (2 ^ 16)) : Int) < (↑256 : Int)) ∧ (R (Value.int IntKind.i64 (IntKind.wrap IntKind.i64 (IntKind.wrap IntKind.i64 (0 + 16) + IntKind.wrap IntKind.i64 (byteAt (ByteArray.mk #[0, 1, 2, 2, 3, 3, 3, 3, 4, 4, 4, 4, 4, 4, 4, 4, 5, 5, 5, 5, 5, 5, 5, 5, 5, 5, 5, 5, 5, 5, 5, 5, 6, 6, 6, 6, 6, 6, 6, 6, 6, 6, 6, 6, 6, 6, 6, 6, 6, 6, 6, 6, 6, 6, 6, 6, 6, 6, 6, 6, 6, 6, 6, 6, 7, 7, 7, 7, 7, 7, 7, 7, 7, 7, 7, 7, 7, 7, 7, 7, 7, 7, 7, 7, 7, 7, 7, 7, 7, 7, 7, 7, 7, 7, 7, 7, 7, 7, 7, 7, 7, 7, 7, 7, 7, 7, 7, 7, 7, 7, 7, 7, 7, 7, 7, 7, 7, 7, 7, 7, 7, 7, 7, 7, 7, 7, 7, 7, 8, 8, 8, 8, 8, 8, 8, 8, 8, 8, 8, 8, 8, 8, 8, 8, 8, 8, 8, 8, 8, 8, 8, 8, 8, 8, 8, 8, 8, 8, 8, 8, 8, 8, 8, 8, 8, 8, 8, 8, 8, 8, 8, 8, 8, 8, 8, 8, 8, 8, 8, 8, 8, 8, 8, 8, 8, 8, 8, 8, 8, 8, 8, 8, 8, 8, 8, 8, 8, 8, 8, 8, 8, 8, 8, 8, 8, 8, 8, 8, 8, 8, 8, 8, 8, 8, 8, 8, 8, 8, 8, 8, 8, 8, 8, 8, 8, 8, 8, 8, 8, 8, 8, 8, 8, 8, 8, 8, 8, 8, 8, 8, 8, 8, 8, 8, 8, 8, 8, 8, 8, 8, 8, 8, 8, 8, 8, 8]) (Int.toNat (IntKind.wrap IntKind.u8 (Int.fdiv x (2 ^ 16)))))))) (w))))))
      (ifK (decide (x ≥ 256))
        (((0 : Int) ≤ 8) ∧ (((0 : Int) ≤ IntKind.wrap IntKind.u8 (Int.fdiv x (2 ^ 8))) ∧ (((IntKind.wrap IntKind.u8 (Int.fdiv x (2 ^ 8)) : Int) < (↑256 : Int)) ∧ (R (Value.int IntKind.i64 (IntKind.wrap IntKind.i64 (IntKind.wrap IntKind.i64 (0 + 8) + IntKind.wrap IntKind.i64 (byteAt (ByteArray.mk #[0, 1, 2, 2, 3, 3, 3, 3, 4, 4, 4, 4, 4, 4, 4, 4, 5, 5, 5, 5, 5, 5, 5, 5, 5, 5, 5, 5, 5, 5, 5, 5, 6, 6, 6, 6, 6, 6, 6, 6, 6, 6, 6, 6, 6, 6, 6, 6, 6, 6, 6, 6, 6, 6, 6, 6, 6, 6, 6, 6, 6, 6, 6, 6, 7, 7, 7, 7, 7, 7, 7, 7, 7, 7, 7, 7, 7, 7, 7, 7, 7, 7, 7, 7, 7, 7, 7, 7, 7, 7, 7, 7, 7, 7, 7, 7, 7, 7, 7, 7, 7, 7, 7, 7, 7, 7, 7, 7, 7, 7, 7, 7, 7, 7, 7, 7, 7, 7, 7, 7, 7, 7, 7, 7, 7, 7, 7, 7, 8, 8, 8, 8, 8, 8, 8, 8, 8, 8, 8, 8, 8, 8, 8, 8, 8, 8, 8, 8, 8, 8, 8, 8, 8, 8, 8, 8, 8, 8, 8, 8, 8, 8, 8, 8, 8, 8, 8, 8, 8, 8, 8, 8, 8, 8, 8, 8, 8, 8, 8, 8, 8, 8, 8, 8, 8, 8, 8, 8, 8, 8, 8, 8, 8, 8, 8, 8, 8, 8, 8, 8, 8, 8, 8, 8, 8, 8, 8, 8, 8, 8, 8, 8, 8, 8, 8, 8, 8, 8, 8, 8, 8, 8, 8, 8, 8, 8, 8, 8, 8, 8, 8, 8, 8, 8, 8, 8, 8, 8, 8, 8, 8, 8, 8, 8, 8, 8, 8, 8, 8, 8, 8, 8, 8, 8, 8, 8]) (Int.toNat (IntKind.wrap IntKind.u8 (Int.fdiv x (2 ^ 8)))))))) (w)))))
        (((0 : Int) ≤ IntKind.wrap IntKind.u8 x) ∧ (((IntKind.wrap IntKind.u8 x : Int) < (↑256 : Int)) ∧ (R (Value.int IntKind.i64 (IntKind.wrap IntKind.i64 (0 + IntKind.wrap IntKind.i64 (byteAt (ByteArray.mk #[0, 1, 2, 2, 3, 3, 3, 3, 4, 4, 4, 4, 4, 4, 4, 4, 5, 5, 5, 5, 5, 5, 5, 5, 5, 5, 5, 5, 5, 5, 5, 5, 6, 6, 6, 6, 6, 6, 6, 6, 6, 6, 6, 6, 6, 6, 6, 6, 6, 6, 6, 6, 6, 6, 6, 6, 6, 6, 6, 6, 6, 6, 6, 6, 7, 7, 7, 7, 7, 7, 7, 7, 7, 7, 7, 7, 7, 7, 7, 7, 7, 7, 7, 7, 7, 7, 7, 7, 7, 7, 7, 7, 7, 7, 7, 7, 7, 7, 7, 7, 7, 7, 7, 7, 7, 7, 7, 7, 7, 7, 7, 7, 7, 7, 7, 7, 7, 7, 7, 7, 7, 7, 7, 7, 7, 7, 7, 7, 8, 8, 8, 8, 8, 8, 8, 8, 8, 8, 8, 8, 8, 8, 8, 8, 8, 8, 8, 8, 8, 8, 8, 8, 8, 8, 8, 8, 8, 8, 8, 8, 8, 8, 8, 8, 8, 8, 8, 8, 8, 8, 8, 8, 8, 8, 8, 8, 8, 8, 8, 8, 8, 8, 8, 8, 8, 8, 8, 8, 8, 8, 8, 8, 8, 8, 8, 8, 8, 8, 8, 8, 8, 8, 8, 8, 8, 8, 8, 8, 8, 8, 8, 8, 8, 8, 8, 8, 8, 8, 8, 8, 8, 8, 8, 8, 8, 8, 8, 8, 8, 8, 8, 8, 8, 8, 8, 8, 8, 8, 8, 8, 8, 8, 8, 8, 8, 8, 8, 8, 8, 8, 8, 8, 8, 8, 8, 8]) (Int.toNat (IntKind.wrap IntKind.u8 x)))))) (w)))))))
theorem ca64 (x : Int) (w : World) (R : Value → World → Prop) (h : W64 x w R) : Ca Try.prog 64 ⟨[(.int .u64 x)]⟩ w R := by
  have h1 : Try.prog.follows .mixedOrders = true := by kernel_rfl
  have h2 : Try.f64.body = some C64 := by kernel_rfl
  have h3 : (Try.f64.name == "runtime.NumGoroutine") = false := by kernel_rfl
  have h6 : Try.f64.results.toList = [.tmp 2] := by kernel_rfl
  have h4 : Nat.ble 1 25 = true := by kernel_rfl
  have h5 : okCode 25 pl64 ls64 C64 0 = true := by kernel_rfl
  have e : W64 x w R = wpC none Try.prog 25 pl64 ls64 C64 0 (endP Try.prog [.tmp 2] R) (fr0 [(.int .u64 x)]) [] w := by kernel_rfl
  exact ca_of' (P := Try.prog) (g := 64) (fn := Try.f64) (c := C64) (m := 25) (rs := [.tmp 2]) (args := [(.int .u64 x)]) (pl := pl64) (ls := ls64) (w := w) (R := R) h1 Try.func64 h2 Try.ntmps64 h6 h3 h4 h5 (Eq.mp e h)

/-- math/bits.Len -/
noncomputable def C48 : Code := (Try.f48.body).getD .skip
def pl48 : Nat → Plan := fun _ => .done
def ls48 : Nat → List (Nat × LT) := fun _ => []
def W48 (x : Int) (w : World) (R : Value → World → Prop) : Prop :=
  (Ca Try.prog (64) (Array.mk [Value.int IntKind.u64 x]) (w) (fun v0 => (fun w1 =>
    (∃ x2 : Int, ((v0 = Value.int IntKind.i64 x2) ∧ (R (Value.int IntKind.i64 x2) (w1)))))))
theorem ca48 (x : Int) (w : World) (R : Value → World → Prop) (h : W48 x w R) : Ca Try.prog 48 ⟨[(.int .u64 x)]⟩ w R := by
  have h1 : Try.prog.follows .mixedOrders = true := by kernel_rfl
  have h2 : Try.f48.body = some C48 := by kernel_rfl
  have h3 : (Try.f48.name == "runtime.NumGoroutine") = false := by kernel_rfl
  have h6 : Try.f48.results.toList = [.tmp 2] := by kernel_rfl
  have h4 : Nat.ble 1 8 = true := by kernel_rfl
  have h5 : okCode 8 pl48 ls48 C48 0 = true := by kernel_rfl
  have e : W48 x w R = wpC none Try.prog 8 pl48 ls48 C48 0 (endP Try.prog [.tmp 2] R) (fr0 [(.int .u64 x)]) [] w := by kernel_rfl
  exact ca_of' (P := Try.prog) (g := 48) (fn := Try.f48) (c := C48) (m := 8) (rs := [.tmp 2]) (args := [(.int .u64 x)]) (pl := pl48) (ls := ls48) (w := w) (R := R) h1 Try.func48 h2 Try.ntmps48 h6 h3 h4 h5 (Eq.mp e h)
end Go.Proofs.Ytmnbnjkbbhjocaa

/- The library's bits.Len: a number n comes out, and 2^n is at most twice what was asked. -/
namespace Go.Proofs.Ytmnbnjkbbhjocaa
open Go Go.Proofs.Ytmnbnjkbbhjocaa.St

theorem fdivP (x : Int) (n : Nat) : Int.fdiv x (2 ^ n) = x / 2 ^ n := Int.fdiv_eq_ediv_of_nonneg x (Int.le_of_lt (Int.pow_pos (by decide)))
def lenTab (T : ByteArray) : Bool := (List.range 256).all fun n => Nat.ble (byteAt T n).toNat 8 && (byteAt T n == ((byteAt T n).toNat : Int)) && (n == 0 || Nat.ble (2 ^ (byteAt T n).toNat) (2 * n))
theorem len_leaf {x y A : Int} {R : Value → World → Prop} {w : World} {T : ByteArray} (h : ∀ n : Nat, (0 < x → x < 18446744073709551616 → n ≤ 64 ∧ (2 : Int) ^ n ≤ 2 * x) → R (.int .i64 n) w) (hT : lenTab T = true) (N : Nat) (hA : A = N) (hN : N ≤ 56)
    (hy : 0 < x → x < 18446744073709551616 → 0 < y ∧ y < 256 ∧ 2 ^ N * y ≤ x) : R (.int .i64 (IntKind.wrap .i64 (A + IntKind.wrap .i64 (byteAt T (Int.toNat (IntKind.wrap .u8 y)))))) w := by
  have hu : (0 : Int) ≤ IntKind.wrap .u8 y ∧ IntKind.wrap .u8 y < 256 := by rw [IntKind.wrap_u8]; omega
  obtain ⟨n, hn⟩ : ∃ n : Nat, IntKind.wrap .u8 y = n := ⟨_, (Int.toNat_of_nonneg hu.1).symm⟩
  have hn' : n < 256 := by omega
  have ht := List.all_eq_true.1 hT n (List.mem_range.2 hn')
  simp only [Bool.and_eq_true, Bool.or_eq_true, beq_iff_eq, Nat.ble_eq] at ht
  obtain ⟨⟨h1, h2⟩, h3⟩ := ht
  generalize hk : (byteAt T n).toNat = k at h1 h2 h3
  have e1 : IntKind.wrap .i64 (A + IntKind.wrap .i64 (byteAt T (Int.toNat (IntKind.wrap .u8 y)))) = ((N + k : Nat) : Int) := by
    rw [hn, Int.toNat_natCast, h2, hA, wrap64 (x := (k : Int)) (by omega) (by omega), wrap64 (by omega) (by omega)]; rfl
  rw [e1]
  refine h _ fun h4 h5 => ⟨by omega, ?_⟩
  obtain ⟨h6, h7, h8⟩ := hy h4 h5
  have hyn : y = n := by rw [IntKind.wrap_u8] at hn; omega
  have h9 : (2 ^ k : Nat) ≤ 2 * n := by rcases h3 with h3 | h3 <;> omega
  have h10 : ((2 ^ k : Nat) : Int) ≤ 2 * y := by omega
  rw [Int.pow_add]
  have h11 : (2 : Int) ^ N * 2 ^ k ≤ 2 ^ N * (2 * y) := by
    refine Int.mul_le_mul_of_nonneg_left ?_ (Int.le_of_lt (Int.pow_pos (by decide)))
    simpa using h10
  have h12 : (2 : Int) ^ N * (2 * y) = 2 * (2 ^ N * y) := by rw [← Int.mul_assoc, Int.mul_comm _ 2, Int.mul_assoc]
  omega
theorem len64_ok (x : Int) (w : World) (R : Value → World → Prop) (h : ∀ n : Nat, (0 < x → x < 18446744073709551616 → n ≤ 64 ∧ 2 ^ n ≤ 2 * x) → R (.int .i64 n) w) : Ca Try.prog 64 #[.int .u64 x] w R := by
  refine ca64 x w R ?_
  have hu : ∀ y, (0 : Int) ≤ IntKind.wrap .u8 y ∧ IntKind.wrap .u8 y < 256 := fun y => by rw [IntKind.wrap_u8]; omega
  rw [W64]
  repeat' first
    | exact len_leaf h (by kernel_rfl) 0 (by decide) (by decide) (by first | omega | (simp only [fdivP] at *; omega))
    | exact len_leaf h (by kernel_rfl) 8 (by decide) (by decide) (by first | omega | (simp only [fdivP] at *; omega))
    | exact len_leaf h (by kernel_rfl) 16 (by decide) (by decide) (by first | omega | (simp only [fdivP] at *; omega))
    | exact len_leaf h (by kernel_rfl) 24 (by decide) (by decide) (by first | omega | (simp only [fdivP] at *; omega))
    | exact len_leaf h (by kernel_rfl) 32 (by decide) (by decide) (by first | omega | (simp only [fdivP] at *; omega))
    | exact len_leaf h (by kernel_rfl) 40 (by decide) (by decide) (by first | omega | (simp only [fdivP] at *; omega))
    | exact len_leaf h (by kernel_rfl) 48 (by decide) (by decide) (by first | omega | (simp only [fdivP] at *; omega))
    | exact len_leaf h (by kernel_rfl) 56 (by decide) (by decide) (by first | omega | (simp only [fdivP] at *; omega))
    | refine ifK_dec (fun _ => ?_) (fun _ => ?_)
    | refine ⟨by decide, ?_⟩
    | refine ⟨(hu _).1, (hu _).2, ?_⟩
theorem bitsLen_ok (x : Int) (w : World) (R : Value → World → Prop) (h : ∀ n : Nat, (0 < x → x < 18446744073709551616 → n ≤ 64 ∧ 2 ^ n ≤ 2 * x) → R (.int .i64 n) w) : Ca Try.prog 48 #[.int .u64 x] w R := by
  refine ca48 x w R ?_
  exact len64_ok x w _ fun n hn => ⟨n, rfl, h n hn⟩
end Go.Proofs.Ytmnbnjkbbhjocaa
