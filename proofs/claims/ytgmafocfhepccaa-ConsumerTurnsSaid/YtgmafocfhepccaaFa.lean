/- The formulas of functions, printed by a program of mine (gen.py) out of the translation. -/
import Derived.Test.YtgmafocfhepccaaCore9
import Derived.Test.YtgmafocfhepccaaProg
namespace Go.Proofs.Ytgmafocfhepccaa
open Go Go.Proofs.Ytgmafocfhepccaa.St
set_option maxRecDepth 100000

/-- staith/staithlaw17.ConsumerNone -/
noncomputable def C6 : Code := (Try.f6.body).getD .skip
def pl6 : Nat → Plan := fun _ => .done
def ls6 : Nat → List (Nat × LT)
  | 0 => [(15, (.one (.int .i64)))]
  | _ => []
def W6 (a0_ : Int) (a1_ : Int) (a2_ : ByteArray) (a3_ : Int) (a4_ : Int) (w : World) (R : Value → World → Prop) : Prop :=
  (atW (World.alloc w (Obj.cells (Array.mk [Value.int IntKind.i64 a0_, Value.int IntKind.i64 a1_, Value.string a2_, Value.int IntKind.i64 a3_, Value.int IntKind.u64 a4_]) 47 (0, 0))) (fun w0 =>
    (atW (World.alloc w0 (Obj.cells (Array.mk [Value.slice none 0 0, Value.bool false]) 59 (0, 0))) (fun w1 =>
      (∃ z2 : Int → World → Prop, (∃ z3 : Int → World → Nat, ((z2 (0) (w1)) ∧ (∀ (_ : Nat → Value), (∀ (x5 : Int), (∀ (w6 : World), ((z2 (x5) (w6)) → (ifK (decide (x5 < 2))
        (∃ v7 : Value, (∃ w8 : World, ((Sem.run Try.prog (Instr.index 60 (Value.agg (Array.mk [Value.pointer none, Value.pointer (some (Addr.mk (Array.size (World.heap w0)) 0 none))])) (Value.int IntKind.i64 x5)) w6 = Result.ok v7 w8) ∧ (∃ p9 : Option Addr, ((v7 = Value.pointer p9) ∧ (∃ x10 : Int, ((World.cell? w8 (Addr.add (Addr.mk (Array.size (World.heap w)) 0 none) 1) = some (Value.int IntKind.i64 x10)) ∧ (Ca Try.prog (12) (Array.mk [Value.pointer p9, Value.int IntKind.i64 x10]) (w8) (fun v11 => (fun w12 =>
          (∃ s13 : ByteArray, (∃ p14 : Option Addr, (∃ n15 : Nat, (∃ n16 : Nat, (∃ x17 : Int, ((v11 = Value.tuple (Array.mk (List.reverse [Value.int IntKind.i64 x17, Value.agg (Array.mk (List.reverse [Value.slice p14 n15 n16, Value.string s13]))]))) ∧ (atW (World.alloc w12 (Obj.cells (Array.mk [Value.string (ByteArray.mk #[]), Value.slice none 0 0]) 33 (0, 0))) (fun w18 =>
            ((∃ v19 : Value, (World.cell? w18 (Addr.add (Addr.mk (Array.size (World.heap w12)) 0 none) 0) = some v19)) ∧ ((World.frozen? w18 (Addr.add (Addr.mk (Array.size (World.heap w12)) 0 none) 0) = false) ∧ (atW (World.setCell w18 (Addr.add (Addr.mk (Array.size (World.heap w12)) 0 none) 0) (Value.string s13)) (fun w20 =>
              ((∃ v21 : Value, (World.cell? w20 (Addr.add (Addr.mk (Array.size (World.heap w12)) 0 none) 1) = some v21)) ∧ ((World.frozen? w20 (Addr.add (Addr.mk (Array.size (World.heap w12)) 0 none) 1) = false) ∧ (atW (World.setCell w20 (Addr.add (Addr.mk (Array.size (World.heap w12)) 0 none) 1) (Value.slice p14 n15 n16)) (fun w22 =>
                (∃ s23 : ByteArray, ((World.cell? w22 (Addr.add (Addr.mk (Array.size (World.heap w)) 0 none) 2) = some (Value.string s23)) ∧ (Ca Try.prog (10) (Array.mk [Value.pointer p9, Value.string s23]) (w22) (fun v24 => (fun w25 =>
                  (∃ x26 : Int, (∃ b27 : Bool, ((v24 = Value.tuple (Array.mk (List.reverse [Value.bool b27, Value.int IntKind.i64 x26]))) ∧ (∃ x28 : Int, ((World.cell? w25 (Addr.add (Addr.mk (Array.size (World.heap w)) 0 none) 1) = some (Value.int IntKind.i64 x28)) ∧ (∃ x29 : Int, ((World.cell? w25 (Addr.add (Addr.mk (Array.size (World.heap w)) 0 none) 4) = some (Value.int IntKind.u64 x29)) ∧ (Ca Try.prog (22) (Array.mk [Value.pointer p9, Value.int IntKind.i64 x28, Value.int IntKind.u64 x29]) (w25) (fun v30 => (fun w31 =>
                    (∃ s32 : ByteArray, (∃ x33 : Int, ((v30 = Value.tuple (Array.mk (List.reverse [Value.int IntKind.i64 x33, Value.string s32]))) ∧ (∃ x34 : Int, ((World.cell? w31 (Addr.add (Addr.mk (Array.size (World.heap w)) 0 none) 1) = some (Value.int IntKind.i64 x34)) ∧ (Ca Try.prog (19) (Array.mk [Value.pointer p9, Value.int IntKind.i64 x34]) (w31) (fun v35 => (fun w36 =>
                      (∃ s37 : ByteArray, (∃ p38 : Option Addr, (∃ n39 : Nat, (∃ n40 : Nat, (∃ b41 : Bool, ((v35 = Value.tuple (Array.mk (List.reverse [Value.bool b41, Value.agg (Array.mk (List.reverse [Value.slice p38 n39 n40, Value.string s37]))]))) ∧ (atW (World.alloc w36 (Obj.cells (Array.mk [Value.string (ByteArray.mk #[]), Value.slice none 0 0]) 33 (0, 0))) (fun w42 =>
                        ((∃ v43 : Value, (World.cell? w42 (Addr.add (Addr.mk (Array.size (World.heap w36)) 0 none) 0) = some v43)) ∧ ((World.frozen? w42 (Addr.add (Addr.mk (Array.size (World.heap w36)) 0 none) 0) = false) ∧ (atW (World.setCell w42 (Addr.add (Addr.mk (Array.size (World.heap w36)) 0 none) 0) (Value.string s37)) (fun w44 =>
                          ((∃ v45 : Value, (World.cell? w44 (Addr.add (Addr.mk (Array.size (World.heap w36)) 0 none) 1) = some v45)) ∧ ((World.frozen? w44 (Addr.add (Addr.mk (Array.size (World.heap w36)) 0 none) 1) = false) ∧ (atW (World.setCell w44 (Addr.add (Addr.mk (Array.size (World.heap w36)) 0 none) 1) (Value.slice p38 n39 n40)) (fun w46 =>
                            (∃ x47 : Int, ((World.cell? w46 (Addr.add (Addr.mk (Array.size (World.heap w)) 0 none) 1) = some (Value.int IntKind.i64 x47)) ∧ (∃ s48 : ByteArray, ((World.cell? w46 (Addr.add (Addr.mk (Array.size (World.heap w)) 0 none) 2) = some (Value.string s48)) ∧ (∃ x49 : Int, ((World.cell? w46 (Addr.add (Addr.mk (Array.size (World.heap w)) 0 none) 3) = some (Value.int IntKind.i64 x49)) ∧ (Ca Try.prog (9) (Array.mk [Value.pointer p9, Value.int IntKind.i64 x47, Value.string s48, Value.int IntKind.i64 x49]) (w46) (fun v50 => (fun w51 =>
                              (∃ x52 : Int, ((v50 = Value.int IntKind.i64 x52) ∧ (ifK (x52 != 1)
                                (R (Value.bool false) (w51))
                                (ifK (x17 != 1)
                                  (R (Value.bool false) (w51))
                                  (ifK (b27)
                                    (R (Value.bool false) (w51))
                                    (∃ x53 : Int, ((World.cell? w51 (Addr.add (Addr.mk (Array.size (World.heap w)) 0 none) 1) = some (Value.int IntKind.i64 x53)) ∧ (∃ x54 : Int, ((World.cell? w51 (Addr.add (Addr.mk (Array.size (World.heap w)) 0 none) 4) = some (Value.int IntKind.u64 x54)) ∧ (Ca Try.prog (11) (Array.mk [Value.pointer p9, Value.int IntKind.i64 x53, Value.int IntKind.u64 x54]) (w51) (fun v55 => (fun w56 =>
                                      (∃ x57 : Int, ((v55 = Value.int IntKind.i64 x57) ∧ (ifK (x57 != 1)
                                        (R (Value.bool false) (w56))
                                        (ifK (x33 != 1)
                                          (R (Value.bool false) (w56))
                                          (ifK (b41)
                                            (R (Value.bool false) (w56))
                                            (∃ s58 : ByteArray, ((World.cell? w56 (Addr.add (Addr.mk (Array.size (World.heap w)) 0 none) 2) = some (Value.string s58)) ∧ (Ca Try.prog (23) (Array.mk [Value.pointer p9, Value.string s58]) (w56) (fun v59 => (fun w60 =>
                                              (∃ p61 : Option Addr, (∃ n62 : Nat, (∃ n63 : Nat, ((v59 = Value.slice p61 n62 n63) ∧ (Ca Try.prog (13) (Array.mk [Value.pointer p9]) (w60) (fun v64 => (fun w65 =>
                                                (∃ p66 : Option Addr, (∃ n67 : Nat, (∃ n68 : Nat, ((v64 = Value.slice p66 n67 n68) ∧ (ifK (decide (IntKind.wrap IntKind.i64 ((↑n62 : Int) + (↑n67 : Int)) > 0))
                                                  (R (Value.bool false) (w65))
                                                  ((z2 (IntKind.wrap IntKind.i64 (x5 + 1)) (w65)) ∧ (z3 (IntKind.wrap IntKind.i64 (x5 + 1)) w65 < z3 x5 w6))))))))))))))))))))))))))))))))))))))))))))))))))))))))))))))))))))))))))))))))))))))))))))))))))))))))))))))
        (Ca Try.prog (14) (Array.mk []) (w6) (fun v69 => (fun w70 =>
          (∃ b71 : Bool, ((v69 = Value.bool b71) ∧ (R (Value.bool b71) (w70)))))))))))))))))))
theorem ca6 (a0_ : Int) (a1_ : Int) (a2_ : ByteArray) (a3_ : Int) (a4_ : Int) (w : World) (R : Value → World → Prop) (h : W6 a0_ a1_ a2_ a3_ a4_ w R) : Ca Try.prog 6 ⟨[(.agg ⟨[(.int .i64 a0_), (.int .i64 a1_), (.string a2_), (.int .i64 a3_), (.int .u64 a4_)]⟩)]⟩ w R := by
  have h1 : Try.prog.follows .mixedOrders = true := by kernel_rfl
  have h2 : Try.f6.body = some C6 := by kernel_rfl
  have h3 : (Try.f6.name == "runtime.NumGoroutine") = false := by kernel_rfl
  have h6 : Try.f6.results.toList = [.tmp 2] := by kernel_rfl
  have h4 : Nat.ble 1 94 = true := by kernel_rfl
  have h5 : okCode 94 pl6 ls6 C6 0 = true := by kernel_rfl
  have e : W6 a0_ a1_ a2_ a3_ a4_ w R = wpC none Try.prog 94 pl6 ls6 C6 0 (endP Try.prog [.tmp 2] R) (fr0 [(.agg ⟨[(.int .i64 a0_), (.int .i64 a1_), (.string a2_), (.int .i64 a3_), (.int .u64 a4_)]⟩)]) [] w := by kernel_rfl
  exact ca_of' (P := Try.prog) (g := 6) (fn := Try.f6) (c := C6) (m := 94) (rs := [.tmp 2]) (args := [(.agg ⟨[(.int .i64 a0_), (.int .i64 a1_), (.string a2_), (.int .i64 a3_), (.int .u64 a4_)]⟩)]) (pl := pl6) (ls := ls6) (w := w) (R := R) h1 Try.func6 h2 Try.ntmps6 h6 h3 h4 h5 (Eq.mp e h)

/-- staith/consumer.New -/
noncomputable def C8 : Code := (Try.f8.body).getD .skip
def pl8 : Nat → Plan := fun _ => .done
def ls8 : Nat → List (Nat × LT) := fun _ => []
def W8 (w : World) (R : Value → World → Prop) : Prop :=
  (atW (World.alloc w (Obj.cells (Array.mk [Value.slice none 0 0, Value.bool true]) 59 (0, 0))) (fun w0 =>
    (R (Value.pointer (some (Addr.mk (Array.size (World.heap w)) 0 none))) (w0))))
theorem ca8 (w : World) (R : Value → World → Prop) (h : W8  w R) : Ca Try.prog 8 ⟨[]⟩ w R := by
  have h1 : Try.prog.follows .mixedOrders = true := by kernel_rfl
  have h2 : Try.f8.body = some C8 := by kernel_rfl
  have h3 : (Try.f8.name == "runtime.NumGoroutine") = false := by kernel_rfl
  have h6 : Try.f8.results.toList = [.tmp 0] := by kernel_rfl
  have h4 : Nat.ble 0 3 = true := by kernel_rfl
  have h5 : okCode 3 pl8 ls8 C8 0 = true := by kernel_rfl
  have e : W8  w R = wpC none Try.prog 3 pl8 ls8 C8 0 (endP Try.prog [.tmp 0] R) (fr0 []) [] w := by kernel_rfl
  exact ca_of' (P := Try.prog) (g := 8) (fn := Try.f8) (c := C8) (m := 3) (rs := [.tmp 0]) (args := []) (pl := pl8) (ls := ls8) (w := w) (R := R) h1 Try.func8 h2 Try.ntmps8 h6 h3 h4 h5 (Eq.mp e h)

/-- (*staith/consumer.Desk).Add -/
noncomputable def C9 : Code := (Try.f9.body).getD .skip
def pl9 : Nat → Plan := fun _ => .done
def ls9 : Nat → List (Nat × LT) := fun _ => []
def W9 (d : Option Addr) (client : Int) (queue : ByteArray) (most : Int) (w : World) (R : Value → World → Prop) : Prop :=
  (Ca Try.prog (24) (Array.mk [Value.pointer d]) (w) (fun v0 => (fun w1 =>
    (∃ b2 : Bool, ((v0 = Value.bool b2) ∧ (ifK (!b2)
      (R (Value.int IntKind.i64 1) (w1))
      (ifK (decide (client < 1))
        (R (Value.int IntKind.i64 2) (w1))
        (ifK (decide (client > 1000))
          (R (Value.int IntKind.i64 2) (w1))
          (ifK (decide (most < 1))
            (R (Value.int IntKind.i64 2) (w1))
            (ifK (decide (most > 100))
              (R (Value.int IntKind.i64 2) (w1))
              (Ca Try.prog (25) (Array.mk [Value.string queue]) (w1) (fun v3 => (fun w4 =>
                (∃ b5 : Bool, ((v3 = Value.bool b5) ∧ (ifK (!b5)
                  (R (Value.int IntKind.i64 2) (w4))
                  (Ca Try.prog (26) (Array.mk [Value.pointer d, Value.int IntKind.i64 client]) (w4) (fun v6 => (fun w7 =>
                    (∃ p8 : Option Addr, ((v6 = Value.pointer p8) ∧ (ifK (!Option.isNone p8)
                      (R (Value.int IntKind.i64 4) (w7))
                      (onP (d) (fun a9 =>
                        (∃ p10 : Option Addr, (∃ n11 : Nat, (∃ n12 : Nat, ((World.cell? w7 (Addr.add a9 0) = some (Value.slice p10 n11 n12)) ∧ (ifK (decide ((↑n11 : Int) ≥ 32))
                          (R (Value.int IntKind.i64 5) (w7))
                          (onP (d) (fun a13 =>
                            (∃ p14 : Option Addr, (∃ n15 : Nat, (∃ n16 : Nat, ((World.cell? w7 (Addr.add a13 0) = some (Value.slice p14 n15 n16)) ∧ (atW (World.alloc w7 (Obj.map #[] 0)) (fun w17 =>
                              (atW (World.alloc w17 (Obj.cells (Array.mk [Value.int IntKind.i64 client, Value.string queue, Value.int IntKind.i64 most, Value.map (some (Array.size (World.heap w7)))]) 72 (0, 0))) (fun w18 =>
                                (atW (World.alloc w18 (Obj.cells (Array.mk [Value.pointer (some (Addr.mk (Array.size (World.heap w17)) 0 none))]) 68 (0, 0))) (fun w19 =>
                                  (∃ v20 : Value, (∃ w21 : World, ((Sem.run Try.prog (Builtin.append_ (Array.mk [57, 57]) 57 (Array.mk [Value.slice p14 n15 n16, Value.slice (some (Addr.mk (Array.size (World.heap w18)) 0 none)) 1 1])) w19 = Result.ok v20 w21) ∧ (∃ p22 : Option Addr, (∃ n23 : Nat, (∃ n24 : Nat, ((v20 = Value.slice p22 n23 n24) ∧ (onP (d) (fun a25 =>
                                    ((∃ v26 : Value, (World.cell? w21 (Addr.add (Addr.add a25 0) 0) = some v26)) ∧ ((World.frozen? w21 (Addr.add (Addr.add a25 0) 0) = false) ∧ (atW (World.setCell w21 (Addr.add (Addr.add a25 0) 0) (Value.slice p22 n23 n24)) (fun w27 =>
                                      (R (Value.int IntKind.i64 0) (w27))))))))))))))))))))))))))))))))))))))))))))))))))))))))
theorem ca9 (d : Option Addr) (client : Int) (queue : ByteArray) (most : Int) (w : World) (R : Value → World → Prop) (h : W9 d client queue most w R) : Ca Try.prog 9 ⟨[(.pointer d), (.int .i64 client), (.string queue), (.int .i64 most)]⟩ w R := by
  have h1 : Try.prog.follows .mixedOrders = true := by kernel_rfl
  have h2 : Try.f9.body = some C9 := by kernel_rfl
  have h3 : (Try.f9.name == "runtime.NumGoroutine") = false := by kernel_rfl
  have h6 : Try.f9.results.toList = [.tmp 8] := by kernel_rfl
  have h4 : Nat.ble 4 52 = true := by kernel_rfl
  have h5 : okCode 52 pl9 ls9 C9 0 = true := by kernel_rfl
  have e : W9 d client queue most w R = wpC none Try.prog 52 pl9 ls9 C9 0 (endP Try.prog [.tmp 8] R) (fr0 [(.pointer d), (.int .i64 client), (.string queue), (.int .i64 most)]) [] w := by kernel_rfl
  exact ca_of' (P := Try.prog) (g := 9) (fn := Try.f9) (c := C9) (m := 52) (rs := [.tmp 8]) (args := [(.pointer d), (.int .i64 client), (.string queue), (.int .i64 most)]) (pl := pl9) (ls := ls9) (w := w) (R := R) h1 Try.func9 h2 Try.ntmps9 h6 h3 h4 h5 (Eq.mp e h)

/-- (*staith/consumer.Desk).Next -/
noncomputable def C10 : Code := (Try.f10.body).getD .skip
def pl10 : Nat → Plan := fun _ => .done
def ls10 : Nat → List (Nat × LT) := fun _ => []
def W10 (d : Option Addr) (queue : ByteArray) (w : World) (R : Value → World → Prop) : Prop :=
  (atW (World.alloc w (Obj.cells (Array.mk [Value.string queue]) 9 (0, 0))) (fun w0 =>
    (Ca Try.prog (27) (Array.mk [Value.pointer d, Value.func (Fn.func 28) (Array.mk []) (Array.mk [Value.pointer (some (Addr.mk (Array.size (World.heap w)) 0 none))])]) (w0) (fun v1 => (fun w2 =>
      (∃ p3 : Option Addr, ((v1 = Value.pointer p3) ∧ (ifK (Option.isNone p3)
        (R (Value.tuple (Array.mk [Value.int IntKind.i64 0, Value.bool false])) (w2))
        (onP (p3) (fun a4 =>
          (∃ x5 : Int, ((World.cell? w2 (Addr.add a4 0) = some (Value.int IntKind.i64 x5)) ∧ (R (Value.tuple (Array.mk [Value.int IntKind.i64 x5, Value.bool true])) (w2))))))))))))))
theorem ca10 (d : Option Addr) (queue : ByteArray) (w : World) (R : Value → World → Prop) (h : W10 d queue w R) : Ca Try.prog 10 ⟨[(.pointer d), (.string queue)]⟩ w R := by
  have h1 : Try.prog.follows .mixedOrders = true := by kernel_rfl
  have h2 : Try.f10.body = some C10 := by kernel_rfl
  have h3 : (Try.f10.name == "runtime.NumGoroutine") = false := by kernel_rfl
  have h6 : Try.f10.results.toList = [.tmp 4, .tmp 5] := by kernel_rfl
  have h4 : Nat.ble 2 16 = true := by kernel_rfl
  have h5 : okCode 16 pl10 ls10 C10 0 = true := by kernel_rfl
  have e : W10 d queue w R = wpC none Try.prog 16 pl10 ls10 C10 0 (endP Try.prog [.tmp 4, .tmp 5] R) (fr0 [(.pointer d), (.string queue)]) [] w := by kernel_rfl
  exact ca_of' (P := Try.prog) (g := 10) (fn := Try.f10) (c := C10) (m := 16) (rs := [.tmp 4, .tmp 5]) (args := [(.pointer d), (.string queue)]) (pl := pl10) (ls := ls10) (w := w) (R := R) h1 Try.func10 h2 Try.ntmps10 h6 h3 h4 h5 (Eq.mp e h)

/-- (*staith/consumer.Desk).Took -/
noncomputable def C11 : Code := (Try.f11.body).getD .skip
def pl11 : Nat → Plan
  | 6 => (.quiet 0 (.quiet 1 (.quiet 2 (.quiet 3 (.quiet 5 (.quiet 6 (.quiet 7 (.quiet 8 (.eff 4 [5, 8] (.quiet 9 (.quiet 10 .done)))))))))))
  | 12 => (.quiet 0 (.quiet 1 (.quiet 2 (.quiet 3 (.quiet 4 (.eff 5 [] .done))))))
  | 13 => (.quiet 0 (.quiet 1 (.quiet 2 (.quiet 3 (.quiet 4 (.eff 5 [] (.quiet 6 .done)))))))
  | 14 => (.quiet 0 (.quiet 1 (.quiet 2 (.quiet 3 (.quiet 4 (.quiet 5 (.quiet 6 (.quiet 7 (.quiet 8 (.quiet 9 (.quiet 10 (.quiet 11 (.quiet 12 (.eff 13 [] .done))))))))))))))
  | 15 => (.quiet 0 (.quiet 1 (.quiet 2 (.quiet 3 (.quiet 4 (.quiet 5 (.quiet 6 (.quiet 7 (.quiet 8 (.quiet 9 (.quiet 10 (.quiet 11 (.eff 12 [] .done)))))))))))))
  | _ => .done
def ls11 : Nat → List (Nat × LT) := fun _ => []
def W11 (d : Option Addr) (client : Int) (tag : Int) (w : World) (R : Value → World → Prop) : Prop :=
  (atW (World.alloc w (Obj.cells (Array.mk [Value.int IntKind.u64 tag]) 27 (0, 0))) (fun w0 =>
    (Ca Try.prog (24) (Array.mk [Value.pointer d]) (w0) (fun v1 => (fun w2 =>
      (∃ b3 : Bool, ((v1 = Value.bool b3) ∧ (ifK (!b3)
        (R (Value.int IntKind.i64 1) (w2))
        (Ca Try.prog (26) (Array.mk [Value.pointer d, Value.int IntKind.i64 client]) (w2) (fun v4 => (fun w5 =>
          (∃ p6 : Option Addr, ((v4 = Value.pointer p6) ∧ (atW (World.alloc w5 (Obj.cells (Array.mk [Value.pointer none]) 68 (0, 0))) (fun w7 =>
            ((∃ v8 : Value, (World.cell? w7 (Addr.add (Addr.mk (Array.size (World.heap w5)) 0 none) 0) = some v8)) ∧ ((World.frozen? w7 (Addr.add (Addr.mk (Array.size (World.heap w5)) 0 none) 0) = false) ∧ (atW (World.setCell w7 (Addr.add (Addr.mk (Array.size (World.heap w5)) 0 none) 0) (Value.pointer p6)) (fun w9 =>
              (∃ p10 : Option Addr, ((World.cell? w9 (Addr.mk (Array.size (World.heap w5)) 0 none) = some (Value.pointer p10)) ∧ (ifK (Option.isNone p10)
                (R (Value.int IntKind.i64 3) (w9))
                (atW (World.drew w9) (fun w11 =>
                  (∃ p12 : Option Addr, ((World.cell? w11 (Addr.mk (Array.size (World.heap w5)) 0 none) = some (Value.pointer p12)) ∧ (onP (p12) (fun a13 =>
                    (∃ p14 : Option Nat, ((World.cell? w11 (Addr.add a13 3) = some (Value.map p14)) ∧ (∃ p15 : Option Addr, ((World.cell? w11 (Addr.mk (Array.size (World.heap w5)) 0 none) = some (Value.pointer p15)) ∧ (onP (p15) (fun a16 =>
                      (∃ x17 : Int, ((World.cell? w11 (Addr.add a16 2) = some (Value.int IntKind.i64 x17)) ∧ (lenM (p14) (w11) (fun x18 =>
                        ((World.cell? w11 (Addr.add (Addr.mk (Array.size (World.heap w5)) 0 none) 0) = some (Value.pointer p15)) ∧ ((World.cell? w11 (Addr.add (Addr.add a16 2) 0) = some (Value.int IntKind.i64 x17)) ∧ (ifK (decide (x18 ≥ x17))
                          (R (Value.int IntKind.i64 5) (w11))
                          (Ca Try.prog (27) (Array.mk [Value.pointer d, Value.func (Fn.func 29) (Array.mk []) (Array.mk [Value.pointer (some (Addr.mk (Array.size (World.heap w5)) 0 none)), Value.pointer (some (Addr.mk (Array.size (World.heap w)) 0 none))])]) (w11) (fun v19 => (fun w20 =>
                            (∃ p21 : Option Addr, ((v19 = Value.pointer p21) ∧ (ifK (!Option.isNone p21)
                              (R (Value.int IntKind.i64 4) (w20))
                              (∃ x22 : Int, ((World.cell? w20 (Addr.mk (Array.size (World.heap w)) 0 none) = some (Value.int IntKind.u64 x22)) ∧ (ifK (x22 == 0)
                                (R (Value.int IntKind.i64 2) (w20))
                                (atW (World.drew w20) (fun w23 =>
                                  (∃ p24 : Option Addr, ((World.cell? w23 (Addr.mk (Array.size (World.heap w5)) 0 none) = some (Value.pointer p24)) ∧ (onP (p24) (fun a25 =>
                                    (∃ p26 : Option Nat, ((World.cell? w23 (Addr.add a25 3) = some (Value.map p26)) ∧ (∃ x27 : Int, ((World.cell? w23 (Addr.mk (Array.size (World.heap w)) 0 none) = some (Value.int IntKind.u64 x27)) ∧ (∃ w28 : World, ((Sem.run Try.prog (Instr.mapUpdate 70 (Value.map p26) (Value.int IntKind.u64 x27) (Value.bool true)) w23 = Result.ok () w28) ∧ (atW (World.drew w28) (fun w29 =>
                                      (onP (d) (fun a30 =>
                                        (∃ p31 : Option Addr, (∃ n32 : Nat, (∃ n33 : Nat, ((World.cell? w29 (Addr.add a30 0) = some (Value.slice p31 n32 n33)) ∧ (∃ p34 : Option Addr, ((World.cell? w29 (Addr.mk (Array.size (World.heap w5)) 0 none) = some (Value.pointer p34)) ∧ (Ca Try.prog (30) (Array.mk [Value.slice p31 n32 n33, Value.pointer p34]) (w29) (fun v35 => (fun w36 =>
                                          (∃ x37 : Int, ((v35 = Value.int IntKind.i64 x37) ∧ (atW (World.drew w36) (fun w38 =>
                                            (onP (d) (fun a39 =>
                                              (∃ p40 : Option Addr, (∃ n41 : Nat, (∃ n42 : Nat, ((World.cell? w38 (Addr.add a39 0) = some (Value.slice p40 n41 n42)) ∧ (((0 : Int) ≤ x37) ∧ (((x37 : Int) ≤ (↑n41 : Int)) ∧ ((((↑n41 : Int) : Int) ≤ (↑n42 : Int)) ∧ (onP (d) (fun a43 =>
                                                (∃ p44 : Option Addr, (∃ n45 : Nat, (∃ n46 : Nat, ((World.cell? w38 (Addr.add a43 0) = some (Value.slice p44 n45 n46)) ∧ (((0 : Int) ≤ IntKind.wrap IntKind.i64 (x37 + 1)) ∧ (((IntKind.wrap IntKind.i64 (x37 + 1) : Int) ≤ (↑n45 : Int)) ∧ ((((↑n45 : Int) : Int) ≤ (↑n46 : Int)) ∧ (∃ v47 : Value, (∃ w48 : World, ((Sem.run Try.prog (Builtin.copy_ (Array.mk [57, 57]) 3 (Array.mk [Value.slice (if n42 = Int.toNat x37 then p40 else Option.map (fun x => Addr.add x (Int.toNat x37 * 1)) p40) (Int.toNat (↑n41 : Int) - Int.toNat x37) (n42 - Int.toNat x37), Value.slice (if n46 = Int.toNat (IntKind.wrap IntKind.i64 (x37 + 1)) then p44 else Option.map (fun x => Addr.add x (Int.toNat (IntKind.wrap IntKind.i64 (x37 + 1)) * 1)) p44) (Int.toNat (↑n45 : Int) - Int.toNat (IntKind.wrap IntKind.i64 (x37 + 1))) (n46 - Int.toNat (IntKind.wrap IntKind.i64 (x37 + 1)))])) w38 = Result.ok v47 w48) ∧ (∃ x49 : Int, ((v47 = Value.int IntKind.i64 x49) ∧ (atW (World.drew w48) (fun w50 =>
                                                  (onP (d) (fun a51 =>
                                                    (∃ p52 : Option Addr, (∃ n53 : Nat, (∃ n54 : Nat, ((World.cell? w50 (Addr.add a51 0) = some (Value.slice p52 n53 n54)) ∧ (onP (d) (fun a55 =>
                                                      (∃ p56 : Option Addr, (∃ n57 : Nat, (∃ n58 : Nat, ((World.cell? w50 (Addr.add a55 0) = some (Value.slice p56 n57 n58)) ∧ (∃ p59 : Option Addr, ((World.cell? w50 (Addr.mk (Array.size (World.heap w5)) 0 none) = some (Value.pointer p59)) ∧ (∃ a60 : Addr, ((p52 = some a60) ∧ (((0 : Int) ≤ IntKind.wrap IntKind.i64 ((↑n57 : Int) - 1)) ∧ (((IntKind.wrap IntKind.i64 ((↑n57 : Int) - 1) : Int) < (↑n53 : Int)) ∧ ((∃ v61 : Value, (World.cell? w50 (Addr.add (Addr.add a60 (Int.toNat (IntKind.wrap IntKind.i64 ((↑n57 : Int) - 1)) * 1)) 0) = some v61)) ∧ ((World.frozen? w50 (Addr.add (Addr.add a60 (Int.toNat (IntKind.wrap IntKind.i64 ((↑n57 : Int) - 1)) * 1)) 0) = false) ∧ (atW (World.setCell w50 (Addr.add (Addr.add a60 (Int.toNat (IntKind.wrap IntKind.i64 ((↑n57 : Int) - 1)) * 1)) 0) (Value.pointer p59)) (fun w62 =>
                                                        (R (Value.int IntKind.i64 0) (w62))))))))))))))))))))))))))))))))))))))))))))))))))))))))))))))))))))))))))))))))))))))))))))))))))))))))))))))))))))))))))))))))
theorem ca11 (d : Option Addr) (client : Int) (tag : Int) (w : World) (R : Value → World → Prop) (h : W11 d client tag w R) : Ca Try.prog 11 ⟨[(.pointer d), (.int .i64 client), (.int .u64 tag)]⟩ w R := by
  have h1 : Try.prog.follows .mixedOrders = true := by kernel_rfl
  have h2 : Try.f11.body = some C11 := by kernel_rfl
  have h3 : (Try.f11.name == "runtime.NumGoroutine") = false := by kernel_rfl
  have h6 : Try.f11.results.toList = [.tmp 6] := by kernel_rfl
  have h4 : Nat.ble 3 74 = true := by kernel_rfl
  have h5 : okCode 74 pl11 ls11 C11 0 = true := by kernel_rfl
  have e : W11 d client tag w R = wpC none Try.prog 74 pl11 ls11 C11 0 (endP Try.prog [.tmp 6] R) (fr0 [(.pointer d), (.int .i64 client), (.int .u64 tag)]) [] w := by kernel_rfl
  exact ca_of' (P := Try.prog) (g := 11) (fn := Try.f11) (c := C11) (m := 74) (rs := [.tmp 6]) (args := [(.pointer d), (.int .i64 client), (.int .u64 tag)]) (pl := pl11) (ls := ls11) (w := w) (R := R) h1 Try.func11 h2 Try.ntmps11 h6 h3 h4 h5 (Eq.mp e h)

/-- (*staith/consumer.Desk).Drop -/
noncomputable def C12 : Code := (Try.f12.body).getD .skip
def pl12 : Nat → Plan := fun _ => .done
def ls12 : Nat → List (Nat × LT) := fun _ => []
def W12 (d : Option Addr) (client : Int) (w : World) (R : Value → World → Prop) : Prop :=
  (atW (World.alloc w (Obj.cells (Array.mk [Value.string (ByteArray.mk #[]), Value.slice none 0 0]) 33 (0, 0))) (fun w0 =>
    (Ca Try.prog (24) (Array.mk [Value.pointer d]) (w0) (fun v1 => (fun w2 =>
      (∃ b3 : Bool, ((v1 = Value.bool b3) ∧ (ifK (!b3)
        ((∃ v4 : Value, (World.cell? w2 (Addr.add (Addr.mk (Array.size (World.heap w)) 0 none) 0) = some v4)) ∧ ((World.frozen? w2 (Addr.add (Addr.mk (Array.size (World.heap w)) 0 none) 0) = false) ∧ (atW (World.setCell w2 (Addr.add (Addr.mk (Array.size (World.heap w)) 0 none) 0) (Value.string (ByteArray.mk #[]))) (fun w5 =>
          ((∃ v6 : Value, (World.cell? w5 (Addr.add (Addr.mk (Array.size (World.heap w)) 0 none) 1) = some v6)) ∧ ((World.frozen? w5 (Addr.add (Addr.mk (Array.size (World.heap w)) 0 none) 1) = false) ∧ (atW (World.setCell w5 (Addr.add (Addr.mk (Array.size (World.heap w)) 0 none) 1) (Value.slice none 0 0)) (fun w7 =>
            (∃ s8 : ByteArray, ((World.cell? w7 (Addr.add (Addr.mk (Array.size (World.heap w)) 0 none) 0) = some (Value.string s8)) ∧ (∃ p9 : Option Addr, (∃ n10 : Nat, (∃ n11 : Nat, ((World.cell? w7 (Addr.add (Addr.mk (Array.size (World.heap w)) 0 none) 1) = some (Value.slice p9 n10 n11)) ∧ (R (Value.tuple (Array.mk [Value.agg (Array.mk (List.reverse [Value.slice p9 n10 n11, Value.string s8])), Value.int IntKind.i64 1])) (w7))))))))))))))))
        (Ca Try.prog (26) (Array.mk [Value.pointer d, Value.int IntKind.i64 client]) (w2) (fun v12 => (fun w13 =>
          (∃ p14 : Option Addr, ((v12 = Value.pointer p14) ∧ (atW (World.alloc w13 (Obj.cells (Array.mk [Value.pointer none]) 68 (0, 0))) (fun w15 =>
            ((∃ v16 : Value, (World.cell? w15 (Addr.add (Addr.mk (Array.size (World.heap w13)) 0 none) 0) = some v16)) ∧ ((World.frozen? w15 (Addr.add (Addr.mk (Array.size (World.heap w13)) 0 none) 0) = false) ∧ (atW (World.setCell w15 (Addr.add (Addr.mk (Array.size (World.heap w13)) 0 none) 0) (Value.pointer p14)) (fun w17 =>
              (∃ p18 : Option Addr, ((World.cell? w17 (Addr.mk (Array.size (World.heap w13)) 0 none) = some (Value.pointer p18)) ∧ (ifK (Option.isNone p18)
                ((∃ v19 : Value, (World.cell? w17 (Addr.add (Addr.mk (Array.size (World.heap w)) 0 none) 0) = some v19)) ∧ ((World.frozen? w17 (Addr.add (Addr.mk (Array.size (World.heap w)) 0 none) 0) = false) ∧ (atW (World.setCell w17 (Addr.add (Addr.mk (Array.size (World.heap w)) 0 none) 0) (Value.string (ByteArray.mk #[]))) (fun w20 =>
                  ((∃ v21 : Value, (World.cell? w20 (Addr.add (Addr.mk (Array.size (World.heap w)) 0 none) 1) = some v21)) ∧ ((World.frozen? w20 (Addr.add (Addr.mk (Array.size (World.heap w)) 0 none) 1) = false) ∧ (atW (World.setCell w20 (Addr.add (Addr.mk (Array.size (World.heap w)) 0 none) 1) (Value.slice none 0 0)) (fun w22 =>
                    (∃ s23 : ByteArray, ((World.cell? w22 (Addr.add (Addr.mk (Array.size (World.heap w)) 0 none) 0) = some (Value.string s23)) ∧ (∃ p24 : Option Addr, (∃ n25 : Nat, (∃ n26 : Nat, ((World.cell? w22 (Addr.add (Addr.mk (Array.size (World.heap w)) 0 none) 1) = some (Value.slice p24 n25 n26)) ∧ (R (Value.tuple (Array.mk [Value.agg (Array.mk (List.reverse [Value.slice p24 n25 n26, Value.string s23])), Value.int IntKind.i64 3])) (w22))))))))))))))))
                (onP (d) (fun a27 =>
                  (∃ p28 : Option Addr, (∃ n29 : Nat, (∃ n30 : Nat, ((World.cell? w17 (Addr.add a27 0) = some (Value.slice p28 n29 n30)) ∧ (Ca Try.prog (31) (Array.mk [Value.slice p28 n29 n30, Value.func (Fn.func 32) (Array.mk []) (Array.mk [Value.pointer (some (Addr.mk (Array.size (World.heap w13)) 0 none))])]) (w17) (fun v31 => (fun w32 =>
                    (∃ p33 : Option Addr, (∃ n34 : Nat, (∃ n35 : Nat, ((v31 = Value.slice p33 n34 n35) ∧ (onP (d) (fun a36 =>
                      ((∃ v37 : Value, (World.cell? w32 (Addr.add (Addr.add a36 0) 0) = some v37)) ∧ ((World.frozen? w32 (Addr.add (Addr.add a36 0) 0) = false) ∧ (atW (World.setCell w32 (Addr.add (Addr.add a36 0) 0) (Value.slice p33 n34 n35)) (fun w38 =>
                        (∃ p39 : Option Addr, ((World.cell? w38 (Addr.mk (Array.size (World.heap w13)) 0 none) = some (Value.pointer p39)) ∧ (Ca Try.prog (33) (Array.mk [Value.pointer p39]) (w38) (fun v40 => (fun w41 =>
                          (∃ s42 : ByteArray, (∃ p43 : Option Addr, (∃ n44 : Nat, (∃ n45 : Nat, ((v40 = Value.agg (Array.mk (List.reverse [Value.slice p43 n44 n45, Value.string s42]))) ∧ ((∃ v46 : Value, (World.cell? w41 (Addr.add (Addr.mk (Array.size (World.heap w)) 0 none) 0) = some v46)) ∧ ((World.frozen? w41 (Addr.add (Addr.mk (Array.size (World.heap w)) 0 none) 0) = false) ∧ (atW (World.setCell w41 (Addr.add (Addr.mk (Array.size (World.heap w)) 0 none) 0) (Value.string s42)) (fun w47 =>
                            ((∃ v48 : Value, (World.cell? w47 (Addr.add (Addr.mk (Array.size (World.heap w)) 0 none) 1) = some v48)) ∧ ((World.frozen? w47 (Addr.add (Addr.mk (Array.size (World.heap w)) 0 none) 1) = false) ∧ (atW (World.setCell w47 (Addr.add (Addr.mk (Array.size (World.heap w)) 0 none) 1) (Value.slice p43 n44 n45)) (fun w49 =>
                              (∃ s50 : ByteArray, ((World.cell? w49 (Addr.add (Addr.mk (Array.size (World.heap w)) 0 none) 0) = some (Value.string s50)) ∧ (∃ p51 : Option Addr, (∃ n52 : Nat, (∃ n53 : Nat, ((World.cell? w49 (Addr.add (Addr.mk (Array.size (World.heap w)) 0 none) 1) = some (Value.slice p51 n52 n53)) ∧ (R (Value.tuple (Array.mk [Value.agg (Array.mk (List.reverse [Value.slice p51 n52 n53, Value.string s50])), Value.int IntKind.i64 0])) (w49)))))))))))))))))))))))))))))))))))))))))))))))))))))))))))))))))))
theorem ca12 (d : Option Addr) (client : Int) (w : World) (R : Value → World → Prop) (h : W12 d client w R) : Ca Try.prog 12 ⟨[(.pointer d), (.int .i64 client)]⟩ w R := by
  have h1 : Try.prog.follows .mixedOrders = true := by kernel_rfl
  have h2 : Try.f12.body = some C12 := by kernel_rfl
  have h3 : (Try.f12.name == "runtime.NumGoroutine") = false := by kernel_rfl
  have h6 : Try.f12.results.toList = [.cell 4 33, .tmp 5] := by kernel_rfl
  have h4 : Nat.ble 2 28 = true := by kernel_rfl
  have h5 : okCode 28 pl12 ls12 C12 0 = true := by kernel_rfl
  have e : W12 d client w R = wpC none Try.prog 28 pl12 ls12 C12 0 (endP Try.prog [.cell 4 33, .tmp 5] R) (fr0 [(.pointer d), (.int .i64 client)]) [] w := by kernel_rfl
  exact ca_of' (P := Try.prog) (g := 12) (fn := Try.f12) (c := C12) (m := 28) (rs := [.cell 4 33, .tmp 5]) (args := [(.pointer d), (.int .i64 client)]) (pl := pl12) (ls := ls12) (w := w) (R := R) h1 Try.func12 h2 Try.ntmps12 h6 h3 h4 h5 (Eq.mp e h)

/-- (*staith/consumer.Desk).Clients -/
noncomputable def C13 : Code := (Try.f13.body).getD .skip
def pl13 : Nat → Plan := fun _ => .done
def ls13 : Nat → List (Nat × LT)
  | 0 => [(3, (.one .slice)), (14, (.one (.int .i64)))]
  | _ => []
def W13 (d : Option Addr) (w : World) (R : Value → World → Prop) : Prop :=
  (Ca Try.prog (24) (Array.mk [Value.pointer d]) (w) (fun v0 => (fun w1 =>
    (∃ b2 : Bool, ((v0 = Value.bool b2) ∧ (ifK (!b2)
      (R (Value.slice none 0 0) (w1))
      (onP (d) (fun a3 =>
        (∃ p4 : Option Addr, (∃ n5 : Nat, (∃ n6 : Nat, ((World.cell? w1 (Addr.add a3 0) = some (Value.slice p4 n5 n6)) ∧ (∃ z7 : Option Addr → Nat → Nat → Int → World → Prop, (∃ z8 : Option Addr → Nat → Nat → Int → World → Nat, ((z7 (none) (0) (0) (0) (w1)) ∧ (∀ (_ : Nat → Value), (∀ (p10 : Option Addr), (∀ (n11 : Nat), (∀ (n12 : Nat), (∀ (x13 : Int), (∀ (w14 : World), ((z7 (p10) (n11) (n12) (x13) (w14)) → (ifK (decide (x13 < (↑n5 : Int)))
          (∃ a15 : Addr, ((p4 = some a15) ∧ (((0 : Int) ≤ x13) ∧ (((x13 : Int) < (↑n5 : Int)) ∧ (∃ p16 : Option Addr, ((World.cell? w14 (Addr.add a15 (Int.toNat x13 * 1)) = some (Value.pointer p16)) ∧ (onP (p16) (fun a17 =>
            (∃ x18 : Int, ((World.cell? w14 (Addr.add a17 0) = some (Value.int IntKind.i64 x18)) ∧ (atW (World.alloc w14 (Obj.cells (Array.mk [Value.int IntKind.i64 x18]) 3 (0, 0))) (fun w19 =>
              (∃ v20 : Value, (∃ w21 : World, ((Sem.run Try.prog (Builtin.append_ (Array.mk [36, 36]) 36 (Array.mk [Value.slice p10 n11 n12, Value.slice (some (Addr.mk (Array.size (World.heap w14)) 0 none)) 1 1])) w19 = Result.ok v20 w21) ∧ (∃ p22 : Option Addr, (∃ n23 : Nat, (∃ n24 : Nat, ((v20 = Value.slice p22 n23 n24) ∧ ((z7 (p22) (n23) (n24) (IntKind.wrap IntKind.i64 (x13 + 1)) (w21)) ∧ (z8 p22 n23 n24 (IntKind.wrap IntKind.i64 (x13 + 1)) w21 < z8 p10 n11 n12 x13 w14)))))))))))))))))))))
          (Ca Try.prog (34) (Array.mk [Value.slice p10 n11 n12]) (w14) (fun v25 => (fun w26 =>
            ((v25 = Value.tuple (Array.mk (List.reverse []))) ∧ (R (Value.slice p10 n11 n12) (w26)))))))))))))))))))))))))))))
theorem ca13 (d : Option Addr) (w : World) (R : Value → World → Prop) (h : W13 d w R) : Ca Try.prog 13 ⟨[(.pointer d)]⟩ w R := by
  have h1 : Try.prog.follows .mixedOrders = true := by kernel_rfl
  have h2 : Try.f13.body = some C13 := by kernel_rfl
  have h3 : (Try.f13.name == "runtime.NumGoroutine") = false := by kernel_rfl
  have h6 : Try.f13.results.toList = [.tmp 2] := by kernel_rfl
  have h4 : Nat.ble 1 29 = true := by kernel_rfl
  have h5 : okCode 29 pl13 ls13 C13 0 = true := by kernel_rfl
  have e : W13 d w R = wpC none Try.prog 29 pl13 ls13 C13 0 (endP Try.prog [.tmp 2] R) (fr0 [(.pointer d)]) [] w := by kernel_rfl
  exact ca_of' (P := Try.prog) (g := 13) (fn := Try.f13) (c := C13) (m := 29) (rs := [.tmp 2]) (args := [(.pointer d)]) (pl := pl13) (ls := ls13) (w := w) (R := R) h1 Try.func13 h2 Try.ntmps13 h6 h3 h4 h5 (Eq.mp e h)

/-- staith/staithlaw17.lives -/
noncomputable def C14 : Code := (Try.f14.body).getD .skip
def pl14 : Nat → Plan := fun _ => .done
def ls14 : Nat → List (Nat × LT) := fun _ => []
def W14 (w : World) (R : Value → World → Prop) : Prop :=
  (Ca Try.prog (8) (Array.mk []) (w) (fun v0 => (fun w1 =>
    (∃ p2 : Option Addr, ((v0 = Value.pointer p2) ∧ (Ca Try.prog (9) (Array.mk [Value.pointer p2, Value.int IntKind.i64 1, Value.string (ByteArray.mk #[113]), Value.int IntKind.i64 1]) (w1) (fun v3 => (fun w4 =>
      (∃ x5 : Int, ((v3 = Value.int IntKind.i64 x5) ∧ (ifK (x5 != 0)
        (R (Value.bool false) (w4))
        (Ca Try.prog (9) (Array.mk [Value.pointer p2, Value.int IntKind.i64 2, Value.string (ByteArray.mk #[113]), Value.int IntKind.i64 1]) (w4) (fun v6 => (fun w7 =>
          (∃ x8 : Int, ((v6 = Value.int IntKind.i64 x8) ∧ (ifK (x8 != 0)
            (R (Value.bool false) (w7))
            (Ca Try.prog (10) (Array.mk [Value.pointer p2, Value.string (ByteArray.mk #[113])]) (w7) (fun v9 => (fun w10 =>
              (∃ x11 : Int, (∃ b12 : Bool, ((v9 = Value.tuple (Array.mk (List.reverse [Value.bool b12, Value.int IntKind.i64 x11]))) ∧ (Ca Try.prog (11) (Array.mk [Value.pointer p2, Value.int IntKind.i64 1, Value.int IntKind.u64 5]) (w10) (fun v13 => (fun w14 =>
                (∃ x15 : Int, ((v13 = Value.int IntKind.i64 x15) ∧ (Ca Try.prog (10) (Array.mk [Value.pointer p2, Value.string (ByteArray.mk #[113])]) (w14) (fun v16 => (fun w17 =>
                  (∃ x18 : Int, (∃ b19 : Bool, ((v16 = Value.tuple (Array.mk (List.reverse [Value.bool b19, Value.int IntKind.i64 x18]))) ∧ (Ca Try.prog (22) (Array.mk [Value.pointer p2, Value.int IntKind.i64 1, Value.int IntKind.u64 5]) (w17) (fun v20 => (fun w21 =>
                    (∃ s22 : ByteArray, (∃ x23 : Int, ((v20 = Value.tuple (Array.mk (List.reverse [Value.int IntKind.i64 x23, Value.string s22]))) ∧ (ifK (x11 == 1)
                      (ifK (x15 == 0)
                        (ifK (x18 == 2)
                          (ifK (ByteArray.toList s22 == ByteArray.toList (ByteArray.mk #[113]))
                            (R (Value.bool (x23 == 0)) (w21))
                            (R (Value.bool false) (w21)))
                          (R (Value.bool false) (w21)))
                        (R (Value.bool false) (w21)))
                      (R (Value.bool false) (w21)))))))))))))))))))))))))))))))))))))))))))
theorem ca14 (w : World) (R : Value → World → Prop) (h : W14  w R) : Ca Try.prog 14 ⟨[]⟩ w R := by
  have h1 : Try.prog.follows .mixedOrders = true := by kernel_rfl
  have h2 : Try.f14.body = some C14 := by kernel_rfl
  have h3 : (Try.f14.name == "runtime.NumGoroutine") = false := by kernel_rfl
  have h6 : Try.f14.results.toList = [.tmp 0] := by kernel_rfl
  have h4 : Nat.ble 0 53 = true := by kernel_rfl
  have h5 : okCode 53 pl14 ls14 C14 0 = true := by kernel_rfl
  have e : W14  w R = wpC none Try.prog 53 pl14 ls14 C14 0 (endP Try.prog [.tmp 0] R) (fr0 []) [] w := by kernel_rfl
  exact ca_of' (P := Try.prog) (g := 14) (fn := Try.f14) (c := C14) (m := 53) (rs := [.tmp 0]) (args := []) (pl := pl14) (ls := ls14) (w := w) (R := R) h1 Try.func14 h2 Try.ntmps14 h6 h3 h4 h5 (Eq.mp e h)

/-- (*staith/consumer.Desk).Hold -/
noncomputable def C19 : Code := (Try.f19.body).getD .skip
def pl19 : Nat → Plan := fun _ => .done
def ls19 : Nat → List (Nat × LT) := fun _ => []
def W19 (d : Option Addr) (client : Int) (w : World) (R : Value → World → Prop) : Prop :=
  (atW (World.alloc w (Obj.cells (Array.mk [Value.string (ByteArray.mk #[]), Value.slice none 0 0]) 33 (0, 0))) (fun w0 =>
    (Ca Try.prog (26) (Array.mk [Value.pointer d, Value.int IntKind.i64 client]) (w0) (fun v1 => (fun w2 =>
      (∃ p3 : Option Addr, ((v1 = Value.pointer p3) ∧ (ifK (Option.isNone p3)
        ((∃ v4 : Value, (World.cell? w2 (Addr.add (Addr.mk (Array.size (World.heap w)) 0 none) 0) = some v4)) ∧ ((World.frozen? w2 (Addr.add (Addr.mk (Array.size (World.heap w)) 0 none) 0) = false) ∧ (atW (World.setCell w2 (Addr.add (Addr.mk (Array.size (World.heap w)) 0 none) 0) (Value.string (ByteArray.mk #[]))) (fun w5 =>
          ((∃ v6 : Value, (World.cell? w5 (Addr.add (Addr.mk (Array.size (World.heap w)) 0 none) 1) = some v6)) ∧ ((World.frozen? w5 (Addr.add (Addr.mk (Array.size (World.heap w)) 0 none) 1) = false) ∧ (atW (World.setCell w5 (Addr.add (Addr.mk (Array.size (World.heap w)) 0 none) 1) (Value.slice none 0 0)) (fun w7 =>
            (∃ s8 : ByteArray, ((World.cell? w7 (Addr.add (Addr.mk (Array.size (World.heap w)) 0 none) 0) = some (Value.string s8)) ∧ (∃ p9 : Option Addr, (∃ n10 : Nat, (∃ n11 : Nat, ((World.cell? w7 (Addr.add (Addr.mk (Array.size (World.heap w)) 0 none) 1) = some (Value.slice p9 n10 n11)) ∧ (R (Value.tuple (Array.mk [Value.agg (Array.mk (List.reverse [Value.slice p9 n10 n11, Value.string s8])), Value.bool false])) (w7))))))))))))))))
        (Ca Try.prog (33) (Array.mk [Value.pointer p3]) (w2) (fun v12 => (fun w13 =>
          (∃ s14 : ByteArray, (∃ p15 : Option Addr, (∃ n16 : Nat, (∃ n17 : Nat, ((v12 = Value.agg (Array.mk (List.reverse [Value.slice p15 n16 n17, Value.string s14]))) ∧ ((∃ v18 : Value, (World.cell? w13 (Addr.add (Addr.mk (Array.size (World.heap w)) 0 none) 0) = some v18)) ∧ ((World.frozen? w13 (Addr.add (Addr.mk (Array.size (World.heap w)) 0 none) 0) = false) ∧ (atW (World.setCell w13 (Addr.add (Addr.mk (Array.size (World.heap w)) 0 none) 0) (Value.string s14)) (fun w19 =>
            ((∃ v20 : Value, (World.cell? w19 (Addr.add (Addr.mk (Array.size (World.heap w)) 0 none) 1) = some v20)) ∧ ((World.frozen? w19 (Addr.add (Addr.mk (Array.size (World.heap w)) 0 none) 1) = false) ∧ (atW (World.setCell w19 (Addr.add (Addr.mk (Array.size (World.heap w)) 0 none) 1) (Value.slice p15 n16 n17)) (fun w21 =>
              (∃ s22 : ByteArray, ((World.cell? w21 (Addr.add (Addr.mk (Array.size (World.heap w)) 0 none) 0) = some (Value.string s22)) ∧ (∃ p23 : Option Addr, (∃ n24 : Nat, (∃ n25 : Nat, ((World.cell? w21 (Addr.add (Addr.mk (Array.size (World.heap w)) 0 none) 1) = some (Value.slice p23 n24 n25)) ∧ (R (Value.tuple (Array.mk [Value.agg (Array.mk (List.reverse [Value.slice p23 n24 n25, Value.string s22])), Value.bool true])) (w21))))))))))))))))))))))))))))))))
theorem ca19 (d : Option Addr) (client : Int) (w : World) (R : Value → World → Prop) (h : W19 d client w R) : Ca Try.prog 19 ⟨[(.pointer d), (.int .i64 client)]⟩ w R := by
  have h1 : Try.prog.follows .mixedOrders = true := by kernel_rfl
  have h2 : Try.f19.body = some C19 := by kernel_rfl
  have h3 : (Try.f19.name == "runtime.NumGoroutine") = false := by kernel_rfl
  have h6 : Try.f19.results.toList = [.cell 4 33, .tmp 5] := by kernel_rfl
  have h4 : Nat.ble 2 15 = true := by kernel_rfl
  have h5 : okCode 15 pl19 ls19 C19 0 = true := by kernel_rfl
  have e : W19 d client w R = wpC none Try.prog 15 pl19 ls19 C19 0 (endP Try.prog [.cell 4 33, .tmp 5] R) (fr0 [(.pointer d), (.int .i64 client)]) [] w := by kernel_rfl
  exact ca_of' (P := Try.prog) (g := 19) (fn := Try.f19) (c := C19) (m := 15) (rs := [.cell 4 33, .tmp 5]) (args := [(.pointer d), (.int .i64 client)]) (pl := pl19) (ls := ls19) (w := w) (R := R) h1 Try.func19 h2 Try.ntmps19 h6 h3 h4 h5 (Eq.mp e h)

/-- (*staith/consumer.Desk).Settle -/
noncomputable def C22 : Code := (Try.f22.body).getD .skip
def pl22 : Nat → Plan := fun _ => .done
def ls22 : Nat → List (Nat × LT) := fun _ => []
def W22 (d : Option Addr) (client : Int) (tag : Int) (w : World) (R : Value → World → Prop) : Prop :=
  (Ca Try.prog (24) (Array.mk [Value.pointer d]) (w) (fun v0 => (fun w1 =>
    (∃ b2 : Bool, ((v0 = Value.bool b2) ∧ (ifK (!b2)
      (R (Value.tuple (Array.mk [Value.string (ByteArray.mk #[]), Value.int IntKind.i64 1])) (w1))
      (Ca Try.prog (26) (Array.mk [Value.pointer d, Value.int IntKind.i64 client]) (w1) (fun v3 => (fun w4 =>
        (∃ p5 : Option Addr, ((v3 = Value.pointer p5) ∧ (ifK (Option.isNone p5)
          (R (Value.tuple (Array.mk [Value.string (ByteArray.mk #[]), Value.int IntKind.i64 3])) (w4))
          (onP (p5) (fun a6 =>
            (∃ p7 : Option Nat, ((World.cell? w4 (Addr.add a6 3) = some (Value.map p7)) ∧ (∃ v8 : Value, (∃ w9 : World, ((Sem.run Try.prog (Instr.lookup 70 (Value.map p7) (Value.int IntKind.u64 tag) false) w4 = Result.ok v8 w9) ∧ (∃ b10 : Bool, ((v8 = Value.bool b10) ∧ (ifK (!b10)
              (R (Value.tuple (Array.mk [Value.string (ByteArray.mk #[]), Value.int IntKind.i64 10])) (w9))
              (onP (p5) (fun a11 =>
                (∃ p12 : Option Nat, ((World.cell? w9 (Addr.add a11 3) = some (Value.map p12)) ∧ (∃ v13 : Value, (∃ w14 : World, ((Sem.run Try.prog (Builtin.delete_ (Array.mk [70, 27]) 0 (Array.mk [Value.map p12, Value.int IntKind.u64 tag])) w9 = Result.ok v13 w14) ∧ ((v13 = Value.tuple (Array.mk (List.reverse []))) ∧ (onP (p5) (fun a15 =>
                  (∃ s16 : ByteArray, ((World.cell? w14 (Addr.add a15 1) = some (Value.string s16)) ∧ (R (Value.tuple (Array.mk [Value.string s16, Value.int IntKind.i64 0])) (w14))))))))))))))))))))))))))))))))))))
theorem ca22 (d : Option Addr) (client : Int) (tag : Int) (w : World) (R : Value → World → Prop) (h : W22 d client tag w R) : Ca Try.prog 22 ⟨[(.pointer d), (.int .i64 client), (.int .u64 tag)]⟩ w R := by
  have h1 : Try.prog.follows .mixedOrders = true := by kernel_rfl
  have h2 : Try.f22.body = some C22 := by kernel_rfl
  have h3 : (Try.f22.name == "runtime.NumGoroutine") = false := by kernel_rfl
  have h6 : Try.f22.results.toList = [.tmp 6, .tmp 7] := by kernel_rfl
  have h4 : Nat.ble 3 35 = true := by kernel_rfl
  have h5 : okCode 35 pl22 ls22 C22 0 = true := by kernel_rfl
  have e : W22 d client tag w R = wpC none Try.prog 35 pl22 ls22 C22 0 (endP Try.prog [.tmp 6, .tmp 7] R) (fr0 [(.pointer d), (.int .i64 client), (.int .u64 tag)]) [] w := by kernel_rfl
  exact ca_of' (P := Try.prog) (g := 22) (fn := Try.f22) (c := C22) (m := 35) (rs := [.tmp 6, .tmp 7]) (args := [(.pointer d), (.int .i64 client), (.int .u64 tag)]) (pl := pl22) (ls := ls22) (w := w) (R := R) h1 Try.func22 h2 Try.ntmps22 h6 h3 h4 h5 (Eq.mp e h)

/-- (*staith/consumer.Desk).Forget -/
noncomputable def C23 : Code := (Try.f23.body).getD .skip
def pl23 : Nat → Plan := fun _ => .done
def ls23 : Nat → List (Nat × LT)
  | 0 => [(5, (.one .slice)), (11, (.one (.int .i64)))]
  | _ => []
def W23 (d : Option Addr) (queue : ByteArray) (w : World) (R : Value → World → Prop) : Prop :=
  (Ca Try.prog (13) (Array.mk [Value.pointer d]) (w) (fun v0 => (fun w1 =>
    (∃ p2 : Option Addr, (∃ n3 : Nat, (∃ n4 : Nat, ((v0 = Value.slice p2 n3 n4) ∧ (∃ z5 : Option Addr → Nat → Nat → Int → World → Prop, (∃ z6 : Option Addr → Nat → Nat → Int → World → Nat, ((z5 (none) (0) (0) (0) (w1)) ∧ (∀ (_ : Nat → Value), (∀ (p8 : Option Addr), (∀ (n9 : Nat), (∀ (n10 : Nat), (∀ (x11 : Int), (∀ (w12 : World), ((z5 (p8) (n9) (n10) (x11) (w12)) → (ifK (decide (x11 < (↑n3 : Int)))
      (∃ a13 : Addr, ((p2 = some a13) ∧ (((0 : Int) ≤ x11) ∧ (((x11 : Int) < (↑n3 : Int)) ∧ (∃ x14 : Int, ((World.cell? w12 (Addr.add a13 (Int.toNat x11 * 1)) = some (Value.int IntKind.i64 x14)) ∧ (Ca Try.prog (26) (Array.mk [Value.pointer d, Value.int IntKind.i64 x14]) (w12) (fun v15 => (fun w16 =>
        (∃ p17 : Option Addr, ((v15 = Value.pointer p17) ∧ (onP (p17) (fun a18 =>
          (∃ s19 : ByteArray, ((World.cell? w16 (Addr.add a18 1) = some (Value.string s19)) ∧ (ifK (ByteArray.toList s19 == ByteArray.toList queue)
            (Ca Try.prog (12) (Array.mk [Value.pointer d, Value.int IntKind.i64 x14]) (w16) (fun v20 => (fun w21 =>
              (∃ s22 : ByteArray, (∃ p23 : Option Addr, (∃ n24 : Nat, (∃ n25 : Nat, (∃ x26 : Int, ((v20 = Value.tuple (Array.mk (List.reverse [Value.int IntKind.i64 x26, Value.agg (Array.mk (List.reverse [Value.slice p23 n24 n25, Value.string s22]))]))) ∧ (atW (World.alloc w21 (Obj.cells (Array.mk [Value.int IntKind.i64 x14]) 3 (0, 0))) (fun w27 =>
                (∃ v28 : Value, (∃ w29 : World, ((Sem.run Try.prog (Builtin.append_ (Array.mk [36, 36]) 36 (Array.mk [Value.slice p8 n9 n10, Value.slice (some (Addr.mk (Array.size (World.heap w21)) 0 none)) 1 1])) w27 = Result.ok v28 w29) ∧ (∃ p30 : Option Addr, (∃ n31 : Nat, (∃ n32 : Nat, ((v28 = Value.slice p30 n31 n32) ∧ ((z5 (p30) (n31) (n32) (IntKind.wrap IntKind.i64 (x11 + 1)) (w29)) ∧ (z6 p30 n31 n32 (IntKind.wrap IntKind.i64 (x11 + 1)) w29 < z6 p8 n9 n10 x11 w12))))))))))))))))))))
            ((z5 (p8) (n9) (n10) (IntKind.wrap IntKind.i64 (x11 + 1)) (w16)) ∧ (z6 p8 n9 n10 (IntKind.wrap IntKind.i64 (x11 + 1)) w16 < z6 p8 n9 n10 x11 w12))))))))))))))))))
      (R (Value.slice p8 n9 n10) (w12))))))))))))))))))))
theorem ca23 (d : Option Addr) (queue : ByteArray) (w : World) (R : Value → World → Prop) (h : W23 d queue w R) : Ca Try.prog 23 ⟨[(.pointer d), (.string queue)]⟩ w R := by
  have h1 : Try.prog.follows .mixedOrders = true := by kernel_rfl
  have h2 : Try.f23.body = some C23 := by kernel_rfl
  have h3 : (Try.f23.name == "runtime.NumGoroutine") = false := by kernel_rfl
  have h6 : Try.f23.results.toList = [.tmp 4] := by kernel_rfl
  have h4 : Nat.ble 2 32 = true := by kernel_rfl
  have h5 : okCode 32 pl23 ls23 C23 0 = true := by kernel_rfl
  have e : W23 d queue w R = wpC none Try.prog 32 pl23 ls23 C23 0 (endP Try.prog [.tmp 4] R) (fr0 [(.pointer d), (.string queue)]) [] w := by kernel_rfl
  exact ca_of' (P := Try.prog) (g := 23) (fn := Try.f23) (c := C23) (m := 32) (rs := [.tmp 4]) (args := [(.pointer d), (.string queue)]) (pl := pl23) (ls := ls23) (w := w) (R := R) h1 Try.func23 h2 Try.ntmps23 h6 h3 h4 h5 (Eq.mp e h)

/-- (*staith/consumer.Desk).made -/
noncomputable def C24 : Code := (Try.f24.body).getD .skip
def pl24 : Nat → Plan := fun _ => .done
def ls24 : Nat → List (Nat × LT) := fun _ => []
def W24 (d : Option Addr) (w : World) (R : Value → World → Prop) : Prop :=
  (ifK (!Option.isNone d)
    (onP (d) (fun a0 =>
      (∃ b1 : Bool, ((World.cell? w (Addr.add a0 1) = some (Value.bool b1)) ∧ (R (Value.bool b1) (w))))))
    (R (Value.bool false) (w)))
theorem ca24 (d : Option Addr) (w : World) (R : Value → World → Prop) (h : W24 d w R) : Ca Try.prog 24 ⟨[(.pointer d)]⟩ w R := by
  have h1 : Try.prog.follows .mixedOrders = true := by kernel_rfl
  have h2 : Try.f24.body = some C24 := by kernel_rfl
  have h3 : (Try.f24.name == "runtime.NumGoroutine") = false := by kernel_rfl
  have h6 : Try.f24.results.toList = [.tmp 2] := by kernel_rfl
  have h4 : Nat.ble 1 11 = true := by kernel_rfl
  have h5 : okCode 11 pl24 ls24 C24 0 = true := by kernel_rfl
  have e : W24 d w R = wpC none Try.prog 11 pl24 ls24 C24 0 (endP Try.prog [.tmp 2] R) (fr0 [(.pointer d)]) [] w := by kernel_rfl
  exact ca_of' (P := Try.prog) (g := 24) (fn := Try.f24) (c := C24) (m := 11) (rs := [.tmp 2]) (args := [(.pointer d)]) (pl := pl24) (ls := ls24) (w := w) (R := R) h1 Try.func24 h2 Try.ntmps24 h6 h3 h4 h5 (Eq.mp e h)

/-- staith/topic.Name -/
noncomputable def C25 : Code := (Try.f25.body).getD .skip
def pl25 : Nat → Plan := fun _ => .done
def ls25 : Nat → List (Nat × LT) := fun _ => []
def W25 (s : ByteArray) (w : World) (R : Value → World → Prop) : Prop :=
  (ifK (decide ((↑(ByteArray.size s) : Int) ≤ 20))
    (Ca Try.prog (42) (Array.mk [Value.string s]) (w) (fun v0 => (fun w1 =>
      (∃ b2 : Bool, ((v0 = Value.bool b2) ∧ (R (Value.bool b2) (w1)))))))
    (R (Value.bool false) (w)))
theorem ca25 (s : ByteArray) (w : World) (R : Value → World → Prop) (h : W25 s w R) : Ca Try.prog 25 ⟨[(.string s)]⟩ w R := by
  have h1 : Try.prog.follows .mixedOrders = true := by kernel_rfl
  have h2 : Try.f25.body = some C25 := by kernel_rfl
  have h3 : (Try.f25.name == "runtime.NumGoroutine") = false := by kernel_rfl
  have h6 : Try.f25.results.toList = [.tmp 2] := by kernel_rfl
  have h4 : Nat.ble 1 10 = true := by kernel_rfl
  have h5 : okCode 10 pl25 ls25 C25 0 = true := by kernel_rfl
  have e : W25 s w R = wpC none Try.prog 10 pl25 ls25 C25 0 (endP Try.prog [.tmp 2] R) (fr0 [(.string s)]) [] w := by kernel_rfl
  exact ca_of' (P := Try.prog) (g := 25) (fn := Try.f25) (c := C25) (m := 10) (rs := [.tmp 2]) (args := [(.string s)]) (pl := pl25) (ls := ls25) (w := w) (R := R) h1 Try.func25 h2 Try.ntmps25 h6 h3 h4 h5 (Eq.mp e h)

/-- (*staith/consumer.Desk).of -/
noncomputable def C26 : Code := (Try.f26.body).getD .skip
def pl26 : Nat → Plan := fun _ => .done
def ls26 : Nat → List (Nat × LT) := fun _ => []
def W26 (d : Option Addr) (client : Int) (w : World) (R : Value → World → Prop) : Prop :=
  (atW (World.alloc w (Obj.cells (Array.mk [Value.int IntKind.i64 client]) 3 (0, 0))) (fun w0 =>
    (Ca Try.prog (27) (Array.mk [Value.pointer d, Value.func (Fn.func 43) (Array.mk []) (Array.mk [Value.pointer (some (Addr.mk (Array.size (World.heap w)) 0 none))])]) (w0) (fun v1 => (fun w2 =>
      (∃ p3 : Option Addr, ((v1 = Value.pointer p3) ∧ (R (Value.pointer p3) (w2)))))))))
theorem ca26 (d : Option Addr) (client : Int) (w : World) (R : Value → World → Prop) (h : W26 d client w R) : Ca Try.prog 26 ⟨[(.pointer d), (.int .i64 client)]⟩ w R := by
  have h1 : Try.prog.follows .mixedOrders = true := by kernel_rfl
  have h2 : Try.f26.body = some C26 := by kernel_rfl
  have h3 : (Try.f26.name == "runtime.NumGoroutine") = false := by kernel_rfl
  have h6 : Try.f26.results.toList = [.tmp 4] := by kernel_rfl
  have h4 : Nat.ble 2 8 = true := by kernel_rfl
  have h5 : okCode 8 pl26 ls26 C26 0 = true := by kernel_rfl
  have e : W26 d client w R = wpC none Try.prog 8 pl26 ls26 C26 0 (endP Try.prog [.tmp 4] R) (fr0 [(.pointer d), (.int .i64 client)]) [] w := by kernel_rfl
  exact ca_of' (P := Try.prog) (g := 26) (fn := Try.f26) (c := C26) (m := 8) (rs := [.tmp 4]) (args := [(.pointer d), (.int .i64 client)]) (pl := pl26) (ls := ls26) (w := w) (R := R) h1 Try.func26 h2 Try.ntmps26 h6 h3 h4 h5 (Eq.mp e h)

/-- (*staith/consumer.Desk).find -/
noncomputable def C27 : Code := (Try.f27.body).getD .skip
def pl27 : Nat → Plan := fun _ => .done
def ls27 : Nat → List (Nat × LT) := fun _ => []
def W27 (d : Option Addr) (so : Value) (w : World) (R : Value → World → Prop) : Prop :=
  (Ca Try.prog (24) (Array.mk [Value.pointer d]) (w) (fun v0 => (fun w1 =>
    (∃ b2 : Bool, ((v0 = Value.bool b2) ∧ (ifK (!b2)
      (R (Value.pointer none) (w1))
      (onP (d) (fun a3 =>
        (∃ p4 : Option Addr, (∃ n5 : Nat, (∃ n6 : Nat, ((World.cell? w1 (Addr.add a3 0) = some (Value.slice p4 n5 n6)) ∧ (Ca Try.prog (44) (Array.mk [Value.slice p4 n5 n6, so]) (w1) (fun v7 => (fun w8 =>
          (∃ x9 : Int, ((v7 = Value.int IntKind.i64 x9) ∧ (ifK (decide (x9 ≥ 0))
            (onP (d) (fun a10 =>
              (∃ p11 : Option Addr, (∃ n12 : Nat, (∃ n13 : Nat, ((World.cell? w8 (Addr.add a10 0) = some (Value.slice p11 n12 n13)) ∧ (∃ a14 : Addr, ((p11 = some a14) ∧ (((0 : Int) ≤ x9) ∧ (((x9 : Int) < (↑n12 : Int)) ∧ (∃ p15 : Option Addr, ((World.cell? w8 (Addr.add a14 (Int.toNat x9 * 1)) = some (Value.pointer p15)) ∧ (R (Value.pointer p15) (w8))))))))))))))
            (R (Value.pointer none) (w8))))))))))))))))))))
theorem ca27 (d : Option Addr) (so : Value) (w : World) (R : Value → World → Prop) (h : W27 d so w R) : Ca Try.prog 27 ⟨[(.pointer d), so]⟩ w R := by
  have h1 : Try.prog.follows .mixedOrders = true := by kernel_rfl
  have h2 : Try.f27.body = some C27 := by kernel_rfl
  have h3 : (Try.f27.name == "runtime.NumGoroutine") = false := by kernel_rfl
  have h6 : Try.f27.results.toList = [.tmp 4] := by kernel_rfl
  have h4 : Nat.ble 2 24 = true := by kernel_rfl
  have h5 : okCode 24 pl27 ls27 C27 0 = true := by kernel_rfl
  have e : W27 d so w R = wpC none Try.prog 24 pl27 ls27 C27 0 (endP Try.prog [.tmp 4] R) (fr0 [(.pointer d), so]) [] w := by kernel_rfl
  exact ca_of' (P := Try.prog) (g := 27) (fn := Try.f27) (c := C27) (m := 24) (rs := [.tmp 4]) (args := [(.pointer d), so]) (pl := pl27) (ls := ls27) (w := w) (R := R) h1 Try.func27 h2 Try.ntmps27 h6 h3 h4 h5 (Eq.mp e h)

/-- (*staith/consumer.Desk).Next$1 -/
noncomputable def C28 : Code := (Try.f28.body).getD .skip
def pl28 : Nat → Plan
  | 1 => (.quiet 0 (.quiet 1 (.quiet 2 (.quiet 3 (.quiet 4 (.quiet 5 (.quiet 6 (.quiet 7 (.quiet 8 (.quiet 9 (.quiet 10 (.quiet 12 (.quiet 13 (.quiet 14 (.quiet 15 (.eff 11 [15] (.quiet 16 (.quiet 17 (.quiet 18 .done)))))))))))))))))))
  | _ => .done
def ls28 : Nat → List (Nat × LT) := fun _ => []
def W28 (w_ : Option Addr) (c0 : Option Addr) (w : World) (R : Value → World → Prop) : Prop :=
  (atW (World.drew w) (fun w0 =>
    (onP (w_) (fun a1 =>
      (∃ s2 : ByteArray, ((World.cell? w0 (Addr.add a1 1) = some (Value.string s2)) ∧ (onP (c0) (fun a3 =>
        (∃ s4 : ByteArray, ((World.cell? w0 a3 = some (Value.string s4)) ∧ (ifK (ByteArray.toList s2 == ByteArray.toList s4)
          (onP (w_) (fun a5 =>
            (∃ p6 : Option Nat, ((World.cell? w0 (Addr.add a5 3) = some (Value.map p6)) ∧ (onP (w_) (fun a7 =>
              (∃ x8 : Int, ((World.cell? w0 (Addr.add a7 2) = some (Value.int IntKind.i64 x8)) ∧ (lenM (p6) (w0) (fun x9 =>
                ((World.cell? w0 (Addr.add (Addr.add a7 2) 0) = some (Value.int IntKind.i64 x8)) ∧ (R (Value.bool (decide (x9 < x8))) (w0)))))))))))))
          (R (Value.bool false) (w0)))))))))))))
theorem ca28 (w_ : Option Addr) (c0 : Option Addr) (w : World) (R : Value → World → Prop) (h : W28 w_ c0 w R) : Ca Try.prog 28 ⟨[(.pointer w_), (.pointer c0)]⟩ w R := by
  have h1 : Try.prog.follows .mixedOrders = true := by kernel_rfl
  have h2 : Try.f28.body = some C28 := by kernel_rfl
  have h3 : (Try.f28.name == "runtime.NumGoroutine") = false := by kernel_rfl
  have h6 : Try.f28.results.toList = [.tmp 3] := by kernel_rfl
  have h4 : Nat.ble 2 22 = true := by kernel_rfl
  have h5 : okCode 22 pl28 ls28 C28 0 = true := by kernel_rfl
  have e : W28 w_ c0 w R = wpC none Try.prog 22 pl28 ls28 C28 0 (endP Try.prog [.tmp 3] R) (fr0 [(.pointer w_), (.pointer c0)]) [] w := by kernel_rfl
  exact ca_of' (P := Try.prog) (g := 28) (fn := Try.f28) (c := C28) (m := 22) (rs := [.tmp 3]) (args := [(.pointer w_), (.pointer c0)]) (pl := pl28) (ls := ls28) (w := w) (R := R) h1 Try.func28 h2 Try.ntmps28 h6 h3 h4 h5 (Eq.mp e h)

/-- (*staith/consumer.Desk).Took$1 -/
noncomputable def C29 : Code := (Try.f29.body).getD .skip
def pl29 : Nat → Plan
  | 1 => (.quiet 0 (.quiet 1 (.quiet 2 (.quiet 3 (.quiet 4 (.quiet 5 (.quiet 6 (.quiet 7 (.quiet 8 (.quiet 9 (.quiet 10 (.quiet 11 (.quiet 12 (.quiet 13 (.quiet 14 (.eff 15 [] (.quiet 16 (.quiet 17 .done))))))))))))))))))
  | _ => .done
def ls29 : Nat → List (Nat × LT) := fun _ => []
def W29 (x : Option Addr) (c0 : Option Addr) (c1 : Option Addr) (w : World) (R : Value → World → Prop) : Prop :=
  (atW (World.drew w) (fun w0 =>
    (onP (x) (fun a1 =>
      (∃ s2 : ByteArray, ((World.cell? w0 (Addr.add a1 1) = some (Value.string s2)) ∧ (onP (c0) (fun a3 =>
        (∃ p4 : Option Addr, ((World.cell? w0 a3 = some (Value.pointer p4)) ∧ (onP (p4) (fun a5 =>
          (∃ s6 : ByteArray, ((World.cell? w0 (Addr.add a5 1) = some (Value.string s6)) ∧ (ifK (ByteArray.toList s2 == ByteArray.toList s6)
            (onP (x) (fun a7 =>
              (∃ p8 : Option Nat, ((World.cell? w0 (Addr.add a7 3) = some (Value.map p8)) ∧ (onP (c1) (fun a9 =>
                (∃ x10 : Int, ((World.cell? w0 a9 = some (Value.int IntKind.u64 x10)) ∧ (∃ v11 : Value, (∃ w12 : World, ((Sem.run Try.prog (Instr.lookup 70 (Value.map p8) (Value.int IntKind.u64 x10) false) w0 = Result.ok v11 w12) ∧ (∃ b13 : Bool, ((v11 = Value.bool b13) ∧ (R (Value.bool b13) (w12)))))))))))))))
            (R (Value.bool false) (w0)))))))))))))))))
theorem ca29 (x : Option Addr) (c0 : Option Addr) (c1 : Option Addr) (w : World) (R : Value → World → Prop) (h : W29 x c0 c1 w R) : Ca Try.prog 29 ⟨[(.pointer x), (.pointer c0), (.pointer c1)]⟩ w R := by
  have h1 : Try.prog.follows .mixedOrders = true := by kernel_rfl
  have h2 : Try.f29.body = some C29 := by kernel_rfl
  have h3 : (Try.f29.name == "runtime.NumGoroutine") = false := by kernel_rfl
  have h6 : Try.f29.results.toList = [.tmp 4] := by kernel_rfl
  have h4 : Nat.ble 3 22 = true := by kernel_rfl
  have h5 : okCode 22 pl29 ls29 C29 0 = true := by kernel_rfl
  have e : W29 x c0 c1 w R = wpC none Try.prog 22 pl29 ls29 C29 0 (endP Try.prog [.tmp 4] R) (fr0 [(.pointer x), (.pointer c0), (.pointer c1)]) [] w := by kernel_rfl
  exact ca_of' (P := Try.prog) (g := 29) (fn := Try.f29) (c := C29) (m := 22) (rs := [.tmp 4]) (args := [(.pointer x), (.pointer c0), (.pointer c1)]) (pl := pl29) (ls := ls29) (w := w) (R := R) h1 Try.func29 h2 Try.ntmps29 h6 h3 h4 h5 (Eq.mp e h)

/-- slices.Index[[]*staith/consumer.wish,*staith/consumer.wish] -/
noncomputable def C30 : Code := (Try.f30.body).getD .skip
def pl30 : Nat → Plan := fun _ => .done
def ls30 : Nat → List (Nat × LT)
  | 0 => [(8, (.one (.int .i64)))]
  | _ => []
def W30 (sa : Option Addr) (sl : Nat) (_sc : Nat) (v_ : Option Addr) (w : World) (R : Value → World → Prop) : Prop :=
  (∃ z0 : Int → World → Prop, (∃ z1 : Int → World → Nat, ((z0 (0) (w)) ∧ (∀ (_ : Nat → Value), (∀ (x3 : Int), (∀ (w4 : World), ((z0 (x3) (w4)) → (ifK (decide (x3 < (↑sl : Int)))
    (∃ a5 : Addr, ((sa = some a5) ∧ (((0 : Int) ≤ x3) ∧ (((x3 : Int) < (↑sl : Int)) ∧ (∃ p6 : Option Addr, ((World.cell? w4 (Addr.add a5 (Int.toNat x3 * 1)) = some (Value.pointer p6)) ∧ (ptrEq Try.prog 68 (v_) (p6) (w4) (fun b7 => (fun w8 =>
      (ifK (b7)
        (R (Value.int IntKind.i64 x3) (w8))
        ((z0 (IntKind.wrap IntKind.i64 (x3 + 1)) (w8)) ∧ (z1 (IntKind.wrap IntKind.i64 (x3 + 1)) w8 < z1 x3 w4))))))))))))
    (R (Value.int IntKind.i64 (-1)) (w4))))))))))
theorem ca30 (sa : Option Addr) (sl : Nat) (sc : Nat) (v_ : Option Addr) (w : World) (R : Value → World → Prop) (h : W30 sa sl sc v_ w R) : Ca Try.prog 30 ⟨[(.slice sa sl sc), (.pointer v_)]⟩ w R := by
  have h1 : Try.prog.follows .mixedOrders = true := by kernel_rfl
  have h2 : Try.f30.body = some C30 := by kernel_rfl
  have h3 : (Try.f30.name == "runtime.NumGoroutine") = false := by kernel_rfl
  have h6 : Try.f30.results.toList = [.tmp 4] := by kernel_rfl
  have h4 : Nat.ble 2 19 = true := by kernel_rfl
  have h5 : okCode 19 pl30 ls30 C30 0 = true := by kernel_rfl
  have e : W30 sa sl sc v_ w R = wpC none Try.prog 19 pl30 ls30 C30 0 (endP Try.prog [.tmp 4] R) (fr0 [(.slice sa sl sc), (.pointer v_)]) [] w := by kernel_rfl
  exact ca_of' (P := Try.prog) (g := 30) (fn := Try.f30) (c := C30) (m := 19) (rs := [.tmp 4]) (args := [(.slice sa sl sc), (.pointer v_)]) (pl := pl30) (ls := ls30) (w := w) (R := R) h1 Try.func30 h2 Try.ntmps30 h6 h3 h4 h5 (Eq.mp e h)

/-- staith/topic.plain -/
noncomputable def C42 : Code := (Try.f42.body).getD .skip
def pl42 : Nat → Plan := fun _ => .done
def ls42 : Nat → List (Nat × LT)
  | 0 => []
  | _ => []
def W42 (w_ : ByteArray) (w : World) (R : Value → World → Prop) : Prop :=
  (atW (World.alloc w (Obj.stringIter w_ 0)) (fun w0 =>
    (∃ z1 : World → Prop, (∃ z2 : World → Nat, ((z1 (w0)) ∧ (∀ (_ : Nat → Value), (∀ (w4 : World), ((z1 (w4)) → (nxtS (Array.size (World.heap w)) (w4) (fun _ => (fun x6 => (fun w7 =>
      (ifK (decide (x6 ≥ 97))
        (ifK (decide (x6 ≤ 122))
          ((z1 (w7)) ∧ (z2 w7 < z2 w4))
          (ifK (decide (x6 ≥ 48))
            (ifK (decide (x6 ≤ 57))
              ((z1 (w7)) ∧ (z2 w7 < z2 w4))
              (ifK (x6 == 45)
                ((z1 (w7)) ∧ (z2 w7 < z2 w4))
                (ifK (x6 == 95)
                  ((z1 (w7)) ∧ (z2 w7 < z2 w4))
                  (R (Value.bool false) (w7)))))
            (ifK (x6 == 45)
              ((z1 (w7)) ∧ (z2 w7 < z2 w4))
              (ifK (x6 == 95)
                ((z1 (w7)) ∧ (z2 w7 < z2 w4))
                (R (Value.bool false) (w7))))))
        (ifK (decide (x6 ≥ 48))
          (ifK (decide (x6 ≤ 57))
            ((z1 (w7)) ∧ (z2 w7 < z2 w4))
            (ifK (x6 == 45)
              ((z1 (w7)) ∧ (z2 w7 < z2 w4))
              (ifK (x6 == 95)
                ((z1 (w7)) ∧ (z2 w7 < z2 w4))
                (R (Value.bool false) (w7)))))
          (ifK (x6 == 45)
            ((z1 (w7)) ∧ (z2 w7 < z2 w4))
            (ifK (x6 == 95)
              ((z1 (w7)) ∧ (z2 w7 < z2 w4))
              (R (Value.bool false) (w7))))))))) (fun w8 =>
      (R (Value.bool !ByteArray.toList w_ == ByteArray.toList (ByteArray.mk #[])) (w8))))))))))))
theorem ca42 (w_ : ByteArray) (w : World) (R : Value → World → Prop) (h : W42 w_ w R) : Ca Try.prog 42 ⟨[(.string w_)]⟩ w R := by
  have h1 : Try.prog.follows .mixedOrders = true := by kernel_rfl
  have h2 : Try.f42.body = some C42 := by kernel_rfl
  have h3 : (Try.f42.name == "runtime.NumGoroutine") = false := by kernel_rfl
  have h6 : Try.f42.results.toList = [.tmp 2] := by kernel_rfl
  have h4 : Nat.ble 1 29 = true := by kernel_rfl
  have h5 : okCode 29 pl42 ls42 C42 0 = true := by kernel_rfl
  have e : W42 w_ w R = wpC none Try.prog 29 pl42 ls42 C42 0 (endP Try.prog [.tmp 2] R) (fr0 [(.string w_)]) [] w := by kernel_rfl
  exact ca_of' (P := Try.prog) (g := 42) (fn := Try.f42) (c := C42) (m := 29) (rs := [.tmp 2]) (args := [(.string w_)]) (pl := pl42) (ls := ls42) (w := w) (R := R) h1 Try.func42 h2 Try.ntmps42 h6 h3 h4 h5 (Eq.mp e h)

/-- (*staith/consumer.Desk).of$1 -/
noncomputable def C43 : Code := (Try.f43.body).getD .skip
def pl43 : Nat → Plan
  | 1 => (.quiet 0 (.quiet 1 (.quiet 2 (.quiet 3 (.quiet 4 (.quiet 5 (.quiet 6 .done)))))))
  | _ => .done
def ls43 : Nat → List (Nat × LT) := fun _ => []
def W43 (w_ : Option Addr) (c0 : Option Addr) (w : World) (R : Value → World → Prop) : Prop :=
  (atW (World.drew w) (fun w0 =>
    (onP (w_) (fun a1 =>
      (∃ x2 : Int, ((World.cell? w0 (Addr.add a1 0) = some (Value.int IntKind.i64 x2)) ∧ (onP (c0) (fun a3 =>
        (∃ x4 : Int, ((World.cell? w0 a3 = some (Value.int IntKind.i64 x4)) ∧ (R (Value.bool (x2 == x4)) (w0))))))))))))
theorem ca43 (w_ : Option Addr) (c0 : Option Addr) (w : World) (R : Value → World → Prop) (h : W43 w_ c0 w R) : Ca Try.prog 43 ⟨[(.pointer w_), (.pointer c0)]⟩ w R := by
  have h1 : Try.prog.follows .mixedOrders = true := by kernel_rfl
  have h2 : Try.f43.body = some C43 := by kernel_rfl
  have h3 : (Try.f43.name == "runtime.NumGoroutine") = false := by kernel_rfl
  have h6 : Try.f43.results.toList = [.tmp 3] := by kernel_rfl
  have h4 : Nat.ble 2 10 = true := by kernel_rfl
  have h5 : okCode 10 pl43 ls43 C43 0 = true := by kernel_rfl
  have e : W43 w_ c0 w R = wpC none Try.prog 10 pl43 ls43 C43 0 (endP Try.prog [.tmp 3] R) (fr0 [(.pointer w_), (.pointer c0)]) [] w := by kernel_rfl
  exact ca_of' (P := Try.prog) (g := 43) (fn := Try.f43) (c := C43) (m := 10) (rs := [.tmp 3]) (args := [(.pointer w_), (.pointer c0)]) (pl := pl43) (ls := ls43) (w := w) (R := R) h1 Try.func43 h2 Try.ntmps43 h6 h3 h4 h5 (Eq.mp e h)

/-- slices.IndexFunc[[]*staith/consumer.wish,*staith/consumer.wish] -/
noncomputable def C44 : Code := (Try.f44.body).getD .skip
def pl44 : Nat → Plan := fun _ => .done
def ls44 : Nat → List (Nat × LT)
  | 0 => [(8, (.one (.int .i64)))]
  | _ => []
def W44 (sa : Option Addr) (sl : Nat) (_sc : Nat) (f : Value) (w : World) (R : Value → World → Prop) : Prop :=
  (∃ z0 : Int → World → Prop, (∃ z1 : Int → World → Nat, ((z0 (0) (w)) ∧ (∀ (_ : Nat → Value), (∀ (x3 : Int), (∀ (w4 : World), ((z0 (x3) (w4)) → (ifK (decide (x3 < (↑sl : Int)))
    (∃ a5 : Addr, ((sa = some a5) ∧ (((0 : Int) ≤ x3) ∧ (((x3 : Int) < (↑sl : Int)) ∧ (∃ p6 : Option Addr, ((World.cell? w4 (Addr.add a5 (Int.toNat x3 * 1)) = some (Value.pointer p6)) ∧ (CaV Try.prog (f) (Array.mk [Value.pointer p6]) (w4) (fun v7 => (fun w8 =>
      (∃ b9 : Bool, ((v7 = Value.bool b9) ∧ (ifK (b9)
        (R (Value.int IntKind.i64 x3) (w8))
        ((z0 (IntKind.wrap IntKind.i64 (x3 + 1)) (w8)) ∧ (z1 (IntKind.wrap IntKind.i64 (x3 + 1)) w8 < z1 x3 w4))))))))))))))
    (R (Value.int IntKind.i64 (-1)) (w4))))))))))
theorem ca44 (sa : Option Addr) (sl : Nat) (sc : Nat) (f : Value) (w : World) (R : Value → World → Prop) (h : W44 sa sl sc f w R) : Ca Try.prog 44 ⟨[(.slice sa sl sc), f]⟩ w R := by
  have h1 : Try.prog.follows .mixedOrders = true := by kernel_rfl
  have h2 : Try.f44.body = some C44 := by kernel_rfl
  have h3 : (Try.f44.name == "runtime.NumGoroutine") = false := by kernel_rfl
  have h6 : Try.f44.results.toList = [.tmp 4] := by kernel_rfl
  have h4 : Nat.ble 2 19 = true := by kernel_rfl
  have h5 : okCode 19 pl44 ls44 C44 0 = true := by kernel_rfl
  have e : W44 sa sl sc f w R = wpC none Try.prog 19 pl44 ls44 C44 0 (endP Try.prog [.tmp 4] R) (fr0 [(.slice sa sl sc), f]) [] w := by kernel_rfl
  exact ca_of' (P := Try.prog) (g := 44) (fn := Try.f44) (c := C44) (m := 19) (rs := [.tmp 4]) (args := [(.slice sa sl sc), f]) (pl := pl44) (ls := ls44) (w := w) (R := R) h1 Try.func44 h2 Try.ntmps44 h6 h3 h4 h5 (Eq.mp e h)
end Go.Proofs.Ytgmafocfhepccaa
