/- The formulas of functions, printed by a program of mine (gen.py) out of the translation. -/
import Derived.Test.YtgmafocfhepccaaCore9
import Derived.Test.YtgmafocfhepccaaProg
namespace Go.Proofs.Ytgmafocfhepccaa
open Go Go.Proofs.Ytgmafocfhepccaa.St
set_option maxRecDepth 100000

/-- staith/staithlaw17.ConsumerTurns -/
noncomputable def C3 : Code := (Try.f3.body).getD .skip
def pl3 : Nat → Plan := fun _ => .done
def ls3 : Nat → List (Nat × LT)
  | 0 => [(8, (.one (.int .i64)))]
  | 1 => [(9, (.one (.int .u64))), (10, (.one (.int .i64)))]
  | 2 => [(9, (.one (.int .u64))), (11, (.one (.int .i64)))]
  | _ => []
def W3 (n : Int) (rounds : Int) (w : World) (R : Value → World → Prop) : Prop :=
  (((8 : Int) ≠ 0) ∧ (((8 : Int) ≠ 0) ∧ (Ca Try.prog (8) (Array.mk []) (w) (fun v0 => (fun w1 =>
    (∃ p2 : Option Addr, ((v0 = Value.pointer p2) ∧ (∃ z3 : Int → World → Prop, (∃ z4 : Int → World → Nat, ((z3 (1) (w1)) ∧ (∀ (_ : Nat → Value), (∀ (x6 : Int), (∀ (w7 : World), ((z3 (x6) (w7)) → (ifK (decide (x6 ≤ IntKind.wrap IntKind.i64 (1 + IntKind.wrap IntKind.i64 (Int.tmod n 8))))
      (Ca Try.prog (9) (Array.mk [Value.pointer p2, Value.int IntKind.i64 x6, Value.string (ByteArray.mk #[113]), Value.int IntKind.i64 (IntKind.wrap IntKind.i64 (1 + IntKind.wrap IntKind.i64 (Int.tmod rounds 8)))]) (w7) (fun v8 => (fun w9 =>
        (∃ x10 : Int, ((v8 = Value.int IntKind.i64 x10) ∧ (ifK (x10 != 0)
          (R (Value.bool false) (w9))
          ((z3 (IntKind.wrap IntKind.i64 (x6 + 1)) (w9)) ∧ (z4 (IntKind.wrap IntKind.i64 (x6 + 1)) w9 < z4 x6 w7))))))))
      (∃ z11 : Int → Int → World → Prop, (∃ z12 : Int → Int → World → Nat, ((z11 (0) (0) (w7)) ∧ (∀ (_ : Nat → Value), (∀ (x14 : Int), (∀ (x15 : Int), (∀ (w16 : World), ((z11 (x14) (x15) (w16)) → (ifK (decide (x15 < IntKind.wrap IntKind.i64 (1 + IntKind.wrap IntKind.i64 (Int.tmod rounds 8))))
        (∃ z17 : Int → Int → World → Prop, (∃ z18 : Int → Int → World → Nat, ((z17 (x14) (1) (w16)) ∧ (∀ (_ : Nat → Value), (∀ (x20 : Int), (∀ (x21 : Int), (∀ (w22 : World), ((z17 (x20) (x21) (w22)) → (ifK (decide (x21 ≤ IntKind.wrap IntKind.i64 (1 + IntKind.wrap IntKind.i64 (Int.tmod n 8))))
          (Ca Try.prog (10) (Array.mk [Value.pointer p2, Value.string (ByteArray.mk #[113])]) (w22) (fun v23 => (fun w24 =>
            (∃ x25 : Int, (∃ b26 : Bool, ((v23 = Value.tuple (Array.mk (List.reverse [Value.bool b26, Value.int IntKind.i64 x25]))) ∧ (ifK (!b26)
              (R (Value.bool false) (w24))
              (ifK (x25 != x21)
                (R (Value.bool false) (w24))
                (Ca Try.prog (11) (Array.mk [Value.pointer p2, Value.int IntKind.i64 x25, Value.int IntKind.u64 (IntKind.wrap IntKind.u64 (x20 + 1))]) (w24) (fun v27 => (fun w28 =>
                  (∃ x29 : Int, ((v27 = Value.int IntKind.i64 x29) ∧ (ifK (x29 != 0)
                    (R (Value.bool false) (w28))
                    ((z17 (IntKind.wrap IntKind.u64 (x20 + 1)) (IntKind.wrap IntKind.i64 (x21 + 1)) (w28)) ∧ (z18 (IntKind.wrap IntKind.u64 (x20 + 1)) (IntKind.wrap IntKind.i64 (x21 + 1)) w28 < z18 x20 x21 w22))))))))))))))))
          ((z11 (x20) (IntKind.wrap IntKind.i64 (x15 + 1)) (w22)) ∧ (z12 x20 (IntKind.wrap IntKind.i64 (x15 + 1)) w22 < z12 x14 x15 w16)))))))))))
        (Ca Try.prog (10) (Array.mk [Value.pointer p2, Value.string (ByteArray.mk #[113])]) (w16) (fun v30 => (fun w31 =>
          (∃ x32 : Int, (∃ b33 : Bool, ((v30 = Value.tuple (Array.mk (List.reverse [Value.bool b33, Value.int IntKind.i64 x32]))) ∧ (Ca Try.prog (12) (Array.mk [Value.pointer p2, Value.int IntKind.i64 1]) (w31) (fun v34 => (fun w35 =>
            (∃ s36 : ByteArray, (∃ p37 : Option Addr, (∃ n38 : Nat, (∃ n39 : Nat, (∃ x40 : Int, ((v34 = Value.tuple (Array.mk (List.reverse [Value.int IntKind.i64 x40, Value.agg (Array.mk (List.reverse [Value.slice p37 n38 n39, Value.string s36]))]))) ∧ (atW (World.alloc w35 (Obj.cells (Array.mk [Value.string (ByteArray.mk #[]), Value.slice none 0 0]) 33 (0, 0))) (fun w41 =>
              ((∃ v42 : Value, (World.cell? w41 (Addr.add (Addr.mk (Array.size (World.heap w35)) 0 none) 0) = some v42)) ∧ ((World.frozen? w41 (Addr.add (Addr.mk (Array.size (World.heap w35)) 0 none) 0) = false) ∧ (atW (World.setCell w41 (Addr.add (Addr.mk (Array.size (World.heap w35)) 0 none) 0) (Value.string s36)) (fun w43 =>
                ((∃ v44 : Value, (World.cell? w43 (Addr.add (Addr.mk (Array.size (World.heap w35)) 0 none) 1) = some v44)) ∧ ((World.frozen? w43 (Addr.add (Addr.mk (Array.size (World.heap w35)) 0 none) 1) = false) ∧ (atW (World.setCell w43 (Addr.add (Addr.mk (Array.size (World.heap w35)) 0 none) 1) (Value.slice p37 n38 n39)) (fun w45 =>
                  (ifK (!b33)
                    (ifK (x40 == 0)
                      (∃ p46 : Option Addr, (∃ n47 : Nat, (∃ n48 : Nat, ((World.cell? w45 (Addr.add (Addr.mk (Array.size (World.heap w35)) 0 none) 1) = some (Value.slice p46 n47 n48)) ∧ (ifK ((↑n47 : Int) == IntKind.wrap IntKind.i64 (1 + IntKind.wrap IntKind.i64 (Int.tmod rounds 8)))
                        (Ca Try.prog (13) (Array.mk [Value.pointer p2]) (w45) (fun v49 => (fun w50 =>
                          (∃ p51 : Option Addr, (∃ n52 : Nat, (∃ n53 : Nat, ((v49 = Value.slice p51 n52 n53) ∧ (ifK ((↑n52 : Int) == IntKind.wrap IntKind.i64 (IntKind.wrap IntKind.i64 (1 + IntKind.wrap IntKind.i64 (Int.tmod n 8)) - 1))
                            (Ca Try.prog (14) (Array.mk []) (w50) (fun v54 => (fun w55 =>
                              (∃ b56 : Bool, ((v54 = Value.bool b56) ∧ (R (Value.bool b56) (w55)))))))
                            (R (Value.bool false) (w50))))))))))
                        (R (Value.bool false) (w45)))))))
                      (R (Value.bool false) (w45)))
                    (R (Value.bool false) (w45))))))))))))))))))))))))))))))))))))))))))))))))))))
theorem ca3 (n : Int) (rounds : Int) (w : World) (R : Value → World → Prop) (h : W3 n rounds w R) : Ca Try.prog 3 ⟨[(.int .u64 n), (.int .u64 rounds)]⟩ w R := by
  have h1 : Try.prog.follows .mixedOrders = true := by kernel_rfl
  have h2 : Try.f3.body = some C3 := by kernel_rfl
  have h3 : (Try.f3.name == "runtime.NumGoroutine") = false := by kernel_rfl
  have h6 : Try.f3.results.toList = [.tmp 4] := by kernel_rfl
  have h4 : Nat.ble 2 102 = true := by kernel_rfl
  have h5 : okCode 102 pl3 ls3 C3 0 = true := by kernel_rfl
  have e : W3 n rounds w R = wpC none Try.prog 102 pl3 ls3 C3 0 (endP Try.prog [.tmp 4] R) (fr0 [(.int .u64 n), (.int .u64 rounds)]) [] w := by kernel_rfl
  exact ca_of' (P := Try.prog) (g := 3) (fn := Try.f3) (c := C3) (m := 102) (rs := [.tmp 4]) (args := [(.int .u64 n), (.int .u64 rounds)]) (pl := pl3) (ls := ls3) (w := w) (R := R) h1 Try.func3 h2 Try.ntmps3 h6 h3 h4 h5 (Eq.mp e h)
end Go.Proofs.Ytgmafocfhepccaa
