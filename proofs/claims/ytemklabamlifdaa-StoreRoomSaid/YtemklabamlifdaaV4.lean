/- Parts of the proof of StoreRoom. -/
import Derived.Test.YtemklabamlifdaaCore9
import Derived.Test.YtemklabamlifdaaProg
import Derived.Test.YtemklabamlifdaaV3
/- The formulas of functions, printed by a program of mine (gen.py) out of the translation. -/
namespace Go.Proofs.Ytemklabamlifdaa
open Go Go.Proofs.Ytemklabamlifdaa.St
set_option maxRecDepth 100000

/-- staith/staithlaw11.StoreRoom -/
noncomputable def C6 : Code := (Try.f6.body).getD .skip
def pl6 : Nat → Plan := fun _ => .done
def ls6 : Nat → List (Nat × LT)
  | 8 => [(34, (.one (.int .i64)))]
  | 18 => [(0, .agg []), (12, (.one (.int .i64)))]
  | 31 => [(142, (.one (.int .i64)))]
  | _ => []
def W6 (room : Int) (actsa : Option Addr) (actsl : Nat) (actsc : Nat) (w : World) (R : Value → World → Prop) : Prop :=
  (((200 : Int) ≠ 0) ∧ (Ca Try.prog (13) (Array.mk [Value.int IntKind.i64 (IntKind.wrap IntKind.i64 (Int.tmod room 200))]) (w) (fun v0 => (fun w1 =>
    (∃ p2 : Option Addr, ((v0 = Value.pointer p2) ∧ (ifK (Option.isNone p2)
      (ifK (!Option.isNone p2)
        (Ca Try.prog (12) (Array.mk []) (w1) (fun v3 => (fun w4 =>
          (∃ b5 : Bool, ((v3 = Value.bool b5) ∧ (R (Value.bool b5) (w4)))))))
        (R (Value.bool false) (w1)))
      (Ca Try.prog (27) (Array.mk [Value.slice actsa actsl actsc]) (w1) (fun v6 => (fun w7 =>
        (∃ b8 : Bool, ((v6 = Value.bool b8) ∧ (ifK (!b8)
          (ifK (!Option.isNone p2)
            (Ca Try.prog (12) (Array.mk []) (w7) (fun v9 => (fun w10 =>
              (∃ b11 : Bool, ((v9 = Value.bool b11) ∧ (R (Value.bool b11) (w10)))))))
            (R (Value.bool false) (w7)))
          (∃ z12 : Int → World → Prop, (∃ z13 : Int → World → Nat, ((z12 (0) (w7)) ∧ (∀ (_ : Nat → Value), (∀ (x15 : Int), (∀ (w16 : World), ((z12 (x15) (w16)) → (ifK (decide (x15 < (↑actsl : Int)))
            (∃ a17 : Addr, ((actsa = some a17) ∧ (((0 : Int) ≤ x15) ∧ (((x15 : Int) < (↑actsl : Int)) ∧ (∃ x18 : Int, ((World.cell? w16 (Addr.add (Addr.add a17 (Int.toNat x15 * 6)) 0) = some (Value.int IntKind.i64 x18)) ∧ (∃ s19 : ByteArray, ((World.cell? w16 (Addr.add (Addr.add a17 (Int.toNat x15 * 6)) 1) = some (Value.string s19)) ∧ (∃ s20 : ByteArray, ((World.cell? w16 (Addr.add (Addr.add a17 (Int.toNat x15 * 6)) 2) = some (Value.string s20)) ∧ (∃ p21 : Option Addr, (∃ n22 : Nat, (∃ n23 : Nat, ((World.cell? w16 (Addr.add (Addr.add a17 (Int.toNat x15 * 6)) 3) = some (Value.slice p21 n22 n23)) ∧ (∃ x24 : Int, ((World.cell? w16 (Addr.add (Addr.add a17 (Int.toNat x15 * 6)) 4) = some (Value.int IntKind.i64 x24)) ∧ (∃ x25 : Int, ((World.cell? w16 (Addr.add (Addr.add a17 (Int.toNat x15 * 6)) 5) = some (Value.int IntKind.i64 x25)) ∧ (atW (World.alloc w16 (Obj.cells (Array.mk [Value.int IntKind.i64 0, Value.string (ByteArray.mk #[]), Value.string (ByteArray.mk #[]), Value.slice none 0 0, Value.int IntKind.i64 0, Value.int IntKind.i64 0]) 48 (0, 0))) (fun w26 =>
              ((∃ v27 : Value, (World.cell? w26 (Addr.add (Addr.mk (Array.size (World.heap w16)) 0 none) 0) = some v27)) ∧ ((World.frozen? w26 (Addr.add (Addr.mk (Array.size (World.heap w16)) 0 none) 0) = false) ∧ (atW (World.setCell w26 (Addr.add (Addr.mk (Array.size (World.heap w16)) 0 none) 0) (Value.int IntKind.i64 x18)) (fun w28 =>
                ((∃ v29 : Value, (World.cell? w28 (Addr.add (Addr.mk (Array.size (World.heap w16)) 0 none) 1) = some v29)) ∧ ((World.frozen? w28 (Addr.add (Addr.mk (Array.size (World.heap w16)) 0 none) 1) = false) ∧ (atW (World.setCell w28 (Addr.add (Addr.mk (Array.size (World.heap w16)) 0 none) 1) (Value.string s19)) (fun w30 =>
                  ((∃ v31 : Value, (World.cell? w30 (Addr.add (Addr.mk (Array.size (World.heap w16)) 0 none) 2) = some v31)) ∧ ((World.frozen? w30 (Addr.add (Addr.mk (Array.size (World.heap w16)) 0 none) 2) = false) ∧ (atW (World.setCell w30 (Addr.add (Addr.mk (Array.size (World.heap w16)) 0 none) 2) (Value.string s20)) (fun w32 =>
                    ((∃ v33 : Value, (World.cell? w32 (Addr.add (Addr.mk (Array.size (World.heap w16)) 0 none) 3) = some v33)) ∧ ((World.frozen? w32 (Addr.add (Addr.mk (Array.size (World.heap w16)) 0 none) 3) = false) ∧ (atW (World.setCell w32 (Addr.add (Addr.mk (Array.size (World.heap w16)) 0 none) 3) (Value.slice p21 n22 n23)) (fun w34 =>
                      ((∃ v35 : Value, (World.cell? w34 (Addr.add (Addr.mk (Array.size (World.heap w16)) 0 none) 4) = some v35)) ∧ ((World.frozen? w34 (Addr.add (Addr.mk (Array.size (World.heap w16)) 0 none) 4) = false) ∧ (atW (World.setCell w34 (Addr.add (Addr.mk (Array.size (World.heap w16)) 0 none) 4) (Value.int IntKind.i64 x24)) (fun w36 =>
                        ((∃ v37 : Value, (World.cell? w36 (Addr.add (Addr.mk (Array.size (World.heap w16)) 0 none) 5) = some v37)) ∧ ((World.frozen? w36 (Addr.add (Addr.mk (Array.size (World.heap w16)) 0 none) 5) = false) ∧ (atW (World.setCell w36 (Addr.add (Addr.mk (Array.size (World.heap w16)) 0 none) 5) (Value.int IntKind.i64 x25)) (fun w38 =>
                          (∃ x39 : Int, ((World.cell? w38 (Addr.add (Addr.mk (Array.size (World.heap w16)) 0 none) 0) = some (Value.int IntKind.i64 x39)) ∧ (ifK (decide (x39 < 0))
                            ((z12 (IntKind.wrap IntKind.i64 (x15 + 1)) (w38)) ∧ (z13 (IntKind.wrap IntKind.i64 (x15 + 1)) w38 < z13 x15 w16))
                            (∃ x40 : Int, ((World.cell? w38 (Addr.add (Addr.mk (Array.size (World.heap w16)) 0 none) 0) = some (Value.int IntKind.i64 x40)) ∧ (ifK (decide (x40 > 6))
                              ((z12 (IntKind.wrap IntKind.i64 (x15 + 1)) (w38)) ∧ (z13 (IntKind.wrap IntKind.i64 (x15 + 1)) w38 < z13 x15 w16))
                              (Ca Try.prog (28) (Array.mk [Value.pointer p2]) (w38) (fun v41 => (fun w42 =>
                                (∃ x43 : Int, ((v41 = Value.int IntKind.i64 x43) ∧ (Ca Try.prog (29) (Array.mk [Value.pointer p2]) (w42) (fun v44 => (fun w45 =>
                                  (∃ x46 : Int, ((v44 = Value.int IntKind.i64 x46) ∧ (Ca Try.prog (23) (Array.mk [Value.pointer p2]) (w45) (fun v47 => (fun w48 =>
                                    (∃ p49 : Option Addr, (∃ n50 : Nat, (∃ n51 : Nat, ((v47 = Value.slice p49 n50 n51) ∧ (∃ z52 : Int → World → Prop, ((∃ x53 : Int, ((World.cell? w48 (Addr.add (Addr.mk (Array.size (World.heap w16)) 0 none) 0) = some (Value.int IntKind.i64 x53)) ∧ (ifK (x53 == 0)
                                      (∃ s54 : ByteArray, ((World.cell? w48 (Addr.add (Addr.mk (Array.size (World.heap w16)) 0 none) 1) = some (Value.string s54)) ∧ (Ca Try.prog (14) (Array.mk [Value.pointer p2, Value.string s54]) (w48) (fun v55 => (fun w56 =>
                                        (∃ x57 : Int, ((v55 = Value.int IntKind.i64 x57) ∧ (z52 (x57) (w56)))))))))
                                      (ifK (x53 == 1)
                                        (∃ s58 : ByteArray, ((World.cell? w48 (Addr.add (Addr.mk (Array.size (World.heap w16)) 0 none) 1) = some (Value.string s58)) ∧ (∃ p59 : Option Addr, (∃ n60 : Nat, (∃ n61 : Nat, ((World.cell? w48 (Addr.add (Addr.mk (Array.size (World.heap w16)) 0 none) 3) = some (Value.slice p59 n60 n61)) ∧ (Ca Try.prog (15) (Array.mk [Value.pointer p2, Value.string s58, Value.slice p59 n60 n61]) (w48) (fun v62 => (fun w63 =>
                                          (∃ x64 : Int, ((v62 = Value.int IntKind.i64 x64) ∧ (z52 (x64) (w63)))))))))))))
                                        (ifK (x53 == 2)
                                          (∃ s65 : ByteArray, ((World.cell? w48 (Addr.add (Addr.mk (Array.size (World.heap w16)) 0 none) 1) = some (Value.string s65)) ∧ (∃ x66 : Int, ((World.cell? w48 (Addr.add (Addr.mk (Array.size (World.heap w16)) 0 none) 4) = some (Value.int IntKind.i64 x66)) ∧ (Ca Try.prog (30) (Array.mk [Value.pointer p2, Value.string s65, Value.int IntKind.i64 x66]) (w48) (fun v67 => (fun w68 =>
                                            (∃ x69 : Int, ((v67 = Value.int IntKind.i64 x69) ∧ (z52 (x69) (w68)))))))))))
                                          (ifK (x53 == 3)
                                            (∃ s70 : ByteArray, ((World.cell? w48 (Addr.add (Addr.mk (Array.size (World.heap w16)) 0 none) 1) = some (Value.string s70)) ∧ (Ca Try.prog (16) (Array.mk [Value.pointer p2, Value.string s70]) (w48) (fun v71 => (fun w72 =>
                                              (∃ x73 : Int, ((v71 = Value.int IntKind.i64 x73) ∧ (z52 (x73) (w72)))))))))
                                            (ifK (x53 == 4)
                                              (∃ s74 : ByteArray, ((World.cell? w48 (Addr.add (Addr.mk (Array.size (World.heap w16)) 0 none) 1) = some (Value.string s74)) ∧ (∃ s75 : ByteArray, ((World.cell? w48 (Addr.add (Addr.mk (Array.size (World.heap w16)) 0 none) 2) = some (Value.string s75)) ∧ (Ca Try.prog (25) (Array.mk [Value.pointer p2, Value.string s74, Value.string s75]) (w48) (fun v76 => (fun w77 =>
                                                (∃ x78 : Int, ((v76 = Value.int IntKind.i64 x78) ∧ (z52 (x78) (w77)))))))))))
                                              (ifK (x53 == 5)
                                                (∃ s79 : ByteArray, ((World.cell? w48 (Addr.add (Addr.mk (Array.size (World.heap w16)) 0 none) 1) = some (Value.string s79)) ∧ (Ca Try.prog (31) (Array.mk [Value.pointer p2, Value.string s79]) (w48) (fun v80 => (fun w81 =>
                                                  (∃ x82 : Int, ((v80 = Value.int IntKind.i64 x82) ∧ (z52 (x82) (w81)))))))))
                                                (ifK (x53 == 6)
                                                  (Ca Try.prog (17) (Array.mk [Value.pointer p2]) (w48) (fun v83 => (fun w84 =>
                                                    (∃ x85 : Int, ((v83 = Value.int IntKind.i64 x85) ∧ (z52 (x85) (w84)))))))
                                                  (z52 (0) (w48))))))))))) ∧ (∀ (_ : Nat → Value), (∀ (x87 : Int), (∀ (w88 : World), ((z52 (x87) (w88)) → (Ca Try.prog (28) (Array.mk [Value.pointer p2]) (w88) (fun v89 => (fun w90 =>
                                      (∃ x91 : Int, ((v89 = Value.int IntKind.i64 x91) ∧ (ifK (decide (x91 > IntKind.wrap IntKind.i64 (Int.tmod room 200)))
                                        (R (Value.bool false) (w90))
                                        (ifK (x87 != 0)
                                          (Ca Try.prog (28) (Array.mk [Value.pointer p2]) (w90) (fun v92 => (fun w93 =>
                                            (∃ x94 : Int, ((v92 = Value.int IntKind.i64 x94) ∧ (ifK (x94 != x43)
                                              (R (Value.bool false) (w93))
                                              (Ca Try.prog (29) (Array.mk [Value.pointer p2]) (w93) (fun v95 => (fun w96 =>
                                                (∃ x97 : Int, ((v95 = Value.int IntKind.i64 x97) ∧ (ifK (x97 != x46)
                                                  (R (Value.bool false) (w96))
                                                  (Ca Try.prog (23) (Array.mk [Value.pointer p2]) (w96) (fun v98 => (fun w99 =>
                                                    (∃ p100 : Option Addr, (∃ n101 : Nat, (∃ n102 : Nat, ((v98 = Value.slice p100 n101 n102) ∧ (Ca Try.prog (22) (Array.mk [Value.slice p100 n101 n102, Value.slice p49 n50 n51]) (w99) (fun v103 => (fun w104 =>
                                                      (∃ b105 : Bool, ((v103 = Value.bool b105) ∧ (ifK (!b105)
                                                        (R (Value.bool false) (w104))
                                                        (ifK (x87 == 0)
                                                          (Ca Try.prog (29) (Array.mk [Value.pointer p2]) (w104) (fun v106 => (fun w107 =>
                                                            (∃ x108 : Int, ((v106 = Value.int IntKind.i64 x108) ∧ (ifK (x108 != IntKind.wrap IntKind.i64 (x46 + 1))
                                                              (R (Value.bool false) (w107))
                                                              ((z12 (IntKind.wrap IntKind.i64 (x15 + 1)) (w107)) ∧ (z13 (IntKind.wrap IntKind.i64 (x15 + 1)) w107 < z13 x15 w16))))))))
                                                          ((z12 (IntKind.wrap IntKind.i64 (x15 + 1)) (w104)) ∧ (z13 (IntKind.wrap IntKind.i64 (x15 + 1)) w104 < z13 x15 w16))))))))))))))))))))))))))))
                                          (ifK (x87 == 0)
                                            (Ca Try.prog (29) (Array.mk [Value.pointer p2]) (w90) (fun v109 => (fun w110 =>
                                              (∃ x111 : Int, ((v109 = Value.int IntKind.i64 x111) ∧ (ifK (x111 != IntKind.wrap IntKind.i64 (x46 + 1))
                                                (R (Value.bool false) (w110))
                                                ((z12 (IntKind.wrap IntKind.i64 (x15 + 1)) (w110)) ∧ (z13 (IntKind.wrap IntKind.i64 (x15 + 1)) w110 < z13 x15 w16))))))))
                                            ((z12 (IntKind.wrap IntKind.i64 (x15 + 1)) (w90)) ∧ (z13 (IntKind.wrap IntKind.i64 (x15 + 1)) w90 < z13 x15 w16)))))))))))))))))))))))))))))))))))))))))))))))))))))))))))))))))))))))))))))))))))
            (Ca Try.prog (23) (Array.mk [Value.pointer p2]) (w16) (fun v112 => (fun w113 =>
              (∃ p114 : Option Addr, (∃ n115 : Nat, (∃ n116 : Nat, ((v112 = Value.slice p114 n115 n116) ∧ (∃ z117 : Int → World → Prop, (∃ z118 : Int → World → Nat, ((z117 (0) (w113)) ∧ (∀ (_ : Nat → Value), (∀ (x120 : Int), (∀ (w121 : World), ((z117 (x120) (w121)) → (ifK (decide (x120 < (↑n115 : Int)))
                (∃ a122 : Addr, ((p114 = some a122) ∧ (((0 : Int) ≤ x120) ∧ (((x120 : Int) < (↑n115 : Int)) ∧ (∃ s123 : ByteArray, ((World.cell? w121 (Addr.add a122 (Int.toNat x120 * 1)) = some (Value.string s123)) ∧ (Ca Try.prog (31) (Array.mk [Value.pointer p2, Value.string s123]) (w121) (fun v124 => (fun w125 =>
                  (∃ x126 : Int, ((v124 = Value.int IntKind.i64 x126) ∧ (ifK (x126 != 0)
                    (R (Value.bool false) (w125))
                    ((z117 (IntKind.wrap IntKind.i64 (x120 + 1)) (w125)) ∧ (z118 (IntKind.wrap IntKind.i64 (x120 + 1)) w125 < z118 x120 w121))))))))))))))
                (Ca Try.prog (28) (Array.mk [Value.pointer p2]) (w121) (fun v127 => (fun w128 =>
                  (∃ x129 : Int, ((v127 = Value.int IntKind.i64 x129) ∧ (ifK (x129 == 0)
                    (Ca Try.prog (12) (Array.mk []) (w128) (fun v130 => (fun w131 =>
                      (∃ b132 : Bool, ((v130 = Value.bool b132) ∧ (R (Value.bool b132) (w131)))))))
                    (R (Value.bool false) (w128))))))))))))))))))))))))))))))))))))))))))))
theorem ca6 (room : Int) (actsa : Option Addr) (actsl : Nat) (actsc : Nat) (w : World) (R : Value → World → Prop) (h : W6 room actsa actsl actsc w R) : Ca Try.prog 6 ⟨[(.int .u64 room), (.slice actsa actsl actsc)]⟩ w R := by
  have h1 : Try.prog.follows .mixedOrders = true := by kernel_rfl
  have h2 : Try.f6.body = some C6 := by kernel_rfl
  have h3 : (Try.f6.name == "runtime.NumGoroutine") = false := by kernel_rfl
  have h6 : Try.f6.results.toList = [.tmp 4] := by kernel_rfl
  have h4 : Nat.ble 2 157 = true := by kernel_rfl
  have h5 : okCode 157 pl6 ls6 C6 0 = true := by kernel_rfl
  have e : W6 room actsa actsl actsc w R = wpC none Try.prog 157 pl6 ls6 C6 0 (endP Try.prog [.tmp 4] R) (fr0 [(.int .u64 room), (.slice actsa actsl actsc)]) [] w := by kernel_rfl
  exact ca_of' (P := Try.prog) (g := 6) (fn := Try.f6) (c := C6) (m := 157) (rs := [.tmp 4]) (args := [(.int .u64 room), (.slice actsa actsl actsc)]) (pl := pl6) (ls := ls6) (w := w) (R := R) h1 Try.func6 h2 Try.ntmps6 h6 h3 h4 h5 (Eq.mp e h)

/-- staith/staithlaw11.StoreTwice -/
noncomputable def C7 : Code := (Try.f7.body).getD .skip
def pl7 : Nat → Plan := fun _ => .done
def ls7 : Nat → List (Nat × LT)
  | 8 => [(37, (.one (.int .i64)))]
  | 20 => [(12, (.one .slice)), (57, (.one (.int .i64)))]
  | 33 => [(84, (.one (.int .i64)))]
  | _ => []
def W7 (actsa : Option Addr) (actsl : Nat) (actsc : Nat) (a_ : Int) (b : Int) (w : World) (R : Value → World → Prop) : Prop :=
  (Ca Try.prog (13) (Array.mk [Value.int IntKind.i64 10000]) (w) (fun v0 => (fun w1 =>
    (∃ p2 : Option Addr, ((v0 = Value.pointer p2) ∧ (Ca Try.prog (32) (Array.mk [Value.int IntKind.i64 10000]) (w1) (fun v3 => (fun w4 =>
      (∃ p5 : Option Addr, ((v3 = Value.pointer p5) ∧ (ifK (Option.isNone p2)
        (ifK (!Option.isNone p2)
          (Ca Try.prog (12) (Array.mk []) (w4) (fun v6 => (fun w7 =>
            (∃ b8 : Bool, ((v6 = Value.bool b8) ∧ (R (Value.bool b8) (w7)))))))
          (R (Value.bool false) (w4)))
        (Ca Try.prog (27) (Array.mk [Value.slice actsa actsl actsc]) (w4) (fun v9 => (fun w10 =>
          (∃ b11 : Bool, ((v9 = Value.bool b11) ∧ (ifK (!b11)
            (ifK (!Option.isNone p2)
              (Ca Try.prog (12) (Array.mk []) (w10) (fun v12 => (fun w13 =>
                (∃ b14 : Bool, ((v12 = Value.bool b14) ∧ (R (Value.bool b14) (w13)))))))
              (R (Value.bool false) (w10)))
            (∃ z15 : Int → World → Prop, (∃ z16 : Int → World → Nat, ((z15 (0) (w10)) ∧ (∀ (_ : Nat → Value), (∀ (x18 : Int), (∀ (w19 : World), ((z15 (x18) (w19)) → (ifK (decide (x18 < (↑actsl : Int)))
              (∃ a20 : Addr, ((actsa = some a20) ∧ (((0 : Int) ≤ x18) ∧ (((x18 : Int) < (↑actsl : Int)) ∧ (∃ x21 : Int, ((World.cell? w19 (Addr.add (Addr.add a20 (Int.toNat x18 * 6)) 0) = some (Value.int IntKind.i64 x21)) ∧ (∃ s22 : ByteArray, ((World.cell? w19 (Addr.add (Addr.add a20 (Int.toNat x18 * 6)) 1) = some (Value.string s22)) ∧ (∃ s23 : ByteArray, ((World.cell? w19 (Addr.add (Addr.add a20 (Int.toNat x18 * 6)) 2) = some (Value.string s23)) ∧ (∃ p24 : Option Addr, (∃ n25 : Nat, (∃ n26 : Nat, ((World.cell? w19 (Addr.add (Addr.add a20 (Int.toNat x18 * 6)) 3) = some (Value.slice p24 n25 n26)) ∧ (∃ x27 : Int, ((World.cell? w19 (Addr.add (Addr.add a20 (Int.toNat x18 * 6)) 4) = some (Value.int IntKind.i64 x27)) ∧ (∃ x28 : Int, ((World.cell? w19 (Addr.add (Addr.add a20 (Int.toNat x18 * 6)) 5) = some (Value.int IntKind.i64 x28)) ∧ (atW (World.alloc w19 (Obj.cells (Array.mk [Value.int IntKind.i64 0, Value.string (ByteArray.mk #[]), Value.string (ByteArray.mk #[]), Value.slice none 0 0, Value.int IntKind.i64 0, Value.int IntKind.i64 0]) 48 (0, 0))) (fun w29 =>
                ((∃ v30 : Value, (World.cell? w29 (Addr.add (Addr.mk (Array.size (World.heap w19)) 0 none) 0) = some v30)) ∧ ((World.frozen? w29 (Addr.add (Addr.mk (Array.size (World.heap w19)) 0 none) 0) = false) ∧ (atW (World.setCell w29 (Addr.add (Addr.mk (Array.size (World.heap w19)) 0 none) 0) (Value.int IntKind.i64 x21)) (fun w31 =>
                  ((∃ v32 : Value, (World.cell? w31 (Addr.add (Addr.mk (Array.size (World.heap w19)) 0 none) 1) = some v32)) ∧ ((World.frozen? w31 (Addr.add (Addr.mk (Array.size (World.heap w19)) 0 none) 1) = false) ∧ (atW (World.setCell w31 (Addr.add (Addr.mk (Array.size (World.heap w19)) 0 none) 1) (Value.string s22)) (fun w33 =>
                    ((∃ v34 : Value, (World.cell? w33 (Addr.add (Addr.mk (Array.size (World.heap w19)) 0 none) 2) = some v34)) ∧ ((World.frozen? w33 (Addr.add (Addr.mk (Array.size (World.heap w19)) 0 none) 2) = false) ∧ (atW (World.setCell w33 (Addr.add (Addr.mk (Array.size (World.heap w19)) 0 none) 2) (Value.string s23)) (fun w35 =>
                      ((∃ v36 : Value, (World.cell? w35 (Addr.add (Addr.mk (Array.size (World.heap w19)) 0 none) 3) = some v36)) ∧ ((World.frozen? w35 (Addr.add (Addr.mk (Array.size (World.heap w19)) 0 none) 3) = false) ∧ (atW (World.setCell w35 (Addr.add (Addr.mk (Array.size (World.heap w19)) 0 none) 3) (Value.slice p24 n25 n26)) (fun w37 =>
                        ((∃ v38 : Value, (World.cell? w37 (Addr.add (Addr.mk (Array.size (World.heap w19)) 0 none) 4) = some v38)) ∧ ((World.frozen? w37 (Addr.add (Addr.mk (Array.size (World.heap w19)) 0 none) 4) = false) ∧ (atW (World.setCell w37 (Addr.add (Addr.mk (Array.size (World.heap w19)) 0 none) 4) (Value.int IntKind.i64 x27)) (fun w39 =>
                          ((∃ v40 : Value, (World.cell? w39 (Addr.add (Addr.mk (Array.size (World.heap w19)) 0 none) 5) = some v40)) ∧ ((World.frozen? w39 (Addr.add (Addr.mk (Array.size (World.heap w19)) 0 none) 5) = false) ∧ (atW (World.setCell w39 (Addr.add (Addr.mk (Array.size (World.heap w19)) 0 none) 5) (Value.int IntKind.i64 x28)) (fun w41 =>
                            (∃ x42 : Int, ((World.cell? w41 (Addr.add (Addr.mk (Array.size (World.heap w19)) 0 none) 0) = some (Value.int IntKind.i64 x42)) ∧ (∃ s43 : ByteArray, ((World.cell? w41 (Addr.add (Addr.mk (Array.size (World.heap w19)) 0 none) 1) = some (Value.string s43)) ∧ (∃ s44 : ByteArray, ((World.cell? w41 (Addr.add (Addr.mk (Array.size (World.heap w19)) 0 none) 2) = some (Value.string s44)) ∧ (∃ p45 : Option Addr, (∃ n46 : Nat, (∃ n47 : Nat, ((World.cell? w41 (Addr.add (Addr.mk (Array.size (World.heap w19)) 0 none) 3) = some (Value.slice p45 n46 n47)) ∧ (∃ x48 : Int, ((World.cell? w41 (Addr.add (Addr.mk (Array.size (World.heap w19)) 0 none) 4) = some (Value.int IntKind.i64 x48)) ∧ (∃ x49 : Int, ((World.cell? w41 (Addr.add (Addr.mk (Array.size (World.heap w19)) 0 none) 5) = some (Value.int IntKind.i64 x49)) ∧ (Ca Try.prog (33) (Array.mk [Value.pointer p2, Value.pointer p5, Value.agg (Array.mk (List.reverse [Value.int IntKind.i64 x49, Value.int IntKind.i64 x48, Value.slice p45 n46 n47, Value.string s44, Value.string s43, Value.int IntKind.i64 x42]))]) (w41) (fun v50 => (fun w51 =>
                              (∃ b52 : Bool, ((v50 = Value.bool b52) ∧ ((z15 (IntKind.wrap IntKind.i64 (x18 + 1)) (w51)) ∧ (z16 (IntKind.wrap IntKind.i64 (x18 + 1)) w51 < z16 x18 w19)))))))))))))))))))))))))))))))))))))))))))))))))))))))))))))))))
              (Ca Try.prog (19) (Array.mk [Value.pointer p2]) (w19) (fun v53 => (fun w54 =>
                ((v53 = Value.tuple (Array.mk (List.reverse []))) ∧ (Ca Try.prog (18) (Array.mk [Value.pointer p2, Value.int IntKind.i64 a_]) (w54) (fun v55 => (fun w56 =>
                  ((v55 = Value.tuple (Array.mk (List.reverse []))) ∧ (Ca Try.prog (19) (Array.mk [Value.pointer p2]) (w56) (fun v57 => (fun w58 =>
                    ((v57 = Value.tuple (Array.mk (List.reverse []))) ∧ (Ca Try.prog (23) (Array.mk [Value.pointer p2]) (w58) (fun v59 => (fun w60 =>
                      (∃ p61 : Option Addr, (∃ n62 : Nat, (∃ n63 : Nat, ((v59 = Value.slice p61 n62 n63) ∧ (∃ z64 : Option Addr → Nat → Nat → Int → World → Prop, (∃ z65 : Option Addr → Nat → Nat → Int → World → Nat, ((z64 (none) (0) (0) (0) (w60)) ∧ (∀ (_ : Nat → Value), (∀ (p67 : Option Addr), (∀ (n68 : Nat), (∀ (n69 : Nat), (∀ (x70 : Int), (∀ (w71 : World), ((z64 (p67) (n68) (n69) (x70) (w71)) → (ifK (decide (x70 < (↑n62 : Int)))
                        (∃ a72 : Addr, ((p61 = some a72) ∧ (((0 : Int) ≤ x70) ∧ (((x70 : Int) < (↑n62 : Int)) ∧ (∃ s73 : ByteArray, ((World.cell? w71 (Addr.add a72 (Int.toNat x70 * 1)) = some (Value.string s73)) ∧ (Ca Try.prog (20) (Array.mk [Value.pointer p2, Value.string s73]) (w71) (fun v74 => (fun w75 =>
                          (∃ p76 : Option Addr, (∃ n77 : Nat, (∃ n78 : Nat, (∃ x79 : Int, ((v74 = Value.tuple (Array.mk (List.reverse [Value.int IntKind.i64 x79, Value.slice p76 n77 n78]))) ∧ (atW (World.alloc w75 (Obj.cells (Array.mk [Value.slice p76 n77 n78]) 24 (0, 0))) (fun w80 =>
                            (∃ v81 : Value, (∃ w82 : World, ((Sem.run Try.prog (Builtin.append_ (Array.mk [55, 55]) 55 (Array.mk [Value.slice p67 n68 n69, Value.slice (some (Addr.mk (Array.size (World.heap w75)) 0 none)) 1 1])) w80 = Result.ok v81 w82) ∧ (∃ p83 : Option Addr, (∃ n84 : Nat, (∃ n85 : Nat, ((v81 = Value.slice p83 n84 n85) ∧ ((z64 (p83) (n84) (n85) (IntKind.wrap IntKind.i64 (x70 + 1)) (w82)) ∧ (z65 p83 n84 n85 (IntKind.wrap IntKind.i64 (x70 + 1)) w82 < z65 p67 n68 n69 x70 w71)))))))))))))))))))))))))
                        (Ca Try.prog (18) (Array.mk [Value.pointer p2, Value.int IntKind.i64 b]) (w71) (fun v86 => (fun w87 =>
                          ((v86 = Value.tuple (Array.mk (List.reverse []))) ∧ (Ca Try.prog (19) (Array.mk [Value.pointer p2]) (w87) (fun v88 => (fun w89 =>
                            ((v88 = Value.tuple (Array.mk (List.reverse []))) ∧ (Ca Try.prog (23) (Array.mk [Value.pointer p2]) (w89) (fun v90 => (fun w91 =>
                              (∃ p92 : Option Addr, (∃ n93 : Nat, (∃ n94 : Nat, ((v90 = Value.slice p92 n93 n94) ∧ (Ca Try.prog (22) (Array.mk [Value.slice p92 n93 n94, Value.slice p61 n62 n63]) (w91) (fun v95 => (fun w96 =>
                                (∃ b97 : Bool, ((v95 = Value.bool b97) ∧ (ifK (!b97)
                                  (R (Value.bool false) (w96))
                                  (∃ z98 : Int → World → Prop, (∃ z99 : Int → World → Nat, ((z98 (0) (w96)) ∧ (∀ (_ : Nat → Value), (∀ (x101 : Int), (∀ (w102 : World), ((z98 (x101) (w102)) → (ifK (decide (x101 < (↑n62 : Int)))
                                    (∃ a103 : Addr, ((p61 = some a103) ∧ (((0 : Int) ≤ x101) ∧ (((x101 : Int) < (↑n62 : Int)) ∧ (∃ s104 : ByteArray, ((World.cell? w102 (Addr.add a103 (Int.toNat x101 * 1)) = some (Value.string s104)) ∧ (Ca Try.prog (20) (Array.mk [Value.pointer p2, Value.string s104]) (w102) (fun v105 => (fun w106 =>
                                      (∃ p107 : Option Addr, (∃ n108 : Nat, (∃ n109 : Nat, (∃ x110 : Int, ((v105 = Value.tuple (Array.mk (List.reverse [Value.int IntKind.i64 x110, Value.slice p107 n108 n109]))) ∧ (ifK (x110 != 0)
                                        (R (Value.bool false) (w106))
                                        (∃ a111 : Addr, ((p67 = some a111) ∧ (((0 : Int) ≤ x101) ∧ (((x101 : Int) < (↑n68 : Int)) ∧ (∃ p112 : Option Addr, (∃ n113 : Nat, (∃ n114 : Nat, ((World.cell? w106 (Addr.add a111 (Int.toNat x101 * 1)) = some (Value.slice p112 n113 n114)) ∧ (Ca Try.prog (21) (Array.mk [Value.slice p107 n108 n109, Value.slice p112 n113 n114]) (w106) (fun v115 => (fun w116 =>
                                          (∃ b117 : Bool, ((v115 = Value.bool b117) ∧ (ifK (!b117)
                                            (R (Value.bool false) (w116))
                                            ((z98 (IntKind.wrap IntKind.i64 (x101 + 1)) (w116)) ∧ (z99 (IntKind.wrap IntKind.i64 (x101 + 1)) w116 < z99 x101 w102)))))))))))))))))))))))))))))))
                                    (Ca Try.prog (12) (Array.mk []) (w102) (fun v118 => (fun w119 =>
                                      (∃ b120 : Bool, ((v118 = Value.bool b120) ∧ (R (Value.bool b120) (w119)))))))))))))))))))))))))))))))))))))))))))))))))))))))))))))))))))))))))))))))))))))))))))
theorem ca7 (actsa : Option Addr) (actsl : Nat) (actsc : Nat) (a_ : Int) (b : Int) (w : World) (R : Value → World → Prop) (h : W7 actsa actsl actsc a_ b w R) : Ca Try.prog 7 ⟨[(.slice actsa actsl actsc), (.int .i64 a_), (.int .i64 b)]⟩ w R := by
  have h1 : Try.prog.follows .mixedOrders = true := by kernel_rfl
  have h2 : Try.f7.body = some C7 := by kernel_rfl
  have h3 : (Try.f7.name == "runtime.NumGoroutine") = false := by kernel_rfl
  have h6 : Try.f7.results.toList = [.tmp 6] := by kernel_rfl
  have h4 : Nat.ble 3 108 = true := by kernel_rfl
  have h5 : okCode 108 pl7 ls7 C7 0 = true := by kernel_rfl
  have e : W7 actsa actsl actsc a_ b w R = wpC none Try.prog 108 pl7 ls7 C7 0 (endP Try.prog [.tmp 6] R) (fr0 [(.slice actsa actsl actsc), (.int .i64 a_), (.int .i64 b)]) [] w := by kernel_rfl
  exact ca_of' (P := Try.prog) (g := 7) (fn := Try.f7) (c := C7) (m := 108) (rs := [.tmp 6]) (args := [(.slice actsa actsl actsc), (.int .i64 a_), (.int .i64 b)]) (pl := pl7) (ls := ls7) (w := w) (R := R) h1 Try.func7 h2 Try.ntmps7 h6 h3 h4 h5 (Eq.mp e h)

/-- staith/staithlaw11.StoreActs -/
noncomputable def C8 : Code := (Try.f8.body).getD .skip
def pl8 : Nat → Plan
  | 9 => (.quiet 0 (.quiet 1 (.quiet 2 (.eff 3 [] (.quiet 4 (.quiet 5 (.quiet 6 (.quiet 8 (.eff 7 [] (.eff 9 [] (.eff 10 [] (.quiet 11 (.quiet 12 (.quiet 13 (.quiet 14 (.quiet 16 (.eff 15 [] (.eff 17 [] (.quiet 18 (.quiet 19 (.quiet 20 (.quiet 21 (.quiet 23 (.quiet 24 (.quiet 25 (.quiet 26 (.eff 22 [26] (.quiet 27 (.quiet 28 (.quiet 29 (.quiet 30 (.quiet 32 (.quiet 33 (.quiet 34 (.quiet 35 (.eff 31 [35] (.quiet 36 (.quiet 37 .done))))))))))))))))))))))))))))))))))))))
  | _ => .done
def ls8 : Nat → List (Nat × LT)
  | 10 => [(28, (.one (.int .i64)))]
  | _ => []
def W8 (room : Int) (actsa : Option Addr) (actsl : Nat) (actsc : Nat) (w : World) (R : Value → World → Prop) : Prop :=
  (Ca Try.prog (13) (Array.mk [Value.int IntKind.i64 room]) (w) (fun v0 => (fun w1 =>
    (∃ p2 : Option Addr, ((v0 = Value.pointer p2) ∧ (Ca Try.prog (32) (Array.mk [Value.int IntKind.i64 room]) (w1) (fun v3 => (fun w4 =>
      (∃ p5 : Option Addr, ((v3 = Value.pointer p5) ∧ (ifK (!Option.isNone p2 == Option.isNone p5)
        (R (Value.bool false) (w4))
        (ifK (Option.isNone p5)
          (Ca Try.prog (12) (Array.mk []) (w4) (fun v6 => (fun w7 =>
            (∃ b8 : Bool, ((v6 = Value.bool b8) ∧ (R (Value.bool b8) (w7)))))))
          (Ca Try.prog (27) (Array.mk [Value.slice actsa actsl actsc]) (w4) (fun v9 => (fun w10 =>
            (∃ b11 : Bool, ((v9 = Value.bool b11) ∧ (ifK (!b11)
              (Ca Try.prog (12) (Array.mk []) (w10) (fun v12 => (fun w13 =>
                (∃ b14 : Bool, ((v12 = Value.bool b14) ∧ (R (Value.bool b14) (w13)))))))
              (∃ z15 : Int → World → Prop, (∃ z16 : Int → World → Nat, ((z15 (0) (w10)) ∧ (∀ (_ : Nat → Value), (∀ (x18 : Int), (∀ (w19 : World), ((z15 (x18) (w19)) → (ifK (decide (x18 < (↑actsl : Int)))
                (∃ a20 : Addr, ((actsa = some a20) ∧ (((0 : Int) ≤ x18) ∧ (((x18 : Int) < (↑actsl : Int)) ∧ (∃ x21 : Int, ((World.cell? w19 (Addr.add (Addr.add a20 (Int.toNat x18 * 6)) 0) = some (Value.int IntKind.i64 x21)) ∧ (∃ s22 : ByteArray, ((World.cell? w19 (Addr.add (Addr.add a20 (Int.toNat x18 * 6)) 1) = some (Value.string s22)) ∧ (∃ s23 : ByteArray, ((World.cell? w19 (Addr.add (Addr.add a20 (Int.toNat x18 * 6)) 2) = some (Value.string s23)) ∧ (∃ p24 : Option Addr, (∃ n25 : Nat, (∃ n26 : Nat, ((World.cell? w19 (Addr.add (Addr.add a20 (Int.toNat x18 * 6)) 3) = some (Value.slice p24 n25 n26)) ∧ (∃ x27 : Int, ((World.cell? w19 (Addr.add (Addr.add a20 (Int.toNat x18 * 6)) 4) = some (Value.int IntKind.i64 x27)) ∧ (∃ x28 : Int, ((World.cell? w19 (Addr.add (Addr.add a20 (Int.toNat x18 * 6)) 5) = some (Value.int IntKind.i64 x28)) ∧ (atW (World.alloc w19 (Obj.cells (Array.mk [Value.int IntKind.i64 0, Value.string (ByteArray.mk #[]), Value.string (ByteArray.mk #[]), Value.slice none 0 0, Value.int IntKind.i64 0, Value.int IntKind.i64 0]) 48 (0, 0))) (fun w29 =>
                  ((∃ v30 : Value, (World.cell? w29 (Addr.add (Addr.mk (Array.size (World.heap w19)) 0 none) 0) = some v30)) ∧ ((World.frozen? w29 (Addr.add (Addr.mk (Array.size (World.heap w19)) 0 none) 0) = false) ∧ (atW (World.setCell w29 (Addr.add (Addr.mk (Array.size (World.heap w19)) 0 none) 0) (Value.int IntKind.i64 x21)) (fun w31 =>
                    ((∃ v32 : Value, (World.cell? w31 (Addr.add (Addr.mk (Array.size (World.heap w19)) 0 none) 1) = some v32)) ∧ ((World.frozen? w31 (Addr.add (Addr.mk (Array.size (World.heap w19)) 0 none) 1) = false) ∧ (atW (World.setCell w31 (Addr.add (Addr.mk (Array.size (World.heap w19)) 0 none) 1) (Value.string s22)) (fun w33 =>
                      ((∃ v34 : Value, (World.cell? w33 (Addr.add (Addr.mk (Array.size (World.heap w19)) 0 none) 2) = some v34)) ∧ ((World.frozen? w33 (Addr.add (Addr.mk (Array.size (World.heap w19)) 0 none) 2) = false) ∧ (atW (World.setCell w33 (Addr.add (Addr.mk (Array.size (World.heap w19)) 0 none) 2) (Value.string s23)) (fun w35 =>
                        ((∃ v36 : Value, (World.cell? w35 (Addr.add (Addr.mk (Array.size (World.heap w19)) 0 none) 3) = some v36)) ∧ ((World.frozen? w35 (Addr.add (Addr.mk (Array.size (World.heap w19)) 0 none) 3) = false) ∧ (atW (World.setCell w35 (Addr.add (Addr.mk (Array.size (World.heap w19)) 0 none) 3) (Value.slice p24 n25 n26)) (fun w37 =>
                          ((∃ v38 : Value, (World.cell? w37 (Addr.add (Addr.mk (Array.size (World.heap w19)) 0 none) 4) = some v38)) ∧ ((World.frozen? w37 (Addr.add (Addr.mk (Array.size (World.heap w19)) 0 none) 4) = false) ∧ (atW (World.setCell w37 (Addr.add (Addr.mk (Array.size (World.heap w19)) 0 none) 4) (Value.int IntKind.i64 x27)) (fun w39 =>
                            ((∃ v40 : Value, (World.cell? w39 (Addr.add (Addr.mk (Array.size (World.heap w19)) 0 none) 5) = some v40)) ∧ ((World.frozen? w39 (Addr.add (Addr.mk (Array.size (World.heap w19)) 0 none) 5) = false) ∧ (atW (World.setCell w39 (Addr.add (Addr.mk (Array.size (World.heap w19)) 0 none) 5) (Value.int IntKind.i64 x28)) (fun w41 =>
                              (atW (World.drew w41) (fun w42 =>
                                (∃ x43 : Int, ((World.cell? w42 (Addr.add (Addr.mk (Array.size (World.heap w19)) 0 none) 0) = some (Value.int IntKind.i64 x43)) ∧ (∃ s44 : ByteArray, ((World.cell? w42 (Addr.add (Addr.mk (Array.size (World.heap w19)) 0 none) 1) = some (Value.string s44)) ∧ (∃ s45 : ByteArray, ((World.cell? w42 (Addr.add (Addr.mk (Array.size (World.heap w19)) 0 none) 2) = some (Value.string s45)) ∧ (∃ p46 : Option Addr, (∃ n47 : Nat, (∃ n48 : Nat, ((World.cell? w42 (Addr.add (Addr.mk (Array.size (World.heap w19)) 0 none) 3) = some (Value.slice p46 n47 n48)) ∧ (∃ x49 : Int, ((World.cell? w42 (Addr.add (Addr.mk (Array.size (World.heap w19)) 0 none) 4) = some (Value.int IntKind.i64 x49)) ∧ (∃ x50 : Int, ((World.cell? w42 (Addr.add (Addr.mk (Array.size (World.heap w19)) 0 none) 5) = some (Value.int IntKind.i64 x50)) ∧ (Ca Try.prog (33) (Array.mk [Value.pointer p2, Value.pointer p5, Value.agg (Array.mk (List.reverse [Value.int IntKind.i64 x50, Value.int IntKind.i64 x49, Value.slice p46 n47 n48, Value.string s45, Value.string s44, Value.int IntKind.i64 x43]))]) (w42) (fun v51 => (fun w52 =>
                                  (∃ b53 : Bool, ((v51 = Value.bool b53) ∧ (ifK (!b53)
                                    (R (Value.bool false) (w52))
                                    (Ca Try.prog (23) (Array.mk [Value.pointer p2]) (w52) (fun v54 => (fun w55 =>
                                      (∃ p56 : Option Addr, (∃ n57 : Nat, (∃ n58 : Nat, ((v54 = Value.slice p56 n57 n58) ∧ (Ca Try.prog (34) (Array.mk [Value.pointer p5]) (w55) (fun v59 => (fun w60 =>
                                        (∃ p61 : Option Addr, (∃ n62 : Nat, (∃ n63 : Nat, ((v59 = Value.slice p61 n62 n63) ∧ (Ca Try.prog (22) (Array.mk [Value.slice p56 n57 n58, Value.slice p61 n62 n63]) (w60) (fun v64 => (fun w65 =>
                                          (∃ b66 : Bool, ((v64 = Value.bool b66) ∧ (ifK (!b66)
                                            (R (Value.bool false) (w65))
                                            (Ca Try.prog (28) (Array.mk [Value.pointer p2]) (w65) (fun v67 => (fun w68 =>
                                              (∃ x69 : Int, ((v67 = Value.int IntKind.i64 x69) ∧ (Ca Try.prog (35) (Array.mk [Value.pointer p5]) (w68) (fun v70 => (fun w71 =>
                                                (∃ x72 : Int, ((v70 = Value.int IntKind.i64 x72) ∧ (ifK (x69 != x72)
                                                  (R (Value.bool false) (w71))
                                                  (onP (p5) (fun a73 =>
                                                    (∃ x74 : Int, ((World.cell? w71 (Addr.add a73 5) = some (Value.int IntKind.i64 x74)) ∧ (Ca Try.prog (29) (Array.mk [Value.pointer p2]) (w71) (fun v75 => (fun w76 =>
                                                      (∃ x77 : Int, ((v75 = Value.int IntKind.i64 x77) ∧ ((World.cell? w76 (Addr.add (Addr.add a73 5) 0) = some (Value.int IntKind.i64 x74)) ∧ (ifK (x77 != x74)
                                                        (R (Value.bool false) (w76))
                                                        (onP (p5) (fun a78 =>
                                                          (∃ b79 : Bool, ((World.cell? w76 (Addr.add a78 4) = some (Value.bool b79)) ∧ (Ca Try.prog (26) (Array.mk [Value.pointer p2]) (w76) (fun v80 => (fun w81 =>
                                                            (∃ b82 : Bool, ((v80 = Value.bool b82) ∧ ((World.cell? w81 (Addr.add (Addr.add a78 4) 0) = some (Value.bool b79)) ∧ (ifK (b82 == b79)
                                                              (R (Value.bool false) (w81))
                                                              ((z15 (IntKind.wrap IntKind.i64 (x18 + 1)) (w81)) ∧ (z16 (IntKind.wrap IntKind.i64 (x18 + 1)) w81 < z16 x18 w19)))))))))))))))))))))))))))))))))))))))))))))))))))))))))))))))))))))))))))))))))))))))))))))))))))))))))))))))))))))))))
                (Ca Try.prog (12) (Array.mk []) (w19) (fun v83 => (fun w84 =>
                  (∃ b85 : Bool, ((v83 = Value.bool b85) ∧ (R (Value.bool b85) (w84)))))))))))))))))))))))))))))))))
theorem ca8 (room : Int) (actsa : Option Addr) (actsl : Nat) (actsc : Nat) (w : World) (R : Value → World → Prop) (h : W8 room actsa actsl actsc w R) : Ca Try.prog 8 ⟨[(.int .i64 room), (.slice actsa actsl actsc)]⟩ w R := by
  have h1 : Try.prog.follows .mixedOrders = true := by kernel_rfl
  have h2 : Try.f8.body = some C8 := by kernel_rfl
  have h3 : (Try.f8.name == "runtime.NumGoroutine") = false := by kernel_rfl
  have h6 : Try.f8.results.toList = [.tmp 4] := by kernel_rfl
  have h4 : Nat.ble 2 72 = true := by kernel_rfl
  have h5 : okCode 72 pl8 ls8 C8 0 = true := by kernel_rfl
  have e : W8 room actsa actsl actsc w R = wpC none Try.prog 72 pl8 ls8 C8 0 (endP Try.prog [.tmp 4] R) (fr0 [(.int .i64 room), (.slice actsa actsl actsc)]) [] w := by kernel_rfl
  exact ca_of' (P := Try.prog) (g := 8) (fn := Try.f8) (c := C8) (m := 72) (rs := [.tmp 4]) (args := [(.int .i64 room), (.slice actsa actsl actsc)]) (pl := pl8) (ls := ls8) (w := w) (R := R) h1 Try.func8 h2 Try.ntmps8 h6 h3 h4 h5 (Eq.mp e h)

/-- staith/staithlaw11.act -/
noncomputable def C33 : Code := (Try.f33.body).getD .skip
def pl33 : Nat → Plan
  | 3 => (.quiet 0 (.quiet 1 (.quiet 2 (.quiet 4 (.quiet 5 (.quiet 6 (.eff 3 [6] (.eff 7 [] (.quiet 8 (.quiet 9 .done))))))))))
  | 6 => (.quiet 0 (.quiet 1 (.quiet 2 (.quiet 3 (.quiet 5 (.quiet 6 (.quiet 7 (.quiet 8 (.quiet 9 (.eff 4 [7, 9] (.eff 10 [] (.quiet 11 (.quiet 12 (.quiet 13 (.quiet 14 (.quiet 15 (.eff 16 [] (.quiet 17 (.quiet 18 .done)))))))))))))))))))
  | 8 => (.quiet 0 (.quiet 1 (.quiet 2 (.quiet 3 (.quiet 4 (.quiet 6 (.quiet 7 (.quiet 8 (.quiet 9 (.quiet 10 (.eff 5 [8, 10] (.eff 11 [] (.quiet 12 (.quiet 13 .done))))))))))))))
  | 10 => (.quiet 0 (.quiet 1 (.quiet 2 (.quiet 4 (.quiet 5 (.quiet 6 (.eff 3 [6] (.eff 7 [] (.quiet 8 (.quiet 9 .done))))))))))
  | 12 => (.quiet 0 (.quiet 1 (.quiet 2 (.quiet 3 (.quiet 4 (.quiet 6 (.quiet 7 (.quiet 8 (.quiet 9 (.quiet 10 (.eff 5 [8, 10] (.eff 11 [] (.quiet 12 (.quiet 13 .done))))))))))))))
  | 14 => (.quiet 0 (.quiet 1 (.quiet 2 (.quiet 4 (.quiet 5 (.quiet 6 (.eff 3 [6] (.eff 7 [] (.quiet 8 (.quiet 9 .done))))))))))
  | 22 => (.quiet 0 (.quiet 1 (.quiet 2 (.quiet 3 (.quiet 4 (.quiet 6 (.quiet 7 (.quiet 8 (.quiet 9 (.quiet 10 (.eff 5 [8, 10] (.eff 11 [] (.quiet 12 (.quiet 13 .done))))))))))))))
  | _ => .done
def ls33 : Nat → List (Nat × LT) := fun _ => []
def W33 (s : Option Addr) (r : Option Addr) (a0_ : Int) (a1_ : ByteArray) (a2_ : ByteArray) (a3_a : Option Addr) (a3_l : Nat) (a3_c : Nat) (a4_ : Int) (a5_ : Int) (w : World) (R : Value → World → Prop) : Prop :=
  (atW (World.alloc w (Obj.cells (Array.mk [Value.int IntKind.i64 a0_, Value.string a1_, Value.string a2_, Value.slice a3_a a3_l a3_c, Value.int IntKind.i64 a4_, Value.int IntKind.i64 a5_]) 48 (0, 0))) (fun w0 =>
    (∃ x1 : Int, ((World.cell? w0 (Addr.add (Addr.mk (Array.size (World.heap w)) 0 none) 0) = some (Value.int IntKind.i64 x1)) ∧ (ifK (x1 == 0)
      (atW (World.drew w0) (fun w2 =>
        (∃ s3 : ByteArray, ((World.cell? w2 (Addr.add (Addr.mk (Array.size (World.heap w)) 0 none) 1) = some (Value.string s3)) ∧ (∃ s4 : ByteArray, ((World.cell? w2 (Addr.add (Addr.mk (Array.size (World.heap w)) 0 none) 1) = some (Value.string s4)) ∧ (Ca Try.prog (14) (Array.mk [Value.pointer s, Value.string s3]) (w2) (fun v5 => (fun w6 =>
          (∃ x7 : Int, ((v5 = Value.int IntKind.i64 x7) ∧ ((World.cell? w6 (Addr.add (Addr.add (Addr.mk (Array.size (World.heap w)) 0 none) 1) 0) = some (Value.string s4)) ∧ (Ca Try.prog (54) (Array.mk [Value.pointer r, Value.string s4]) (w6) (fun v8 => (fun w9 =>
            (∃ x10 : Int, ((v8 = Value.int IntKind.i64 x10) ∧ (R (Value.bool (x7 == x10)) (w9)))))))))))))))))))
      (ifK (x1 == 1)
        (∃ p11 : Option Addr, (∃ n12 : Nat, (∃ n13 : Nat, ((World.cell? w0 (Addr.add (Addr.mk (Array.size (World.heap w)) 0 none) 3) = some (Value.slice p11 n12 n13)) ∧ (Ca Try.prog (55) (Array.mk [Value.slice p11 n12 n13]) (w0) (fun v14 => (fun w15 =>
          (∃ p16 : Option Addr, (∃ n17 : Nat, (∃ n18 : Nat, (∃ p19 : Option Addr, (∃ n20 : Nat, (∃ n21 : Nat, ((v14 = Value.tuple (Array.mk (List.reverse [Value.slice p19 n20 n21, Value.slice p16 n17 n18]))) ∧ (atW (World.drew w15) (fun w22 =>
            (∃ s23 : ByteArray, ((World.cell? w22 (Addr.add (Addr.mk (Array.size (World.heap w)) 0 none) 1) = some (Value.string s23)) ∧ (∃ s24 : ByteArray, ((World.cell? w22 (Addr.add (Addr.mk (Array.size (World.heap w)) 0 none) 1) = some (Value.string s24)) ∧ (∃ p25 : Option Addr, (∃ n26 : Nat, (∃ n27 : Nat, ((World.cell? w22 (Addr.add (Addr.mk (Array.size (World.heap w)) 0 none) 3) = some (Value.slice p25 n26 n27)) ∧ (Ca Try.prog (15) (Array.mk [Value.pointer s, Value.string s23, Value.slice p19 n20 n21]) (w22) (fun v28 => (fun w29 =>
              (∃ x30 : Int, ((v28 = Value.int IntKind.i64 x30) ∧ ((World.cell? w29 (Addr.add (Addr.add (Addr.mk (Array.size (World.heap w)) 0 none) 1) 0) = some (Value.string s24)) ∧ ((World.cell? w29 (Addr.add (Addr.add (Addr.mk (Array.size (World.heap w)) 0 none) 3) 0) = some (Value.slice p25 n26 n27)) ∧ (Ca Try.prog (56) (Array.mk [Value.pointer r, Value.string s24, Value.slice p25 n26 n27]) (w29) (fun v31 => (fun w32 =>
                (∃ x33 : Int, ((v31 = Value.int IntKind.i64 x33) ∧ (ifK (x30 == x33)
                  (∃ p34 : Option Addr, (∃ n35 : Nat, (∃ n36 : Nat, ((World.cell? w32 (Addr.add (Addr.mk (Array.size (World.heap w)) 0 none) 3) = some (Value.slice p34 n35 n36)) ∧ (Ca Try.prog (57) (Array.mk [Value.slice p16 n17 n18, Value.slice p34 n35 n36]) (w32) (fun v37 => (fun w38 =>
                    (∃ b39 : Bool, ((v37 = Value.bool b39) ∧ (R (Value.bool b39) (w38)))))))))))
                  (R (Value.bool false) (w32)))))))))))))))))))))))))))))))))))))))
        (ifK (x1 == 2)
          (atW (World.drew w0) (fun w40 =>
            (∃ s41 : ByteArray, ((World.cell? w40 (Addr.add (Addr.mk (Array.size (World.heap w)) 0 none) 1) = some (Value.string s41)) ∧ (∃ x42 : Int, ((World.cell? w40 (Addr.add (Addr.mk (Array.size (World.heap w)) 0 none) 4) = some (Value.int IntKind.i64 x42)) ∧ (∃ s43 : ByteArray, ((World.cell? w40 (Addr.add (Addr.mk (Array.size (World.heap w)) 0 none) 1) = some (Value.string s43)) ∧ (∃ x44 : Int, ((World.cell? w40 (Addr.add (Addr.mk (Array.size (World.heap w)) 0 none) 4) = some (Value.int IntKind.i64 x44)) ∧ (Ca Try.prog (30) (Array.mk [Value.pointer s, Value.string s41, Value.int IntKind.i64 x42]) (w40) (fun v45 => (fun w46 =>
              (∃ x47 : Int, ((v45 = Value.int IntKind.i64 x47) ∧ ((World.cell? w46 (Addr.add (Addr.add (Addr.mk (Array.size (World.heap w)) 0 none) 1) 0) = some (Value.string s43)) ∧ ((World.cell? w46 (Addr.add (Addr.add (Addr.mk (Array.size (World.heap w)) 0 none) 4) 0) = some (Value.int IntKind.i64 x44)) ∧ (Ca Try.prog (58) (Array.mk [Value.pointer r, Value.string s43, Value.int IntKind.i64 x44]) (w46) (fun v48 => (fun w49 =>
                (∃ x50 : Int, ((v48 = Value.int IntKind.i64 x50) ∧ (R (Value.bool (x47 == x50)) (w49))))))))))))))))))))))))
          (ifK (x1 == 3)
            (atW (World.drew w0) (fun w51 =>
              (∃ s52 : ByteArray, ((World.cell? w51 (Addr.add (Addr.mk (Array.size (World.heap w)) 0 none) 1) = some (Value.string s52)) ∧ (∃ s53 : ByteArray, ((World.cell? w51 (Addr.add (Addr.mk (Array.size (World.heap w)) 0 none) 1) = some (Value.string s53)) ∧ (Ca Try.prog (16) (Array.mk [Value.pointer s, Value.string s52]) (w51) (fun v54 => (fun w55 =>
                (∃ x56 : Int, ((v54 = Value.int IntKind.i64 x56) ∧ ((World.cell? w55 (Addr.add (Addr.add (Addr.mk (Array.size (World.heap w)) 0 none) 1) 0) = some (Value.string s53)) ∧ (Ca Try.prog (59) (Array.mk [Value.pointer r, Value.string s53]) (w55) (fun v57 => (fun w58 =>
                  (∃ x59 : Int, ((v57 = Value.int IntKind.i64 x59) ∧ (R (Value.bool (x56 == x59)) (w58)))))))))))))))))))
            (ifK (x1 == 4)
              (atW (World.drew w0) (fun w60 =>
                (∃ s61 : ByteArray, ((World.cell? w60 (Addr.add (Addr.mk (Array.size (World.heap w)) 0 none) 1) = some (Value.string s61)) ∧ (∃ s62 : ByteArray, ((World.cell? w60 (Addr.add (Addr.mk (Array.size (World.heap w)) 0 none) 2) = some (Value.string s62)) ∧ (∃ s63 : ByteArray, ((World.cell? w60 (Addr.add (Addr.mk (Array.size (World.heap w)) 0 none) 1) = some (Value.string s63)) ∧ (∃ s64 : ByteArray, ((World.cell? w60 (Addr.add (Addr.mk (Array.size (World.heap w)) 0 none) 2) = some (Value.string s64)) ∧ (Ca Try.prog (25) (Array.mk [Value.pointer s, Value.string s61, Value.string s62]) (w60) (fun v65 => (fun w66 =>
                  (∃ x67 : Int, ((v65 = Value.int IntKind.i64 x67) ∧ ((World.cell? w66 (Addr.add (Addr.add (Addr.mk (Array.size (World.heap w)) 0 none) 1) 0) = some (Value.string s63)) ∧ ((World.cell? w66 (Addr.add (Addr.add (Addr.mk (Array.size (World.heap w)) 0 none) 2) 0) = some (Value.string s64)) ∧ (Ca Try.prog (60) (Array.mk [Value.pointer r, Value.string s63, Value.string s64]) (w66) (fun v68 => (fun w69 =>
                    (∃ x70 : Int, ((v68 = Value.int IntKind.i64 x70) ∧ (R (Value.bool (x67 == x70)) (w69))))))))))))))))))))))))
              (ifK (x1 == 5)
                (atW (World.drew w0) (fun w71 =>
                  (∃ s72 : ByteArray, ((World.cell? w71 (Addr.add (Addr.mk (Array.size (World.heap w)) 0 none) 1) = some (Value.string s72)) ∧ (∃ s73 : ByteArray, ((World.cell? w71 (Addr.add (Addr.mk (Array.size (World.heap w)) 0 none) 1) = some (Value.string s73)) ∧ (Ca Try.prog (31) (Array.mk [Value.pointer s, Value.string s72]) (w71) (fun v74 => (fun w75 =>
                    (∃ x76 : Int, ((v74 = Value.int IntKind.i64 x76) ∧ ((World.cell? w75 (Addr.add (Addr.add (Addr.mk (Array.size (World.heap w)) 0 none) 1) 0) = some (Value.string s73)) ∧ (Ca Try.prog (61) (Array.mk [Value.pointer r, Value.string s73]) (w75) (fun v77 => (fun w78 =>
                      (∃ x79 : Int, ((v77 = Value.int IntKind.i64 x79) ∧ (R (Value.bool (x76 == x79)) (w78)))))))))))))))))))
                (ifK (x1 == 6)
                  (Ca Try.prog (17) (Array.mk [Value.pointer s]) (w0) (fun v80 => (fun w81 =>
                    (∃ x82 : Int, ((v80 = Value.int IntKind.i64 x82) ∧ (Ca Try.prog (62) (Array.mk [Value.pointer r]) (w81) (fun v83 => (fun w84 =>
                      (∃ x85 : Int, ((v83 = Value.int IntKind.i64 x85) ∧ (R (Value.bool (x82 == x85)) (w84))))))))))))
                  (ifK (x1 == 7)
                    (∃ s86 : ByteArray, ((World.cell? w0 (Addr.add (Addr.mk (Array.size (World.heap w)) 0 none) 1) = some (Value.string s86)) ∧ (Ca Try.prog (20) (Array.mk [Value.pointer s, Value.string s86]) (w0) (fun v87 => (fun w88 =>
                      (∃ p89 : Option Addr, (∃ n90 : Nat, (∃ n91 : Nat, (∃ x92 : Int, ((v87 = Value.tuple (Array.mk (List.reverse [Value.int IntKind.i64 x92, Value.slice p89 n90 n91]))) ∧ (∃ s93 : ByteArray, ((World.cell? w88 (Addr.add (Addr.mk (Array.size (World.heap w)) 0 none) 1) = some (Value.string s93)) ∧ (Ca Try.prog (63) (Array.mk [Value.pointer r, Value.string s93]) (w88) (fun v94 => (fun w95 =>
                        (∃ p96 : Option Addr, (∃ n97 : Nat, (∃ n98 : Nat, (∃ x99 : Int, ((v94 = Value.tuple (Array.mk (List.reverse [Value.int IntKind.i64 x99, Value.slice p96 n97 n98]))) ∧ (Ca Try.prog (21) (Array.mk [Value.slice p89 n90 n91, Value.slice p96 n97 n98]) (w95) (fun v100 => (fun w101 =>
                          (∃ b102 : Bool, ((v100 = Value.bool b102) ∧ (ifK (b102)
                            (R (Value.bool (x92 == x99)) (w101))
                            (R (Value.bool false) (w101))))))))))))))))))))))))))))
                    (ifK (x1 == 8)
                      (atW (World.drew w0) (fun w103 =>
                        (∃ x104 : Int, ((World.cell? w103 (Addr.add (Addr.mk (Array.size (World.heap w)) 0 none) 4) = some (Value.int IntKind.i64 x104)) ∧ (∃ x105 : Int, ((World.cell? w103 (Addr.add (Addr.mk (Array.size (World.heap w)) 0 none) 5) = some (Value.int IntKind.i64 x105)) ∧ (∃ x106 : Int, ((World.cell? w103 (Addr.add (Addr.mk (Array.size (World.heap w)) 0 none) 4) = some (Value.int IntKind.i64 x106)) ∧ (∃ x107 : Int, ((World.cell? w103 (Addr.add (Addr.mk (Array.size (World.heap w)) 0 none) 5) = some (Value.int IntKind.i64 x107)) ∧ (Ca Try.prog (24) (Array.mk [Value.pointer s, Value.int IntKind.i64 x104, Value.int IntKind.i64 x105]) (w103) (fun v108 => (fun w109 =>
                          (∃ x110 : Int, ((v108 = Value.int IntKind.i64 x110) ∧ ((World.cell? w109 (Addr.add (Addr.add (Addr.mk (Array.size (World.heap w)) 0 none) 4) 0) = some (Value.int IntKind.i64 x106)) ∧ ((World.cell? w109 (Addr.add (Addr.add (Addr.mk (Array.size (World.heap w)) 0 none) 5) 0) = some (Value.int IntKind.i64 x107)) ∧ (Ca Try.prog (64) (Array.mk [Value.pointer r, Value.int IntKind.i64 x106, Value.int IntKind.i64 x107]) (w109) (fun v111 => (fun w112 =>
                            (∃ x113 : Int, ((v111 = Value.int IntKind.i64 x113) ∧ (R (Value.bool (x110 == x113)) (w112))))))))))))))))))))))))
                      (ifK (x1 == 9)
                        (∃ x114 : Int, ((World.cell? w0 (Addr.add (Addr.mk (Array.size (World.heap w)) 0 none) 4) = some (Value.int IntKind.i64 x114)) ∧ (Ca Try.prog (18) (Array.mk [Value.pointer s, Value.int IntKind.i64 x114]) (w0) (fun v115 => (fun w116 =>
                          ((v115 = Value.tuple (Array.mk (List.reverse []))) ∧ (∃ x117 : Int, ((World.cell? w116 (Addr.add (Addr.mk (Array.size (World.heap w)) 0 none) 4) = some (Value.int IntKind.i64 x117)) ∧ (Ca Try.prog (65) (Array.mk [Value.pointer r, Value.int IntKind.i64 x117]) (w116) (fun v118 => (fun w119 =>
                            ((v118 = Value.tuple (Array.mk (List.reverse []))) ∧ (R (Value.bool true) (w119))))))))))))))
                        (ifK (x1 == 10)
                          (Ca Try.prog (19) (Array.mk [Value.pointer s]) (w0) (fun v120 => (fun w121 =>
                            ((v120 = Value.tuple (Array.mk (List.reverse []))) ∧ (Ca Try.prog (66) (Array.mk [Value.pointer r]) (w121) (fun v122 => (fun w123 =>
                              ((v122 = Value.tuple (Array.mk (List.reverse []))) ∧ (R (Value.bool true) (w123))))))))))
                          (R (Value.bool true) (w0)))))))))))))))))
theorem ca33 (s : Option Addr) (r : Option Addr) (a0_ : Int) (a1_ : ByteArray) (a2_ : ByteArray) (a3_a : Option Addr) (a3_l : Nat) (a3_c : Nat) (a4_ : Int) (a5_ : Int) (w : World) (R : Value → World → Prop) (h : W33 s r a0_ a1_ a2_ a3_a a3_l a3_c a4_ a5_ w R) : Ca Try.prog 33 ⟨[(.pointer s), (.pointer r), (.agg ⟨[(.int .i64 a0_), (.string a1_), (.string a2_), (.slice a3_a a3_l a3_c), (.int .i64 a4_), (.int .i64 a5_)]⟩)]⟩ w R := by
  have h1 : Try.prog.follows .mixedOrders = true := by kernel_rfl
  have h2 : Try.f33.body = some C33 := by kernel_rfl
  have h3 : (Try.f33.name == "runtime.NumGoroutine") = false := by kernel_rfl
  have h6 : Try.f33.results.toList = [.tmp 6] := by kernel_rfl
  have h4 : Nat.ble 3 166 = true := by kernel_rfl
  have h5 : okCode 166 pl33 ls33 C33 0 = true := by kernel_rfl
  have e : W33 s r a0_ a1_ a2_ a3_a a3_l a3_c a4_ a5_ w R = wpC none Try.prog 166 pl33 ls33 C33 0 (endP Try.prog [.tmp 6] R) (fr0 [(.pointer s), (.pointer r), (.agg ⟨[(.int .i64 a0_), (.string a1_), (.string a2_), (.slice a3_a a3_l a3_c), (.int .i64 a4_), (.int .i64 a5_)]⟩)]) [] w := by kernel_rfl
  exact ca_of' (P := Try.prog) (g := 33) (fn := Try.f33) (c := C33) (m := 166) (rs := [.tmp 6]) (args := [(.pointer s), (.pointer r), (.agg ⟨[(.int .i64 a0_), (.string a1_), (.string a2_), (.slice a3_a a3_l a3_c), (.int .i64 a4_), (.int .i64 a5_)]⟩)]) (pl := pl33) (ls := ls33) (w := w) (R := R) h1 Try.func33 h2 Try.ntmps33 h6 h3 h4 h5 (Eq.mp e h)
end Go.Proofs.Ytemklabamlifdaa

/- The walk of StoreRoom. -/
namespace Go.Proofs.Ytemklabamlifdaa
open Go Go.Proofs.Ytemklabamlifdaa.St

/-! ### The plain law -/
/-- A store that no failure was planned for; its files are apart, and fit. -/
structure Rm (n : Int) (a : AS) : Prop where
  room : a.room = n
  dark : a.dark = false
  left : a.left = 0
  apart : (a.dir.map (·.2)).Nodup
  need : (a.need : Int) ≤ n

theorem cnt0 {a : AS} (h : a.left = 0) (f : AS → AS) : a.counted f = (f a.tick, 0) := by rw [AS.counted, if_neg (by omega)]
theorem sum_perm {f : ByteArray × Nat → Nat} {D D' : List (ByteArray × Nat)} (h : D.Perm D') : (D.map f).sum = (D'.map f).sum := (h.map f).sum_nat
theorem sum_ddel (f : ByteArray × Nat → Nat) (k : ByteArray) (D : List (ByteArray × Nat)) : ((ddel k D).map f).sum ≤ (D.map f).sum := by
  induction D with
  | nil => exact Nat.le_refl _
  | cons p r ih =>
    rw [ddel] at ih ⊢
    by_cases h : p.1 = k
    · rw [List.filter_cons_of_neg (by simp [h]), List.map_cons, List.sum_cons]; omega
    · rw [List.filter_cons_of_pos (by simp [h]), List.map_cons, List.map_cons, List.sum_cons, List.sum_cons]; omega
theorem sum_ddel_get {f : ByteArray × Nat → Nat} {k : ByteArray} {D : List (ByteArray × Nat)} {i : Nat} (h : (k, i) ∈ D) : ((ddel k D).map f).sum + f (k, i) ≤ (D.map f).sum := by
  induction D with
  | nil => cases h
  | cons p r ih =>
    rw [ddel] at ih ⊢
    rcases List.mem_cons.1 h with rfl | h
    · rw [List.filter_cons_of_neg (by simp), List.map_cons, List.sum_cons]
      have := sum_ddel f k r
      rw [ddel] at this
      omega
    · have ih := ih h
      by_cases hp : p.1 = k
      · rw [List.filter_cons_of_neg (by simp [hp]), List.map_cons, List.sum_cons]; omega
      · rw [List.filter_cons_of_pos (by simp [hp]), List.map_cons, List.map_cons, List.sum_cons, List.sum_cons]; omega
theorem apart_ddel {k : ByteArray} {D : List (ByteArray × Nat)} (h : (D.map (·.2)).Nodup) : ((ddel k D).map (·.2)).Nodup := h.sublist (List.Sublist.map _ List.filter_sublist)
theorem apart_inj {D : List (ByteArray × Nat)} (h : (D.map (·.2)).Nodup) {k k' : ByteArray} {i : Nat} (h1 : (k, i) ∈ D) (h2 : (k', i) ∈ D) : k = k' := by
  induction D with
  | nil => cases h1
  | cons p r ih =>
    rw [List.map_cons, List.nodup_cons] at h
    rcases List.mem_cons.1 h1 with e1 | h1 <;> rcases List.mem_cons.1 h2 with e2 | h2
    · rw [← e1] at e2; injection e2 with e2; exact e2.symm
    · exact absurd (List.mem_map.2 ⟨_, h2, by rw [← e1]⟩) h.1
    · exact absurd (List.mem_map.2 ⟨_, h1, by rw [← e2]⟩) h.1
    · exact ih h.2 h1 h2
theorem sum_upd {g g' : Nat → Nat} {D : List (ByteArray × Nat)} (h : (D.map (·.2)).Nodup) {k : ByteArray} {i : Nat} (hi : (k, i) ∈ D) (hg : ∀ j, j ≠ i → g' j = g j) : (D.map fun p => 16 + g' p.2).sum + g i = (D.map fun p => 16 + g p.2).sum + g' i := by
  induction D with
  | nil => cases hi
  | cons p r ih =>
    rw [List.map_cons, List.nodup_cons] at h
    simp only [List.map_cons, List.sum_cons]
    rcases List.mem_cons.1 hi with rfl | hi
    · have : (r.map fun p => 16 + g' p.2) = r.map fun p => 16 + g p.2 := List.map_congr_left fun q hq => by
        rw [hg q.2 fun e => h.1 (by simp only; rw [← e]; exact List.mem_map_of_mem hq)]
      rw [this]
      simp only
      omega
    · have hne : p.2 ≠ i := fun e => h.1 (by rw [e]; exact List.mem_map.2 ⟨_, hi, rfl⟩)
      have := ih h.2 hi
      rw [hg p.2 hne]
      omega
theorem need_of {a b : AS} (hd : b.dir = a.dir) (hf : ∀ p ∈ a.dir, b.len p.2 = a.len p.2) : b.need = a.need := by
  rw [AS.need, AS.need, hd]
  congr 1
  exact List.map_congr_left fun p hp => by rw [hf p hp]

section
variable {n : Int} {a : AS}
/-- What one counted call makes of it. -/
def Step1 (n : Int) (a : AS) (r : AS × Int) : Prop := Rm n r.1 ∧ (r.2 ≠ 0 → r.1 = a) ∧ (r.2 = 0 → r.1.count = IntKind.i64.wrap (a.count + 1))
theorem Step1.same (h : Rm n a) {e : Int} (he : e ≠ 0) : Step1 n a (a, e) := ⟨h, fun _ => rfl, fun h => absurd h he⟩
theorem Step1.cnt (h : Rm n a) {f : AS → AS} (hr : Rm n (f a.tick)) (hc : (f a.tick).count = a.tick.count) : Step1 n a (a.counted f) := by
  rw [cnt0 h.left]
  exact ⟨hr, fun h => absurd rfl h, fun _ => hc⟩
theorem Rm.file_lt (hok : a.Ok) {k : ByteArray} {i : Nat} (h : dget a.dir k = some i) : i < a.all.length := hok.dirI _ (dget_some h)
theorem rm_make (h : Rm n a) (hok : a.Ok) (k : ByteArray) : Step1 n a (a.make k) := by
  rw [AS.make]
  split
  · exact Step1.same h (by decide)
  · split
    · rename_i hk
      have hdn : dget a.dir k = none := by
        unfold AS.known at hk
        split at hk
        · cases hk
        · split at hk
          · cases hk
          · split at hk
            · assumption
            · cases hk
      split
      · exact Step1.same h (by decide)
      · rename_i hr
        refine Step1.cnt h ⟨h.room, h.dark, h.left, ?_, ?_⟩ rfl
        · have hp : ((dset k a.all.length a.dir).map (·.2)).Perm (a.all.length :: (ddel k a.dir).map (·.2)) := (dset_perm k a.all.length a.dir).map (·.2)
          refine hp.nodup_iff.2 (List.nodup_cons.2 ⟨fun hm => ?_, apart_ddel h.apart⟩)
          obtain ⟨p, hp, e⟩ := List.mem_map.1 hm
          have := hok.dirI p (mem_ddel.1 hp).1
          omega
        · have hlen : ∀ i, i ≤ a.all.length → ((({ a.tick with all := a.tick.all ++ [([], [])], dir := dset k a.tick.all.length a.tick.dir } : AS)).len i) = if i = a.all.length then 0 else a.len i := by
            intro i hi
            show (((a.all ++ [([], [])])[i]?).getD ([], [])).1.length = _
            split
            · rename_i e; subst e; simp
            · rw [List.getElem?_append_left (by omega)]; rfl
          show ((((dset k a.all.length a.dir).map fun p => 16 + (({ a.tick with all := a.tick.all ++ [([], [])], dir := dset k a.tick.all.length a.tick.dir } : AS)).len p.2).sum : Nat) : Int) ≤ n
          rw [sum_perm (dset_perm k a.all.length a.dir), List.map_cons, List.sum_cons, hlen _ (Nat.le_refl _), if_pos rfl]
          have he : ((ddel k a.dir).map fun p => 16 + (({ a.tick with all := a.tick.all ++ [([], [])], dir := dset k a.tick.all.length a.tick.dir } : AS)).len p.2) = (ddel k a.dir).map fun p => 16 + a.len p.2 := List.map_congr_left fun p hp => by
            have := hok.dirI p (mem_ddel.1 hp).1
            rw [hlen p.2 (by omega), if_neg (by omega)]
          rw [he]
          have h1 := sum_ddel (fun p => 16 + a.len p.2) k a.dir
          have h2 := h.need
          have h3 := h.room
          rw [AS.need] at h2 hr
          omega
    · rename_i hk _
      exact Step1.same h hk
theorem rm_write (h : Rm n a) (hok : a.Ok) (k : ByteArray) (b : Bs) : Step1 n a (a.write k b) := by
  rw [AS.write]
  split
  · rename_i hk
    obtain ⟨_, _, i, hi, hidx⟩ := AS.known0 hk
    split
    · exact Step1.same h (by decide)
    · rename_i hr
      refine Step1.cnt h ⟨h.room, h.dark, h.left, h.apart, ?_⟩ rfl
      have e0 : a.tick.idx k = i := hidx
      have hlt : i < a.all.length := Rm.file_lt hok hi
      have hl : ∀ j, ((a.tick.upd (a.tick.idx k) fun x => (x.1 ++ b, x.2)).len j) = if i = j then a.len j + b.length else a.len j := by
        intro j
        rw [e0]
        show ((a.tick.upd i fun x => (x.1 ++ b, x.2)).file j).1.length = _
        rw [AS.file_upd (a := a.tick) hlt]
        split
        · rw [List.length_append]; rfl
        · rfl
      have := sum_upd h.apart (dget_some hi) (g := a.len) (g' := fun j => (a.tick.upd (a.tick.idx k) fun x => (x.1 ++ b, x.2)).len j) (fun j hj => by rw [hl, if_neg fun e => hj e.symm])
      simp only [hl i, if_true] at this
      have h2 := h.need
      have h3 := h.room
      rw [AS.need] at h2 hr
      show (((a.dir.map fun p => 16 + (a.tick.upd (a.tick.idx k) fun x => (x.1 ++ b, x.2)).len p.2).sum : Nat) : Int) ≤ n
      omega
  · rename_i hk
    exact Step1.same h hk
theorem rm_cut (h : Rm n a) (hok : a.Ok) (k : ByteArray) (m : Int) : Step1 n a (a.cut k m) := by
  rw [AS.cut]
  split
  · rename_i hk
    obtain ⟨_, _, i, hi, hidx⟩ := AS.known0 hk
    split
    · exact Step1.same h (by decide)
    · refine Step1.cnt h ⟨h.room, h.dark, h.left, h.apart, ?_⟩ rfl
      have e0 : a.tick.idx k = i := hidx
      have hlt : i < a.all.length := Rm.file_lt hok hi
      have hl : ∀ j, ((a.tick.upd (a.tick.idx k) fun x => (x.1.take m.toNat, x.2)).len j) = if i = j then min m.toNat (a.len j) else a.len j := by
        intro j
        rw [e0]
        show ((a.tick.upd i fun x => (x.1.take m.toNat, x.2)).file j).1.length = _
        rw [AS.file_upd (a := a.tick) hlt]
        split
        · rw [List.length_take]; rfl
        · rfl
      have := sum_upd h.apart (dget_some hi) (g := a.len) (g' := fun j => (a.tick.upd (a.tick.idx k) fun x => (x.1.take m.toNat, x.2)).len j) (fun j hj => by rw [hl, if_neg fun e => hj e.symm])
      simp only [hl i, if_true] at this
      have h2 := h.need
      rw [AS.need] at h2
      show (((a.dir.map fun p => 16 + (a.tick.upd (a.tick.idx k) fun x => (x.1.take m.toNat, x.2)).len p.2).sum : Nat) : Int) ≤ n
      omega
  · rename_i hk
    exact Step1.same h hk
theorem rm_sync (h : Rm n a) (hok : a.Ok) (k : ByteArray) : Step1 n a (a.sync k) := by
  rw [AS.sync]
  split
  · rename_i hk
    obtain ⟨_, _, i, hi, hidx⟩ := AS.known0 hk
    refine Step1.cnt h ⟨h.room, h.dark, h.left, h.apart, ?_⟩ rfl
    have e0 : a.tick.idx k = i := hidx
    have hlt : i < a.all.length := Rm.file_lt hok hi
    rw [need_of (a := a) (b := a.tick.upd (a.tick.idx k) fun x => (x.1, x.1)) rfl fun p _ => ?_]
    · exact h.need
    · rw [e0]
      show ((a.tick.upd i fun x => (x.1, x.1)).file p.2).1.length = _
      rw [AS.file_upd (a := a.tick) hlt]
      split <;> rfl
  · rename_i hk
    exact Step1.same h hk
theorem rm_drop (h : Rm n a) (k : ByteArray) : Step1 n a (a.drop k) := by
  rw [AS.drop]
  split
  · refine Step1.cnt h ⟨h.room, h.dark, h.left, apart_ddel h.apart, ?_⟩ rfl
    have h1 := sum_ddel (fun p => 16 + a.len p.2) k a.dir
    have h2 := h.need
    rw [AS.need] at h2
    show (((ddel k a.dir).map fun p => 16 + a.len p.2).sum : Int) ≤ n
    omega
  · rename_i hk
    exact Step1.same h hk
theorem rm_move (h : Rm n a) (k to : ByteArray) : Step1 n a (a.move k to) := by
  rw [AS.move]
  split
  · exact Step1.same h (by decide)
  · split
    · exact Step1.same h (by decide)
    · split
      · exact Step1.same h (by decide)
      · rename_i hk
        obtain ⟨i, hi⟩ : ∃ i, dget a.dir k = some i := by
          cases hg : dget a.dir k with
          | none => exact absurd hg hk
          | some i => exact ⟨i, rfl⟩
        have hm := dget_some hi
        refine Step1.cnt h ⟨h.room, h.dark, h.left, ?_, ?_⟩ rfl
        · show ((dset to (a.idx k) (ddel k a.dir)).map (·.2)).Nodup
          rw [AS.idx, hi]
          have hp : ((dset to i (ddel k a.dir)).map (·.2)).Perm (i :: (ddel to (ddel k a.dir)).map (·.2)) := (dset_perm to i (ddel k a.dir)).map (·.2)
          refine hp.nodup_iff.2 (List.nodup_cons.2 ⟨fun hx => ?_, apart_ddel (apart_ddel h.apart)⟩)
          obtain ⟨p, hp, e⟩ := List.mem_map.1 hx
          have hp1 := (mem_ddel.1 (mem_ddel.1 hp).1)
          have : (p.1, i) ∈ a.dir := by rw [← e]; exact hp1.1
          exact hp1.2 (apart_inj h.apart this hm)
        · show (((dset to (a.idx k) (ddel k a.dir)).map fun p => 16 + a.len p.2).sum : Int) ≤ n
          rw [AS.idx, hi, sum_perm (dset_perm to _ (ddel k a.dir)), List.map_cons, List.sum_cons]
          have h1 := sum_ddel (fun p => 16 + a.len p.2) to (ddel k a.dir)
          have h2 := sum_ddel_get (f := fun p => 16 + a.len p.2) hm
          have h3 := h.need
          rw [AS.need] at h3
          simp only [Option.getD_some] at h2 ⊢
          omega
theorem rm_commit (h : Rm n a) : Step1 n a a.commit := by
  rw [AS.commit]
  split
  · exact Step1.same h (by decide)
  · exact Step1.cnt h ⟨h.room, h.dark, h.left, h.apart, h.need⟩ rfl

theorem drop_first (h : Rm n a) (hok : a.Ok) {p : ByteArray × Nat} {r : List (ByteArray × Nat)} (hd : a.dir = p :: r) : a.drop p.1 = ({ a.tick with dir := r }, 0) := by
  have hr := hok.dirS
  rw [hd, Rises, List.map_cons, List.pairwise_cons] at hr
  have hg : goodB p.1 = true := hok.dirG p (by rw [hd]; simp)
  have hk : a.known p.1 = 0 := by
    have : dget a.dir p.1 = some p.2 := by rw [hd]; simp [dget]
    exact (AS.known_of h.dark hg this).1
  rw [AS.drop, if_pos hk, cnt0 h.left]
  have : ddel p.1 a.dir = r := by
    rw [hd, ddel, List.filter_cons_of_neg (by simp), List.filter_eq_self]
    intro q hq
    have := hr.1 q.1 (List.mem_map_of_mem hq)
    simp only [Bool.not_eq_true', beq_eq_false_iff_ne]
    intro e
    rw [e] at this
    exact str_irr _ this
  show ({ a.tick with dir := ddel p.1 a.dir }, (0 : Int)) = _
  rw [this]
end

/-! ### The walk -/
theorem els_lt {α : Type} {val : α → Value} {e : TypeId} {w : World} {a : Option Addr} {l c : Nat} {xs : List α} (h : Els val e w a l c xs) {k : Nat} (hk : rowB a k) : k < w.heap.size := by
  rcases h.2 with ⟨hv, _⟩ | ⟨g, cap, cur, hv, _, hg, _⟩
  · injection hv with h1; subst h1; simp [rowB] at hk
  · injection hv with h1; subst h1; simp [rowB] at hk; subst hk; exact lt_of_heap hg

theorem room_walk (room : Int) (aa : Option Addr) (al ac : Nat) (xs : List ActS) (w : World) (hr0 : 0 ≤ room) (hx : Acts w aa al ac xs) (R : Value → World → Prop) (hR : ∀ w', Mod no w w' → R (.bool true) w') :
    Ca Try.prog 6 #[.int .u64 room, .slice aa al ac] w R := by
  refine ca6 room aa al ac w R ?_
  have hxl := hx.row.len
  have hxm := hx.row.cm
  have hxc := hx.row.lc
  obtain ⟨n, hn, hrn⟩ : ∃ n : Int, (0 ≤ n ∧ n < 200) ∧ IntKind.i64.wrap (Int.tmod room 200) = n := by
    refine ⟨room % 200, by omega, ?_⟩
    rw [Int.tmod_eq_emod_of_nonneg hr0]
    exact wrap64 (by omega) (by omega)
  unfold W6
  rw [hrn]
  refine ⟨by decide, ?_⟩
  refine new_ok n w _ (fun h => by omega) fun _ _ w1 s h1 m1 => ⟨_, rfl, (ifK_of (fun h => by cases h) (fun _ => ?_) : ifK false _ _)⟩
  obtain ⟨F, h1⟩ := SB.new h1 m1
  have r1 : Rm n (AS.new n) := ⟨rfl, rfl, rfl, List.Pairwise.nil, by show (0 : Int) ≤ n; omega⟩
  refine light_ok aa al ac xs w1 (hx.no m1) _ fun w7 b m7 hb => ⟨b, rfl, ?_⟩
  have h7 := h1.no m7
  cases b with
  | false =>
    refine (ifK_of (fun _ => ?_) (fun h => by cases h) : ifK true _ _)
    refine (ifK_of (fun _ => ?_) (fun h => by cases h) : ifK true _ _)
    exact lives_ok w7 _ fun w10 m10 => ⟨_, rfl, hR w10 (h7.mod.trans m10)⟩
  | true =>
  have hb := hb rfl
  refine (ifK_of (fun h => by cases h) (fun _ => ?_) : ifK false _ _)
  refine ⟨fun x w' => ∃ (i : Nat) (F : Nat → Prop) (a : AS), x = i ∧ i ≤ al ∧ SB w w' s F a ∧ Rm n a, fun x _ => ((al : Int) - x).toNat, ⟨0, F, _, rfl, Nat.zero_le _, h7, r1⟩, ?_⟩
  rintro _ _ w16 ⟨i, F, a, rfl, hi, h16, r16⟩
  have e1 : i < al → IntKind.i64.wrap ((i : Int) + 1) = ((i + 1 : Nat) : Int) := fun h => by rw [wrap64 (by omega) (by omega)]; rfl
  refine ifK_dec (fun hlt => ?_) (fun hge => ?_)
  · have hil : i < xs.length := by omega
    rw [e1 (by omega)]
    clear e1
    have next : ∀ {w' : World} {F : Nat → Prop} {a : AS}, SB w w' s F a → Rm n a → (∃ (i' : Nat) (F : Nat → Prop) (a : AS), ((i + 1 : Nat) : Int) = i' ∧ i' ≤ al ∧ SB w w' s F a ∧ Rm n a) ∧ ((al : Int) - ((i + 1 : Nat) : Int)).toNat < ((al : Int) - (i : Int)).toNat :=
      fun h r => ⟨⟨i + 1, _, _, rfl, by omega, h, r⟩, by omega⟩
    have hok := hx.ok xs[i] (List.getElem_mem hil)
    refine copyAct (hx.no h16.mod) i rfl hil fun w38 b38 m38 => ?_
    have h38 := h16.no m38
    generalize xs[i] = x at hok b38
    have hb38 : w38.heap[w16.heap.size]? = some (.cells #[.int .i64 x.kind, .string x.a, .string x.b, .slice x.da x.dl x.dc, .int .i64 x.n, .int .i64 x.m] 48 (0, 0)) := b38
    clear b38
    refine ⟨x.kind, by rw [cl1 hb38]; rfl, ifK_dec (fun _ => next h38 r16) (fun hk0 => ⟨x.kind, by rw [cl1 hb38]; rfl, ifK_dec (fun _ => next h38 r16) (fun hk6 => ?_)⟩)⟩
    refine used_ok h38.st _ fun w42 m42 => ⟨_, rfl, ?_⟩
    have h42 := h38.no m42
    refine count_ok h42.st _ ⟨_, rfl, ?_⟩
    refine names_ok h42.st _ fun w48 p49 n50 n51 hp m48 hpn => ⟨p49, n50, n51, rfl, ?_⟩
    have h48 := h42.no m48
    have b48 := m48.at' (m42.at' hb38)
    have hpF : ∀ k, rowB p49 k → ¬ F k := fun k hk hf => by
      have := h42.hi k hf
      have := hpn k hk
      omega
    have na : x.a.size < 4611686018427387904 := by have := hok.na; omega
    have nb : x.b.size < 4611686018427387904 := by have := hok.nb; omega
    refine ⟨fun e w' => ∃ (F' : Nat → Prop) (a' : AS), SB w w' s F' a' ∧ Step1 n a (a', e) ∧ Strs w' p49 n50 n51 a.names, ?_, ?_⟩
    · have fin : ∀ {r : AS × Int} {w' : World}, StP s F w48 r.1 w' → Step1 n a r → ∃ (F' : Nat → Prop) (a' : AS), SB w w' s F' a' ∧ Step1 n a (a', r.2) ∧ Strs w' p49 n50 n51 a.names := by
        intro r w' hp' hs
        obtain ⟨F', q1, _, q3⟩ := h48.step hp'
        exact ⟨F', r.1, q1, hs, row_mod hp q3 hpF⟩
      refine ⟨x.kind, by rw [cl1 b48]; rfl, ?_⟩
      refine ifK_eq (fun _ => ?_) (fun k0 => ?_)
      · exact ⟨_, by rw [cl1 b48]; rfl, make_ok h48.st _ na _ fun w' hp' => ⟨_, rfl, fin hp' (rm_make r16 h48.st.ok _)⟩⟩
      refine ifK_eq (fun _ => ?_) (fun k1 => ?_)
      · refine ⟨_, by rw [cl1 b48]; rfl, _, _, _, by rw [cl1 b48]; rfl, write_ok h48.st _ na (hok.rd.no h48.mod) (fun h0 k hk hf => ?_) _ fun w' hp' => ⟨_, rfl, fin hp' (rm_write r16 h48.st.ok _ _)⟩⟩
        have := h48.lo k hf
        have := hok.rd.lt h0 k hk
        omega
      refine ifK_eq (fun _ => ?_) (fun k2 => ?_)
      · exact ⟨_, by rw [cl1 b48]; rfl, _, by rw [cl1 b48]; rfl, cut_ok h48.st _ na _ _ fun w' hp' => ⟨_, rfl, fin hp' (rm_cut r16 h48.st.ok _ _)⟩⟩
      refine ifK_eq (fun _ => ?_) (fun k3 => ?_)
      · exact ⟨_, by rw [cl1 b48]; rfl, sync_ok h48.st _ na _ fun w' hp' => ⟨_, rfl, fin hp' (rm_sync r16 h48.st.ok _)⟩⟩
      refine ifK_eq (fun _ => ?_) (fun k4 => ?_)
      · exact ⟨_, by rw [cl1 b48]; rfl, _, by rw [cl1 b48]; rfl, move_ok h48.st _ _ na nb _ fun w' hp' => ⟨_, rfl, fin hp' (rm_move r16 _ _)⟩⟩
      refine ifK_eq (fun _ => ?_) (fun k5 => ?_)
      · exact ⟨_, by rw [cl1 b48]; rfl, drop_ok h48.st _ na _ fun w' hp' => ⟨_, rfl, fin hp' (rm_drop r16 _)⟩⟩
      refine ifK_eq (fun _ => ?_) (fun k6 => ?_)
      · exact commit_ok h48.st _ fun w' hp' => ⟨_, rfl, fin hp' (rm_commit r16)⟩
      · exfalso
        omega
    · rintro _ e w88 ⟨F', a', h88, ⟨ra, hne, heq⟩, hs88⟩
      simp only at ra hne heq
      have hnl := hs88.len.1
      have hnl2 : n50 < 4611686018427387904 := by
        have h1 : a.names.length ≤ a.dir.length := by
          rw [AS.names, r16.dark]
          simp
        have h2 := h16.st.ok.dirN
        omega
      refine used_ok h88.st _ fun w90 m90 => ⟨_, rfl, ?_⟩
      have h90 := h88.no m90
      have hs90 := hs88.no m90
      have hu : a'.used = a'.need := by rw [AS.used, ra.dark]; rfl
      refine ifK_dec (fun hbig => ?_) (fun _ => ?_)
      · exfalso
        have := ra.need
        omega
      have fin : e = 0 → ∀ w', SB w w' s F' a' → Ca Try.prog 29 #[.pointer (some ⟨s, 0, none⟩)] w' fun v w' => ∃ z, v = .int .i64 z ∧ ifK (z != IntKind.i64.wrap (a.count + 1)) (R (.bool false) w') ((∃ (i' : Nat) (F : Nat → Prop) (a : AS), ((i + 1 : Nat) : Int) = i' ∧ i' ≤ al ∧ SB w w' s F a ∧ Rm n a) ∧ ((al : Int) - ((i + 1 : Nat) : Int)).toNat < ((al : Int) - (i : Int)).toNat) := by
        intro he w' hw'
        refine count_ok hw'.st _ ⟨_, rfl, ?_⟩
        rw [heq he]
        refine ifNe (fun h => absurd rfl h) (fun _ => next hw' ra)
      refine ifNe (fun hen => ?_) (fun he => ?_)
      · have ea := hne hen
        subst ea
        refine used_ok h90.st _ fun w93 m93 => ⟨_, rfl, ifNe (fun h => absurd rfl h) (fun _ => ?_)⟩
        have h93 := h90.no m93
        refine count_ok h93.st _ ⟨_, rfl, ifNe (fun h => absurd rfl h) (fun _ => ?_)⟩
        refine names_ok h93.st _ fun w99 p l c hq m99 _ => ⟨p, l, c, rfl, ?_⟩
        have hs99 := (hs90.no m93).no m99
        have hql := hq.len.1
        refine texts_ok hq hs99 (by omega) _ fun w100 m100 => ⟨_, rfl, ?_⟩
        rw [decide_eq_true rfl]
        refine (ifK_of (fun h => by cases h) (fun _ => ?_) : ifK false _ _)
        refine ifK_eq (fun h => absurd h hen) (fun _ => ?_)
        exact next ((h93.no m99).no m100) ra
      · subst he
        refine (ifK_of (fun _ => ?_) (fun h => by cases h) : ifK true _ _)
        exact fin rfl w90 h90
  · refine names_ok h16.st _ fun w253 p l c hq m253 hqn => ⟨p, l, c, rfl, ?_⟩
    have h253 := h16.no m253
    have hnm : a.names = a.dir.map (·.1) := by rw [AS.names, r16.dark]; rfl
    rw [hnm] at hq
    have hql := hq.len.1
    rw [List.length_map] at hql
    have hdn := h16.st.ok.dirN
    have hqF : ∀ k, rowB p k → ¬ F k := fun k hk hf => by
      have := h16.hi k hf
      have := hqn k hk
      omega
    refine ⟨fun x w' => ∃ (i : Nat) (F' : Nat → Prop) (b : AS), x = i ∧ i ≤ l ∧ SB w w' s F' b ∧ Rm n b ∧ b.dir = a.dir.drop i ∧ Strs w' p l c (a.dir.map (·.1)) ∧ ∀ k, rowB p k → ¬ F' k, fun x _ => ((l : Int) - x).toNat, ⟨0, F, a, rfl, Nat.zero_le _, h253, r16, rfl, hq, hqF⟩, ?_⟩
    rintro _ _ w261 ⟨j, F', b, rfl, hj, h261, r261, hd, hq', hqF'⟩
    have e1 : j < l → IntKind.i64.wrap ((j : Int) + 1) = ((j + 1 : Nat) : Int) := fun h => by rw [wrap64 (by omega) (by omega)]; rfl
    refine ifK_dec (fun hlt => ?_) (fun hge => ?_)
    · have hjl : j < a.dir.length := by omega
      rw [e1 (by omega)]
      clear e1
      obtain ⟨q1, q2⟩ := hq'.all (fun _ => rfl)
      cases p with
      | none => have := q2 rfl; omega
      | some ad =>
        refine ⟨ad, rfl, by omega, hlt, (a.dir[j]).1, by rw [Int.toNat_natCast]; exact q1 ad rfl _ _ (by rw [Nat.mul_one]; simp [hjl]), ?_⟩
        have hg : goodB (a.dir[j]).1 = true := h16.st.ok.dirG _ (List.getElem_mem hjl)
        have hsz : (a.dir[j]).1.size < 4611686018427387904 := by
          rw [goodB, Bool.and_eq_true, Bool.and_eq_true] at hg
          have := of_decide_eq_true hg.2.2
          omega
        have hd' : b.dir = a.dir[j] :: a.dir.drop (j + 1) := by rw [hd, List.drop_eq_getElem_cons hjl]
        have hdr := drop_first r261 h261.st.ok hd'
        have hst := rm_drop r261 (a.dir[j]).1
        refine drop_ok h261.st _ hsz _ fun w265 hp => ?_
        rw [hdr] at hp hst ⊢
        obtain ⟨F2, h265, hF2, m265⟩ := h261.step hp
        refine ⟨0, rfl, (ifK_of (fun h => by cases h) (fun _ => ?_) : ifK false _ _)⟩
        refine ⟨⟨j + 1, F2, _, rfl, by omega, h265, hst.1, rfl, row_mod hq' m265 hqF', fun k hk hf => ?_⟩, by simp only; omega⟩
        rcases hF2 k hf with h | h
        · exact hqF' k hk h
        · have := els_lt hq' hk
          omega
    · have hjl : j = a.dir.length := by omega
      have hd0 : b.dir = [] := by rw [hd, hjl, List.drop_length]
      have hu : b.used = 0 := by
        have : b.need = 0 := by rw [AS.need, hd0]; rfl
        rw [AS.used, r261.dark, this]; rfl
      refine used_ok h261.st _ fun w268 m268 => ⟨_, rfl, ?_⟩
      rw [hu]
      refine (ifK_of (fun _ => ?_) (fun h => by cases h) : ifK true _ _)
      exact lives_ok w268 _ fun w271 m271 => ⟨_, rfl, hR w271 ((h261.mod.trans m268).trans m271)⟩
end Go.Proofs.Ytemklabamlifdaa

/- An argument of StoreRoom: a number that is not below 0. -/
namespace Go.Proofs.Ytemklabamlifdaa
open Go Go.ChangeShapes Go.WideShapes Go.Deep Go.Proofs.Ytemklabamlifdaa.St

set_option maxRecDepth 100000 in
theorem args_uint {H : Type} {enc : TypeId × Value → H} {w : World} {v : Value} {d : DataW H} {p : List MemPlace} {base : Nat} {r : Reach} {b0 : Nat} (hv : Value.okWide Try.prog w r b0 39 v) (h : DataW.Trod enc Try.prog w base (fun _ => true) true 39 v d p)
    (_ : ∀ n ∈ d.weights Try.prog 39, n ≤ reachBytes) : ∃ n : Int, v = .int .u64 n ∧ 0 ≤ n := by
  obtain ⟨n, rfl⟩ := okWide_int Try.underlying39 hv
  obtain ⟨fuel, hf⟩ := h
  obtain ⟨m, e, _, hwf⟩ := DataW.trod_int Try.underlying39 hf
  simp only [Value.cells, List.cons.injEq, and_true] at e
  injection e with _ e
  subst e
  have hwf : (decide ((0 : Int) ≤ n) && decide (n ≤ 18446744073709551615)) = true := hwf
  rw [Bool.and_eq_true, decide_eq_true_iff, decide_eq_true_iff] at hwf
  exact ⟨n, rfl, hwf.1⟩
end Go.Proofs.Ytemklabamlifdaa
