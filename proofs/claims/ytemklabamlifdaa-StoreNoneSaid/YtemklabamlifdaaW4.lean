/- Parts of the proof of StoreNone. -/
import Derived.Test.YtemklabamlifdaaCore9
import Derived.Test.YtemklabamlifdaaProg
import Derived.Lib.SlBytesConst
import Derived.Test.YtemklabamlifdaaLib
import Derived.Deep.Slices
import Derived.Deep.Fields
import Derived.ChangeSame
import Derived.Below
import Derived.SizedLaws
import Derived.Test.YtemklabamlifdaaW3
/- The formulas of functions, printed by a program of mine (gen.py) out of the translation. -/
namespace Go.Proofs.Ytemklabamlifdaa
open Go Go.Proofs.Ytemklabamlifdaa.St
set_option maxRecDepth 100000

/-- staith/staithlaw11.lives -/
noncomputable def C12 : Code := (Try.f12.body).getD .skip
def pl12 : Nat → Plan := fun _ => .done
def ls12 : Nat → List (Nat × LT) := fun _ => []
def W12 (w : World) (R : Value → World → Prop) : Prop :=
  (Ca Try.prog (13) (Array.mk [Value.int IntKind.i64 100]) (w) (fun v0 => (fun w1 =>
    (∃ p2 : Option Addr, ((v0 = Value.pointer p2) ∧ (ifK (Option.isNone p2)
      (R (Value.bool false) (w1))
      (Ca Try.prog (14) (Array.mk [Value.pointer p2, Value.string (ByteArray.mk #[97])]) (w1) (fun v3 => (fun w4 =>
        (∃ x5 : Int, ((v3 = Value.int IntKind.i64 x5) ∧ (ifK (x5 != 0)
          (R (Value.bool false) (w4))
          (atW (World.alloc w4 (Obj.cells (Array.mk [Value.int IntKind.u8 120, Value.int IntKind.u8 121]) 5 (0, 0))) (fun w6 =>
            (∃ v7 : Value, (∃ w8 : World, ((Sem.run Try.prog (convert 24 24 (Value.slice (some (Addr.mk (Array.size (World.heap w4)) 0 none)) 2 2)) w6 = Result.ok v7 w8) ∧ (∃ p9 : Option Addr, (∃ n10 : Nat, (∃ n11 : Nat, ((v7 = Value.slice p9 n10 n11) ∧ (Ca Try.prog (15) (Array.mk [Value.pointer p2, Value.string (ByteArray.mk #[97]), Value.slice p9 n10 n11]) (w8) (fun v12 => (fun w13 =>
              (∃ x14 : Int, ((v12 = Value.int IntKind.i64 x14) ∧ (ifK (x14 != 0)
                (R (Value.bool false) (w13))
                (Ca Try.prog (16) (Array.mk [Value.pointer p2, Value.string (ByteArray.mk #[97])]) (w13) (fun v15 => (fun w16 =>
                  (∃ x17 : Int, ((v15 = Value.int IntKind.i64 x17) ∧ (ifK (x17 != 0)
                    (R (Value.bool false) (w16))
                    (Ca Try.prog (18) (Array.mk [Value.pointer p2, Value.int IntKind.i64 0]) (w16) (fun v18 => (fun w19 =>
                      ((v18 = Value.tuple (Array.mk (List.reverse []))) ∧ (Ca Try.prog (19) (Array.mk [Value.pointer p2]) (w19) (fun v20 => (fun w21 =>
                        ((v20 = Value.tuple (Array.mk (List.reverse []))) ∧ (Ca Try.prog (23) (Array.mk [Value.pointer p2]) (w21) (fun v22 => (fun w23 =>
                          (∃ p24 : Option Addr, (∃ n25 : Nat, (∃ n26 : Nat, ((v22 = Value.slice p24 n25 n26) ∧ (ifK ((↑n25 : Int) != 0)
                            (R (Value.bool false) (w23))
                            (Ca Try.prog (14) (Array.mk [Value.pointer p2, Value.string (ByteArray.mk #[97])]) (w23) (fun v27 => (fun w28 =>
                              (∃ x29 : Int, ((v27 = Value.int IntKind.i64 x29) ∧ (ifK (x29 != 0)
                                (R (Value.bool false) (w28))
                                (atW (World.alloc w28 (Obj.cells (Array.mk [Value.int IntKind.u8 120, Value.int IntKind.u8 121]) 5 (0, 0))) (fun w30 =>
                                  (∃ v31 : Value, (∃ w32 : World, ((Sem.run Try.prog (convert 24 24 (Value.slice (some (Addr.mk (Array.size (World.heap w28)) 0 none)) 2 2)) w30 = Result.ok v31 w32) ∧ (∃ p33 : Option Addr, (∃ n34 : Nat, (∃ n35 : Nat, ((v31 = Value.slice p33 n34 n35) ∧ (Ca Try.prog (15) (Array.mk [Value.pointer p2, Value.string (ByteArray.mk #[97]), Value.slice p33 n34 n35]) (w32) (fun v36 => (fun w37 =>
                                    (∃ x38 : Int, ((v36 = Value.int IntKind.i64 x38) ∧ (ifK (x38 != 0)
                                      (R (Value.bool false) (w37))
                                      (Ca Try.prog (16) (Array.mk [Value.pointer p2, Value.string (ByteArray.mk #[97])]) (w37) (fun v39 => (fun w40 =>
                                        (∃ x41 : Int, ((v39 = Value.int IntKind.i64 x41) ∧ (ifK (x41 != 0)
                                          (R (Value.bool false) (w40))
                                          (Ca Try.prog (17) (Array.mk [Value.pointer p2]) (w40) (fun v42 => (fun w43 =>
                                            (∃ x44 : Int, ((v42 = Value.int IntKind.i64 x44) ∧ (ifK (x44 != 0)
                                              (R (Value.bool false) (w43))
                                              (atW (World.alloc w43 (Obj.cells (Array.mk [Value.int IntKind.u8 122, Value.int IntKind.u8 122]) 5 (0, 0))) (fun w45 =>
                                                (∃ v46 : Value, (∃ w47 : World, ((Sem.run Try.prog (convert 24 24 (Value.slice (some (Addr.mk (Array.size (World.heap w43)) 0 none)) 2 2)) w45 = Result.ok v46 w47) ∧ (∃ p48 : Option Addr, (∃ n49 : Nat, (∃ n50 : Nat, ((v46 = Value.slice p48 n49 n50) ∧ (Ca Try.prog (15) (Array.mk [Value.pointer p2, Value.string (ByteArray.mk #[97]), Value.slice p48 n49 n50]) (w47) (fun v51 => (fun w52 =>
                                                  (∃ x53 : Int, ((v51 = Value.int IntKind.i64 x53) ∧ (ifK (x53 != 0)
                                                    (R (Value.bool false) (w52))
                                                    (Ca Try.prog (18) (Array.mk [Value.pointer p2, Value.int IntKind.i64 1]) (w52) (fun v54 => (fun w55 =>
                                                      ((v54 = Value.tuple (Array.mk (List.reverse []))) ∧ (Ca Try.prog (26) (Array.mk [Value.pointer p2]) (w55) (fun v56 => (fun w57 =>
                                                        (∃ b58 : Bool, ((v56 = Value.bool b58) ∧ (ifK (b58)
                                                          (R (Value.bool false) (w57))
                                                          (Ca Try.prog (14) (Array.mk [Value.pointer p2, Value.string (ByteArray.mk #[98])]) (w57) (fun v59 => (fun w60 =>
                                                            (∃ x61 : Int, ((v59 = Value.int IntKind.i64 x61) ∧ (ifK (x61 != 9)
                                                              (R (Value.bool false) (w60))
                                                              (Ca Try.prog (19) (Array.mk [Value.pointer p2]) (w60) (fun v62 => (fun w63 =>
                                                                ((v62 = Value.tuple (Array.mk (List.reverse []))) ∧ (Ca Try.prog (20) (Array.mk [Value.pointer p2, Value.string (ByteArray.mk #[97])]) (w63) (fun v64 => (fun w65 =>
                                                                  (∃ p66 : Option Addr, (∃ n67 : Nat, (∃ n68 : Nat, (∃ x69 : Int, ((v64 = Value.tuple (Array.mk (List.reverse [Value.int IntKind.i64 x69, Value.slice p66 n67 n68]))) ∧ (ifK (x69 == 0)
                                                                    (∃ v70 : Value, (∃ w71 : World, ((Sem.run Try.prog (convert 24 9 (Value.slice p66 n67 n68)) w65 = Result.ok v70 w71) ∧ (∃ s72 : ByteArray, ((v70 = Value.string s72) ∧ (ifK (ByteArray.toList s72 == ByteArray.toList (ByteArray.mk #[120, 121, 122]))
                                                                      (Ca Try.prog (28) (Array.mk [Value.pointer p2]) (w71) (fun v73 => (fun w74 =>
                                                                        (∃ x75 : Int, ((v73 = Value.int IntKind.i64 x75) ∧ (R (Value.bool (x75 == 19)) (w74)))))))
                                                                      (R (Value.bool false) (w71))))))))
                                                                    (R (Value.bool false) (w65))))))))))))))))))))))))))))))))))))))))))))))))))))))))))))))))))))))))))))))))))))))))))))))))))))))))))))))))))))))))))))))))
theorem ca12 (w : World) (R : Value → World → Prop) (h : W12  w R) : Ca Try.prog 12 ⟨[]⟩ w R := by
  have h1 : Try.prog.follows .mixedOrders = true := by kernel_rfl
  have h2 : Try.f12.body = some C12 := by kernel_rfl
  have h3 : (Try.f12.name == "runtime.NumGoroutine") = false := by kernel_rfl
  have h6 : Try.f12.results.toList = [.tmp 0] := by kernel_rfl
  have h4 : Nat.ble 0 89 = true := by kernel_rfl
  have h5 : okCode 89 pl12 ls12 C12 0 = true := by kernel_rfl
  have e : W12  w R = wpC none Try.prog 89 pl12 ls12 C12 0 (endP Try.prog [.tmp 0] R) (fr0 []) [] w := by kernel_rfl
  exact ca_of' (P := Try.prog) (g := 12) (fn := Try.f12) (c := C12) (m := 89) (rs := [.tmp 0]) (args := []) (pl := pl12) (ls := ls12) (w := w) (R := R) h1 Try.func12 h2 Try.ntmps12 h6 h3 h4 h5 (Eq.mp e h)

/-- staith/staithlaw11.StoreNames -/
noncomputable def C3 : Code := (Try.f3.body).getD .skip
def pl3 : Nat → Plan := fun _ => .done
def ls3 : Nat → List (Nat × LT) := fun _ => []
def W3 (name : ByteArray) (w : World) (R : Value → World → Prop) : Prop :=
  (ifK (decide ((↑(ByteArray.size name) : Int) > 1000))
    (R (Value.bool true) (w))
    (Ca Try.prog (10) (Array.mk [Value.string name]) (w) (fun v0 => (fun w1 =>
      (∃ b2 : Bool, ((v0 = Value.bool b2) ∧ (Ca Try.prog (11) (Array.mk [Value.string name]) (w1) (fun v3 => (fun w4 =>
        (∃ b5 : Bool, ((v3 = Value.bool b5) ∧ (ifK (b2 == b5)
          (Ca Try.prog (12) (Array.mk []) (w4) (fun v6 => (fun w7 =>
            (∃ b8 : Bool, ((v6 = Value.bool b8) ∧ (R (Value.bool b8) (w7)))))))
          (R (Value.bool false) (w4))))))))))))))
theorem ca3 (name : ByteArray) (w : World) (R : Value → World → Prop) (h : W3 name w R) : Ca Try.prog 3 ⟨[(.string name)]⟩ w R := by
  have h1 : Try.prog.follows .mixedOrders = true := by kernel_rfl
  have h2 : Try.f3.body = some C3 := by kernel_rfl
  have h3 : (Try.f3.name == "runtime.NumGoroutine") = false := by kernel_rfl
  have h6 : Try.f3.results.toList = [.tmp 2] := by kernel_rfl
  have h4 : Nat.ble 1 16 = true := by kernel_rfl
  have h5 : okCode 16 pl3 ls3 C3 0 = true := by kernel_rfl
  have e : W3 name w R = wpC none Try.prog 16 pl3 ls3 C3 0 (endP Try.prog [.tmp 2] R) (fr0 [(.string name)]) [] w := by kernel_rfl
  exact ca_of' (P := Try.prog) (g := 3) (fn := Try.f3) (c := C3) (m := 16) (rs := [.tmp 2]) (args := [(.string name)]) (pl := pl3) (ls := ls3) (w := w) (R := R) h1 Try.func3 h2 Try.ntmps3 h6 h3 h4 h5 (Eq.mp e h)

/-- staith/staithlaw11.StoreKeeps -/
noncomputable def C4 : Code := (Try.f4.body).getD .skip
def pl4 : Nat → Plan
  | 14 => (.quiet 0 (.quiet 1 (.quiet 2 (.quiet 3 (.quiet 5 (.quiet 7 (.quiet 8 (.quiet 9 (.eff 4 [] (.eff 6 [] (.eff 10 [] (.eff 11 [] (.quiet 12 (.quiet 13 (.quiet 14 (.fork (.eff 15 [] (.eff 16 [] (.eff 17 [] (.quiet 18 (.quiet 19 (.eff 20 [] (.quiet 21 (.quiet 22 .done)))))))) (.eff 16 [] (.eff 15 [] (.eff 17 [] (.quiet 18 (.quiet 19 (.eff 20 [] (.quiet 21 (.quiet 22 .done))))))))))))))))))))))))
  | _ => .done
def ls4 : Nat → List (Nat × LT) := fun _ => []
def W4 (firsta : Option Addr) (firstl : Nat) (firstc : Nat) (morea : Option Addr) (morel : Nat) (morec : Nat) (keep : Int) (w : World) (R : Value → World → Prop) : Prop :=
  (ifK (decide (IntKind.wrap IntKind.i64 ((↑firstl : Int) + (↑morel : Int)) > 5000))
    (Ca Try.prog (12) (Array.mk []) (w) (fun v0 => (fun w1 =>
      (∃ b2 : Bool, ((v0 = Value.bool b2) ∧ (R (Value.bool b2) (w1)))))))
    (Ca Try.prog (13) (Array.mk [Value.int IntKind.i64 100000]) (w) (fun v3 => (fun w4 =>
      (∃ p5 : Option Addr, ((v3 = Value.pointer p5) ∧ (ifK (Option.isNone p5)
        (R (Value.bool false) (w4))
        (Ca Try.prog (14) (Array.mk [Value.pointer p5, Value.string (ByteArray.mk #[97])]) (w4) (fun v6 => (fun w7 =>
          (∃ x8 : Int, ((v6 = Value.int IntKind.i64 x8) ∧ (ifK (x8 != 0)
            (R (Value.bool false) (w7))
            (Ca Try.prog (15) (Array.mk [Value.pointer p5, Value.string (ByteArray.mk #[97]), Value.slice firsta firstl firstc]) (w7) (fun v9 => (fun w10 =>
              (∃ x11 : Int, ((v9 = Value.int IntKind.i64 x11) ∧ (ifK (x11 != 0)
                (R (Value.bool false) (w10))
                (Ca Try.prog (16) (Array.mk [Value.pointer p5, Value.string (ByteArray.mk #[97])]) (w10) (fun v12 => (fun w13 =>
                  (∃ x14 : Int, ((v12 = Value.int IntKind.i64 x14) ∧ (ifK (x14 != 0)
                    (R (Value.bool false) (w13))
                    (Ca Try.prog (17) (Array.mk [Value.pointer p5]) (w13) (fun v15 => (fun w16 =>
                      (∃ x17 : Int, ((v15 = Value.int IntKind.i64 x17) ∧ (ifK (x17 != 0)
                        (R (Value.bool false) (w16))
                        (Ca Try.prog (15) (Array.mk [Value.pointer p5, Value.string (ByteArray.mk #[97]), Value.slice morea morel morec]) (w16) (fun v18 => (fun w19 =>
                          (∃ x20 : Int, ((v18 = Value.int IntKind.i64 x20) ∧ (ifK (x20 != 0)
                            (R (Value.bool false) (w19))
                            (Ca Try.prog (14) (Array.mk [Value.pointer p5, Value.string (ByteArray.mk #[98])]) (w19) (fun v21 => (fun w22 =>
                              (∃ x23 : Int, ((v21 = Value.int IntKind.i64 x23) ∧ (ifK (x23 != 0)
                                (R (Value.bool false) (w22))
                                (Ca Try.prog (16) (Array.mk [Value.pointer p5, Value.string (ByteArray.mk #[98])]) (w22) (fun v24 => (fun w25 =>
                                  (∃ x26 : Int, ((v24 = Value.int IntKind.i64 x26) ∧ (ifK (x26 != 0)
                                    (R (Value.bool false) (w25))
                                    (Ca Try.prog (18) (Array.mk [Value.pointer p5, Value.int IntKind.i64 keep]) (w25) (fun v27 => (fun w28 =>
                                      ((v27 = Value.tuple (Array.mk (List.reverse []))) ∧ (Ca Try.prog (19) (Array.mk [Value.pointer p5]) (w28) (fun v29 => (fun w30 =>
                                        ((v29 = Value.tuple (Array.mk (List.reverse []))) ∧ (Ca Try.prog (20) (Array.mk [Value.pointer p5, Value.string (ByteArray.mk #[97])]) (w30) (fun v31 => (fun w32 =>
                                          (∃ p33 : Option Addr, (∃ n34 : Nat, (∃ n35 : Nat, (∃ x36 : Int, ((v31 = Value.tuple (Array.mk (List.reverse [Value.int IntKind.i64 x36, Value.slice p33 n34 n35]))) ∧ (ifK (decide (keep < 0))
                                            (atW (World.drew w32) (fun w37 =>
                                              (ifK (x36 == 0)
                                                (((0 : Int) ≤ 0) ∧ (((0 : Int) ≤ 0) ∧ (((0 : Int) ≤ (↑morec : Int)) ∧ (atW (World.alloc w37 (Obj.cells (Array.mk []) 5 (0, 0))) (fun w38 =>
                                                  (∃ v39 : Value, (∃ w40 : World, ((Sem.run Try.prog (Builtin.append_ (Array.mk [24, 24]) 24 (Array.mk [Value.slice (some (Addr.mk (Array.size (World.heap w37)) 0 none)) 0 0, Value.slice firsta firstl firstc])) w38 = Result.ok v39 w40) ∧ (∃ p41 : Option Addr, (∃ n42 : Nat, (∃ n43 : Nat, ((v39 = Value.slice p41 n42 n43) ∧ (∃ v44 : Value, (∃ w45 : World, ((Sem.run Try.prog (Builtin.append_ (Array.mk [24, 24]) 24 (Array.mk [Value.slice p41 n42 n43, Value.slice (if morec = 0 then morea else Option.map (fun x => Addr.add x 0) morea) 0 (morec - 0)])) w40 = Result.ok v44 w45) ∧ (∃ p46 : Option Addr, (∃ n47 : Nat, (∃ n48 : Nat, ((v44 = Value.slice p46 n47 n48) ∧ (Ca Try.prog (21) (Array.mk [Value.slice p33 n34 n35, Value.slice p46 n47 n48]) (w45) (fun v49 => (fun w50 =>
                                                    (∃ b51 : Bool, ((v49 = Value.bool b51) ∧ (ifK (b51)
                                                      ((Ca Try.prog (23) (Array.mk [Value.pointer p5]) (w50) (fun v52 => (fun w53 =>
                                                        (∃ p54 : Option Addr, (∃ n55 : Nat, (∃ n56 : Nat, ((v52 = Value.slice p54 n55 n56) ∧ (atW (World.alloc w53 (Obj.cells (Array.mk [Value.string (ByteArray.mk #[97])]) 9 (0, 0))) (fun w57 =>
                                                          (Ca Try.prog (22) (Array.mk [Value.slice p54 n55 n56, Value.slice (some (Addr.mk (Array.size (World.heap w53)) 0 none)) 1 1]) (w57) (fun v58 => (fun w59 =>
                                                            (∃ b60 : Bool, ((v58 = Value.bool b60) ∧ (ifK (b60)
                                                              (Ca Try.prog (12) (Array.mk []) (w59) (fun v61 => (fun w62 =>
                                                                (∃ b63 : Bool, ((v61 = Value.bool b63) ∧ (R (Value.bool b63) (w62)))))))
                                                              (R (Value.bool false) (w59))))))))))))))))) ∧ (atW (World.alloc w50 (Obj.cells (Array.mk [Value.string (ByteArray.mk #[97])]) 9 (0, 0))) (fun w64 =>
                                                        (Ca Try.prog (23) (Array.mk [Value.pointer p5]) (w64) (fun v65 => (fun w66 =>
                                                          (∃ p67 : Option Addr, (∃ n68 : Nat, (∃ n69 : Nat, ((v65 = Value.slice p67 n68 n69) ∧ (Ca Try.prog (22) (Array.mk [Value.slice p67 n68 n69, Value.slice (some (Addr.mk (Array.size (World.heap w50)) 0 none)) 1 1]) (w66) (fun v70 => (fun w71 =>
                                                            (∃ b72 : Bool, ((v70 = Value.bool b72) ∧ (ifK (b72)
                                                              (Ca Try.prog (12) (Array.mk []) (w71) (fun v73 => (fun w74 =>
                                                                (∃ b75 : Bool, ((v73 = Value.bool b75) ∧ (R (Value.bool b75) (w74)))))))
                                                              (R (Value.bool false) (w71))))))))))))))))))
                                                      ((R (Value.bool false) (w50)) ∧ (R (Value.bool false) (w50))))))))))))))))))))))))))))
                                                ((R (Value.bool false) (w37)) ∧ (R (Value.bool false) (w37))))))
                                            (ifK (decide (keep > (↑morel : Int)))
                                              (atW (World.drew w32) (fun w76 =>
                                                (ifK (x36 == 0)
                                                  (((0 : Int) ≤ 0) ∧ (((0 : Int) ≤ (↑morel : Int)) ∧ ((((↑morel : Int) : Int) ≤ (↑morec : Int)) ∧ (atW (World.alloc w76 (Obj.cells (Array.mk []) 5 (0, 0))) (fun w77 =>
                                                    (∃ v78 : Value, (∃ w79 : World, ((Sem.run Try.prog (Builtin.append_ (Array.mk [24, 24]) 24 (Array.mk [Value.slice (some (Addr.mk (Array.size (World.heap w76)) 0 none)) 0 0, Value.slice firsta firstl firstc])) w77 = Result.ok v78 w79) ∧ (∃ p80 : Option Addr, (∃ n81 : Nat, (∃ n82 : Nat, ((v78 = Value.slice p80 n81 n82) ∧ (∃ v83 : Value, (∃ w84 : World, ((Sem.run Try.prog (Builtin.append_ (Array.mk [24, 24]) 24 (Array.mk [Value.slice p80 n81 n82, Value.slice (if morec = 0 then morea else Option.map (fun x => Addr.add x 0) morea) (Int.toNat (↑morel : Int) - 0) (morec - 0)])) w79 = Result.ok v83 w84) ∧ (∃ p85 : Option Addr, (∃ n86 : Nat, (∃ n87 : Nat, ((v83 = Value.slice p85 n86 n87) ∧ (Ca Try.prog (21) (Array.mk [Value.slice p33 n34 n35, Value.slice p85 n86 n87]) (w84) (fun v88 => (fun w89 =>
                                                      (∃ b90 : Bool, ((v88 = Value.bool b90) ∧ (ifK (b90)
                                                        ((Ca Try.prog (23) (Array.mk [Value.pointer p5]) (w89) (fun v91 => (fun w92 =>
                                                          (∃ p93 : Option Addr, (∃ n94 : Nat, (∃ n95 : Nat, ((v91 = Value.slice p93 n94 n95) ∧ (atW (World.alloc w92 (Obj.cells (Array.mk [Value.string (ByteArray.mk #[97])]) 9 (0, 0))) (fun w96 =>
                                                            (Ca Try.prog (22) (Array.mk [Value.slice p93 n94 n95, Value.slice (some (Addr.mk (Array.size (World.heap w92)) 0 none)) 1 1]) (w96) (fun v97 => (fun w98 =>
                                                              (∃ b99 : Bool, ((v97 = Value.bool b99) ∧ (ifK (b99)
                                                                (Ca Try.prog (12) (Array.mk []) (w98) (fun v100 => (fun w101 =>
                                                                  (∃ b102 : Bool, ((v100 = Value.bool b102) ∧ (R (Value.bool b102) (w101)))))))
                                                                (R (Value.bool false) (w98))))))))))))))))) ∧ (atW (World.alloc w89 (Obj.cells (Array.mk [Value.string (ByteArray.mk #[97])]) 9 (0, 0))) (fun w103 =>
                                                          (Ca Try.prog (23) (Array.mk [Value.pointer p5]) (w103) (fun v104 => (fun w105 =>
                                                            (∃ p106 : Option Addr, (∃ n107 : Nat, (∃ n108 : Nat, ((v104 = Value.slice p106 n107 n108) ∧ (Ca Try.prog (22) (Array.mk [Value.slice p106 n107 n108, Value.slice (some (Addr.mk (Array.size (World.heap w89)) 0 none)) 1 1]) (w105) (fun v109 => (fun w110 =>
                                                              (∃ b111 : Bool, ((v109 = Value.bool b111) ∧ (ifK (b111)
                                                                (Ca Try.prog (12) (Array.mk []) (w110) (fun v112 => (fun w113 =>
                                                                  (∃ b114 : Bool, ((v112 = Value.bool b114) ∧ (R (Value.bool b114) (w113)))))))
                                                                (R (Value.bool false) (w110))))))))))))))))))
                                                        ((R (Value.bool false) (w89)) ∧ (R (Value.bool false) (w89))))))))))))))))))))))))))))
                                                  ((R (Value.bool false) (w76)) ∧ (R (Value.bool false) (w76))))))
                                              (atW (World.drew w32) (fun w115 =>
                                                (ifK (x36 == 0)
                                                  (((0 : Int) ≤ 0) ∧ (((0 : Int) ≤ keep) ∧ (((keep : Int) ≤ (↑morec : Int)) ∧ (atW (World.alloc w115 (Obj.cells (Array.mk []) 5 (0, 0))) (fun w116 =>
                                                    (∃ v117 : Value, (∃ w118 : World, ((Sem.run Try.prog (Builtin.append_ (Array.mk [24, 24]) 24 (Array.mk [Value.slice (some (Addr.mk (Array.size (World.heap w115)) 0 none)) 0 0, Value.slice firsta firstl firstc])) w116 = Result.ok v117 w118) ∧ (∃ p119 : Option Addr, (∃ n120 : Nat, (∃ n121 : Nat, ((v117 = Value.slice p119 n120 n121) ∧ (∃ v122 : Value, (∃ w123 : World, ((Sem.run Try.prog (Builtin.append_ (Array.mk [24, 24]) 24 (Array.mk [Value.slice p119 n120 n121, Value.slice (if morec = 0 then morea else Option.map (fun x => Addr.add x 0) morea) (Int.toNat keep - 0) (morec - 0)])) w118 = Result.ok v122 w123) ∧ (∃ p124 : Option Addr, (∃ n125 : Nat, (∃ n126 : Nat, ((v122 = Value.slice p124 n125 n126) ∧ (Ca Try.prog (21) (Array.mk [Value.slice p33 n34 n35, Value.slice p124 n125 n126]) (w123) (fun v127 => (fun w128 =>
                                                      (∃ b129 : Bool, ((v127 = Value.bool b129) ∧ (ifK (b129)
                                                        ((Ca Try.prog (23) (Array.mk [Value.pointer p5]) (w128) (fun v130 => (fun w131 =>
                                                          (∃ p132 : Option Addr, (∃ n133 : Nat, (∃ n134 : Nat, ((v130 = Value.slice p132 n133 n134) ∧ (atW (World.alloc w131 (Obj.cells (Array.mk [Value.string (ByteArray.mk #[97])]) 9 (0, 0))) (fun w135 =>
                                                            (Ca Try.prog (22) (Array.mk [Value.slice p132 n133 n134, Value.slice (some (Addr.mk (Array.size (World.heap w131)) 0 none)) 1 1]) (w135) (fun v136 => (fun w137 =>
                                                              (∃ b138 : Bool, ((v136 = Value.bool b138) ∧ (ifK (b138)
                                                                (Ca Try.prog (12) (Array.mk []) (w137) (fun v139 => (fun w140 =>
                                                                  (∃ b141 : Bool, ((v139 = Value.bool b141) ∧ (R (Value.bool b141) (w140)))))))
                                                                (R (Value.bool false) (w137))))))))))))))))) ∧ (atW (World.alloc w128 (Obj.cells (Array.mk [Value.string (ByteArray.mk #[97])]) 9 (0, 0))) (fun w142 =>
                                                          (Ca Try.prog (23) (Array.mk [Value.pointer p5]) (w142) (fun v143 => (fun w144 =>
                                                            (∃ p145 : Option Addr, (∃ n146 : Nat, (∃ n147 : Nat, ((v143 = Value.slice p145 n146 n147) ∧ (Ca Try.prog (22) (Array.mk [Value.slice p145 n146 n147, Value.slice (some (Addr.mk (Array.size (World.heap w128)) 0 none)) 1 1]) (w144) (fun v148 => (fun w149 =>
                                                              (∃ b150 : Bool, ((v148 = Value.bool b150) ∧ (ifK (b150)
                                                                (Ca Try.prog (12) (Array.mk []) (w149) (fun v151 => (fun w152 =>
                                                                  (∃ b153 : Bool, ((v151 = Value.bool b153) ∧ (R (Value.bool b153) (w152)))))))
                                                                (R (Value.bool false) (w149))))))))))))))))))
                                                        ((R (Value.bool false) (w128)) ∧ (R (Value.bool false) (w128))))))))))))))))))))))))))))
                                                  ((R (Value.bool false) (w115)) ∧ (R (Value.bool false) (w115)))))))))))))))))))))))))))))))))))))))))))))))))))))))))))))))))))))))))
theorem ca4 (firsta : Option Addr) (firstl : Nat) (firstc : Nat) (morea : Option Addr) (morel : Nat) (morec : Nat) (keep : Int) (w : World) (R : Value → World → Prop) (h : W4 firsta firstl firstc morea morel morec keep w R) : Ca Try.prog 4 ⟨[(.slice firsta firstl firstc), (.slice morea morel morec), (.int .i64 keep)]⟩ w R := by
  have h1 : Try.prog.follows .mixedOrders = true := by kernel_rfl
  have h2 : Try.f4.body = some C4 := by kernel_rfl
  have h3 : (Try.f4.name == "runtime.NumGoroutine") = false := by kernel_rfl
  have h6 : Try.f4.results.toList = [.tmp 6] := by kernel_rfl
  have h4 : Nat.ble 3 99 = true := by kernel_rfl
  have h5 : okCode 99 pl4 ls4 C4 0 = true := by kernel_rfl
  have e : W4 firsta firstl firstc morea morel morec keep w R = wpC none Try.prog 99 pl4 ls4 C4 0 (endP Try.prog [.tmp 6] R) (fr0 [(.slice firsta firstl firstc), (.slice morea morel morec), (.int .i64 keep)]) [] w := by kernel_rfl
  exact ca_of' (P := Try.prog) (g := 4) (fn := Try.f4) (c := C4) (m := 99) (rs := [.tmp 6]) (args := [(.slice firsta firstl firstc), (.slice morea morel morec), (.int .i64 keep)]) (pl := pl4) (ls := ls4) (w := w) (R := R) h1 Try.func4 h2 Try.ntmps4 h6 h3 h4 h5 (Eq.mp e h)

/-- staith/staithlaw11.StoreTurns -/
noncomputable def C5 : Code := (Try.f5.body).getD .skip
def pl5 : Nat → Plan := fun _ => .done
def ls5 : Nat → List (Nat × LT) := fun _ => []
def W5 (olda : Option Addr) (oldl : Nat) (oldc : Nat) (fresha : Option Addr) (freshl : Nat) (freshc : Nat) (x0_ : Int) (x1_ : Int) (w : World) (R : Value → World → Prop) : Prop :=
  (atW (World.alloc w (Obj.cells (Array.mk [Value.int IntKind.u64 x0_, Value.int IntKind.i64 x1_]) 41 (0, 0))) (fun w0 =>
    (ifK (decide (IntKind.wrap IntKind.i64 ((↑oldl : Int) + (↑freshl : Int)) > 5000))
      (Ca Try.prog (12) (Array.mk []) (w0) (fun v1 => (fun w2 =>
        (∃ b3 : Bool, ((v1 = Value.bool b3) ∧ (R (Value.bool b3) (w2)))))))
      (Ca Try.prog (13) (Array.mk [Value.int IntKind.i64 100000]) (w0) (fun v4 => (fun w5 =>
        (∃ p6 : Option Addr, ((v4 = Value.pointer p6) ∧ (ifK (Option.isNone p6)
          (R (Value.bool false) (w5))
          (Ca Try.prog (14) (Array.mk [Value.pointer p6, Value.string (ByteArray.mk #[97])]) (w5) (fun v7 => (fun w8 =>
            (∃ x9 : Int, ((v7 = Value.int IntKind.i64 x9) ∧ (ifK (x9 != 0)
              (R (Value.bool false) (w8))
              (Ca Try.prog (15) (Array.mk [Value.pointer p6, Value.string (ByteArray.mk #[97]), Value.slice olda oldl oldc]) (w8) (fun v10 => (fun w11 =>
                (∃ x12 : Int, ((v10 = Value.int IntKind.i64 x12) ∧ (ifK (x12 != 0)
                  (R (Value.bool false) (w11))
                  (Ca Try.prog (16) (Array.mk [Value.pointer p6, Value.string (ByteArray.mk #[97])]) (w11) (fun v13 => (fun w14 =>
                    (∃ x15 : Int, ((v13 = Value.int IntKind.i64 x15) ∧ (ifK (x15 != 0)
                      (R (Value.bool false) (w14))
                      (Ca Try.prog (17) (Array.mk [Value.pointer p6]) (w14) (fun v16 => (fun w17 =>
                        (∃ x18 : Int, ((v16 = Value.int IntKind.i64 x18) ∧ (ifK (x18 != 0)
                          (R (Value.bool false) (w17))
                          (∃ x19 : Int, ((World.cell? w17 (Addr.add (Addr.mk (Array.size (World.heap w)) 0 none) 0) = some (Value.int IntKind.u64 x19)) ∧ (((7 : Int) ≠ 0) ∧ (∃ x20 : Int, ((World.cell? w17 (Addr.add (Addr.mk (Array.size (World.heap w)) 0 none) 1) = some (Value.int IntKind.i64 x20)) ∧ (Ca Try.prog (24) (Array.mk [Value.pointer p6, Value.int IntKind.i64 (IntKind.wrap IntKind.i64 (Int.tmod x19 7)), Value.int IntKind.i64 x20]) (w17) (fun v21 => (fun w22 =>
                            (∃ x23 : Int, ((v21 = Value.int IntKind.i64 x23) ∧ (ifK (x23 != 0)
                              (R (Value.bool false) (w22))
                              (Ca Try.prog (14) (Array.mk [Value.pointer p6, Value.string (ByteArray.mk #[98])]) (w22) (fun v24 => (fun w25 =>
                                (∃ x26 : Int, ((v24 = Value.int IntKind.i64 x26) ∧ (Ca Try.prog (15) (Array.mk [Value.pointer p6, Value.string (ByteArray.mk #[98]), Value.slice fresha freshl freshc]) (w25) (fun v27 => (fun w28 =>
                                  (∃ x29 : Int, ((v27 = Value.int IntKind.i64 x29) ∧ (Ca Try.prog (16) (Array.mk [Value.pointer p6, Value.string (ByteArray.mk #[98])]) (w28) (fun v30 => (fun w31 =>
                                    (∃ x32 : Int, ((v30 = Value.int IntKind.i64 x32) ∧ (Ca Try.prog (25) (Array.mk [Value.pointer p6, Value.string (ByteArray.mk #[98]), Value.string (ByteArray.mk #[97])]) (w31) (fun v33 => (fun w34 =>
                                      (∃ x35 : Int, ((v33 = Value.int IntKind.i64 x35) ∧ (Ca Try.prog (17) (Array.mk [Value.pointer p6]) (w34) (fun v36 => (fun w37 =>
                                        (∃ x38 : Int, ((v36 = Value.int IntKind.i64 x38) ∧ (Ca Try.prog (26) (Array.mk [Value.pointer p6]) (w37) (fun v39 => (fun w40 =>
                                          (∃ b41 : Bool, ((v39 = Value.bool b41) ∧ (ifK (b41)
                                            (∃ x42 : Int, ((World.cell? w40 (Addr.add (Addr.mk (Array.size (World.heap w)) 0 none) 1) = some (Value.int IntKind.i64 x42)) ∧ (Ca Try.prog (18) (Array.mk [Value.pointer p6, Value.int IntKind.i64 x42]) (w40) (fun v43 => (fun w44 =>
                                              ((v43 = Value.tuple (Array.mk (List.reverse []))) ∧ (Ca Try.prog (19) (Array.mk [Value.pointer p6]) (w44) (fun v45 => (fun w46 =>
                                                ((v45 = Value.tuple (Array.mk (List.reverse []))) ∧ (Ca Try.prog (20) (Array.mk [Value.pointer p6, Value.string (ByteArray.mk #[97])]) (w46) (fun v47 => (fun w48 =>
                                                  (∃ p49 : Option Addr, (∃ n50 : Nat, (∃ n51 : Nat, (∃ x52 : Int, ((v47 = Value.tuple (Array.mk (List.reverse [Value.int IntKind.i64 x52, Value.slice p49 n50 n51]))) ∧ (ifK (x52 != 0)
                                                    (R (Value.bool false) (w48))
                                                    (∃ x53 : Int, ((World.cell? w48 (Addr.add (Addr.mk (Array.size (World.heap w)) 0 none) 0) = some (Value.int IntKind.u64 x53)) ∧ (((7 : Int) ≠ 0) ∧ (ifK (Int.tmod x53 7 == 0)
                                                      (ifK (!(x38 == 0) == true)
                                                        (R (Value.bool false) (w48))
                                                        (ifK (x38 == 0)
                                                          (Ca Try.prog (21) (Array.mk [Value.slice p49 n50 n51, Value.slice fresha freshl freshc]) (w48) (fun v54 => (fun w55 =>
                                                            (∃ b56 : Bool, ((v54 = Value.bool b56) ∧ (ifK (b56)
                                                              (Ca Try.prog (12) (Array.mk []) (w55) (fun v57 => (fun w58 =>
                                                                (∃ b59 : Bool, ((v57 = Value.bool b59) ∧ (R (Value.bool b59) (w58)))))))
                                                              (R (Value.bool false) (w55))))))))
                                                          (Ca Try.prog (21) (Array.mk [Value.slice p49 n50 n51, Value.slice olda oldl oldc]) (w48) (fun v60 => (fun w61 =>
                                                            (∃ b62 : Bool, ((v60 = Value.bool b62) ∧ (ifK (b62)
                                                              (Ca Try.prog (12) (Array.mk []) (w61) (fun v63 => (fun w64 =>
                                                                (∃ b65 : Bool, ((v63 = Value.bool b65) ∧ (R (Value.bool b65) (w64)))))))
                                                              (R (Value.bool false) (w61))))))))))
                                                      (∃ x66 : Int, ((World.cell? w48 (Addr.add (Addr.mk (Array.size (World.heap w)) 0 none) 0) = some (Value.int IntKind.u64 x66)) ∧ (((7 : Int) ≠ 0) ∧ (ifK (!(x38 == 0) == (Int.tmod x66 7 == 6))
                                                        (R (Value.bool false) (w48))
                                                        (ifK (x38 == 0)
                                                          (Ca Try.prog (21) (Array.mk [Value.slice p49 n50 n51, Value.slice fresha freshl freshc]) (w48) (fun v67 => (fun w68 =>
                                                            (∃ b69 : Bool, ((v67 = Value.bool b69) ∧ (ifK (b69)
                                                              (Ca Try.prog (12) (Array.mk []) (w68) (fun v70 => (fun w71 =>
                                                                (∃ b72 : Bool, ((v70 = Value.bool b72) ∧ (R (Value.bool b72) (w71)))))))
                                                              (R (Value.bool false) (w68))))))))
                                                          (Ca Try.prog (21) (Array.mk [Value.slice p49 n50 n51, Value.slice olda oldl oldc]) (w48) (fun v73 => (fun w74 =>
                                                            (∃ b75 : Bool, ((v73 = Value.bool b75) ∧ (ifK (b75)
                                                              (Ca Try.prog (12) (Array.mk []) (w74) (fun v76 => (fun w77 =>
                                                                (∃ b78 : Bool, ((v76 = Value.bool b78) ∧ (R (Value.bool b78) (w77)))))))
                                                              (R (Value.bool false) (w74))))))))))))))))))))))))))))))))))))
                                            (Ca Try.prog (19) (Array.mk [Value.pointer p6]) (w40) (fun v79 => (fun w80 =>
                                              ((v79 = Value.tuple (Array.mk (List.reverse []))) ∧ (Ca Try.prog (20) (Array.mk [Value.pointer p6, Value.string (ByteArray.mk #[97])]) (w80) (fun v81 => (fun w82 =>
                                                (∃ p83 : Option Addr, (∃ n84 : Nat, (∃ n85 : Nat, (∃ x86 : Int, ((v81 = Value.tuple (Array.mk (List.reverse [Value.int IntKind.i64 x86, Value.slice p83 n84 n85]))) ∧ (ifK (x86 != 0)
                                                  (R (Value.bool false) (w82))
                                                  (∃ x87 : Int, ((World.cell? w82 (Addr.add (Addr.mk (Array.size (World.heap w)) 0 none) 0) = some (Value.int IntKind.u64 x87)) ∧ (((7 : Int) ≠ 0) ∧ (ifK (Int.tmod x87 7 == 0)
                                                    (ifK (!(x38 == 0) == true)
                                                      (R (Value.bool false) (w82))
                                                      (ifK (x38 == 0)
                                                        (Ca Try.prog (21) (Array.mk [Value.slice p83 n84 n85, Value.slice fresha freshl freshc]) (w82) (fun v88 => (fun w89 =>
                                                          (∃ b90 : Bool, ((v88 = Value.bool b90) ∧ (ifK (b90)
                                                            (Ca Try.prog (12) (Array.mk []) (w89) (fun v91 => (fun w92 =>
                                                              (∃ b93 : Bool, ((v91 = Value.bool b93) ∧ (R (Value.bool b93) (w92)))))))
                                                            (R (Value.bool false) (w89))))))))
                                                        (Ca Try.prog (21) (Array.mk [Value.slice p83 n84 n85, Value.slice olda oldl oldc]) (w82) (fun v94 => (fun w95 =>
                                                          (∃ b96 : Bool, ((v94 = Value.bool b96) ∧ (ifK (b96)
                                                            (Ca Try.prog (12) (Array.mk []) (w95) (fun v97 => (fun w98 =>
                                                              (∃ b99 : Bool, ((v97 = Value.bool b99) ∧ (R (Value.bool b99) (w98)))))))
                                                            (R (Value.bool false) (w95))))))))))
                                                    (∃ x100 : Int, ((World.cell? w82 (Addr.add (Addr.mk (Array.size (World.heap w)) 0 none) 0) = some (Value.int IntKind.u64 x100)) ∧ (((7 : Int) ≠ 0) ∧ (ifK (!(x38 == 0) == (Int.tmod x100 7 == 6))
                                                      (R (Value.bool false) (w82))
                                                      (ifK (x38 == 0)
                                                        (Ca Try.prog (21) (Array.mk [Value.slice p83 n84 n85, Value.slice fresha freshl freshc]) (w82) (fun v101 => (fun w102 =>
                                                          (∃ b103 : Bool, ((v101 = Value.bool b103) ∧ (ifK (b103)
                                                            (Ca Try.prog (12) (Array.mk []) (w102) (fun v104 => (fun w105 =>
                                                              (∃ b106 : Bool, ((v104 = Value.bool b106) ∧ (R (Value.bool b106) (w105)))))))
                                                            (R (Value.bool false) (w102))))))))
                                                        (Ca Try.prog (21) (Array.mk [Value.slice p83 n84 n85, Value.slice olda oldl oldc]) (w82) (fun v107 => (fun w108 =>
                                                          (∃ b109 : Bool, ((v107 = Value.bool b109) ∧ (ifK (b109)
                                                            (Ca Try.prog (12) (Array.mk []) (w108) (fun v110 => (fun w111 =>
                                                              (∃ b112 : Bool, ((v110 = Value.bool b112) ∧ (R (Value.bool b112) (w111)))))))
                                                            (R (Value.bool false) (w108)))))))))))))))))))))))))))))))))))))))))))))))))))))))))))))))))))))))))))))))))))))))))))))))))))))))))
theorem ca5 (olda : Option Addr) (oldl : Nat) (oldc : Nat) (fresha : Option Addr) (freshl : Nat) (freshc : Nat) (x0_ : Int) (x1_ : Int) (w : World) (R : Value → World → Prop) (h : W5 olda oldl oldc fresha freshl freshc x0_ x1_ w R) : Ca Try.prog 5 ⟨[(.slice olda oldl oldc), (.slice fresha freshl freshc), (.agg ⟨[(.int .u64 x0_), (.int .i64 x1_)]⟩)]⟩ w R := by
  have h1 : Try.prog.follows .mixedOrders = true := by kernel_rfl
  have h2 : Try.f5.body = some C5 := by kernel_rfl
  have h3 : (Try.f5.name == "runtime.NumGoroutine") = false := by kernel_rfl
  have h6 : Try.f5.results.toList = [.tmp 6] := by kernel_rfl
  have h4 : Nat.ble 3 107 = true := by kernel_rfl
  have h5 : okCode 107 pl5 ls5 C5 0 = true := by kernel_rfl
  have e : W5 olda oldl oldc fresha freshl freshc x0_ x1_ w R = wpC none Try.prog 107 pl5 ls5 C5 0 (endP Try.prog [.tmp 6] R) (fr0 [(.slice olda oldl oldc), (.slice fresha freshl freshc), (.agg ⟨[(.int .u64 x0_), (.int .i64 x1_)]⟩)]) [] w := by kernel_rfl
  exact ca_of' (P := Try.prog) (g := 5) (fn := Try.f5) (c := C5) (m := 107) (rs := [.tmp 6]) (args := [(.slice olda oldl oldc), (.slice fresha freshl freshc), (.agg ⟨[(.int .u64 x0_), (.int .i64 x1_)]⟩)]) (pl := pl5) (ls := ls5) (w := w) (R := R) h1 Try.func5 h2 Try.ntmps5 h6 h3 h4 h5 (Eq.mp e h)

/-- staith/staithlaw11.StoreRoom -/
noncomputable def C6 : Code := (Try.f6.body).getD .skip
def pl6 : Nat → Plan := fun _ => .done
def ls6 : Nat → List (Nat × LT)
  | 8 => [(34, (.one (.int .i64)))]
  | 31 => [(142, (.one (.int .i64)))]
  | _ => []
def W6 (room : Int) (actsa : Option Addr) (actsl : Nat) (actsc : Nat) (w : World) (R : Value → World → Prop) : Prop :=
  (((200 : Int) ≠ 0) ∧ (Ca Try.prog (13) (Array.mk [Value.int IntKind.i64 (IntKind.wrap IntKind.i64 (Int.tmod room 200))]) (w) (fun v0 => (fun w1 =>
    (∃ p2 : Option Addr, ((v0 = Value.pointer p2) ∧ (ifK (Option.isNone p2)
      (ifK (!Option.isNone p2)
        (Ca Try.prog (12) (Array.mk []) (w1) (fun v3 => (fun w4 =>
          (∃ b5 : Bool, ((v3 = Value.bool b5) ∧ (R (Value.bool b5) (w4)))))))
        (R (Value.bool false) (w1)))
      (Ca Try.prog (27) (Array.mk [Value.slice actsa actsl actsc]) (w1) (fun v6 => (fun w7 =>
        (∃ b8 : Bool, ((v6 = Value.bool b8) ∧ (ifK (!b8)
          (ifK (!Option.isNone p2)
            (Ca Try.prog (12) (Array.mk []) (w7) (fun v9 => (fun w10 =>
              (∃ b11 : Bool, ((v9 = Value.bool b11) ∧ (R (Value.bool b11) (w10)))))))
            (R (Value.bool false) (w7)))
          (∃ z12 : Int → World → Prop, (∃ z13 : Int → World → Nat, ((z12 (0) (w7)) ∧ (∀ (_ : Nat → Value), (∀ (x15 : Int), (∀ (w16 : World), ((z12 (x15) (w16)) → (ifK (decide (x15 < (↑actsl : Int)))
            (∃ a17 : Addr, ((actsa = some a17) ∧ (((0 : Int) ≤ x15) ∧ (((x15 : Int) < (↑actsl : Int)) ∧ (∃ x18 : Int, ((World.cell? w16 (Addr.add (Addr.add a17 (Int.toNat x15 * 6)) 0) = some (Value.int IntKind.i64 x18)) ∧ (∃ s19 : ByteArray, ((World.cell? w16 (Addr.add (Addr.add a17 (Int.toNat x15 * 6)) 1) = some (Value.string s19)) ∧ (∃ s20 : ByteArray, ((World.cell? w16 (Addr.add (Addr.add a17 (Int.toNat x15 * 6)) 2) = some (Value.string s20)) ∧ (∃ p21 : Option Addr, (∃ n22 : Nat, (∃ n23 : Nat, ((World.cell? w16 (Addr.add (Addr.add a17 (Int.toNat x15 * 6)) 3) = some (Value.slice p21 n22 n23)) ∧ (∃ x24 : Int, ((World.cell? w16 (Addr.add (Addr.add a17 (Int.toNat x15 * 6)) 4) = some (Value.int IntKind.i64 x24)) ∧ (∃ x25 : Int, ((World.cell? w16 (Addr.add (Addr.add a17 (Int.toNat x15 * 6)) 5) = some (Value.int IntKind.i64 x25)) ∧ (atW (World.alloc w16 (Obj.cells (Array.mk [Value.int IntKind.i64 0, Value.string (ByteArray.mk #[]), Value.string (ByteArray.mk #[]), Value.slice none 0 0, Value.int IntKind.i64 0, Value.int IntKind.i64 0]) 48 (0, 0))) (fun w26 =>
              ((∃ v27 : Value, (World.cell? w26 (Addr.add (Addr.mk (Array.size (World.heap w16)) 0 none) 0) = some v27)) ∧ ((World.frozen? w26 (Addr.add (Addr.mk (Array.size (World.heap w16)) 0 none) 0) = false) ∧ (atW (World.setCell w26 (Addr.add (Addr.mk (Array.size (World.heap w16)) 0 none) 0) (Value.int IntKind.i64 x18)) (fun w28 =>
                ((∃ v29 : Value, (World.cell? w28 (Addr.add (Addr.mk (Array.size (World.heap w16)) 0 none) 1) = some v29)) ∧ ((World.frozen? w28 (Addr.add (Addr.mk (Array.size (World.heap w16)) 0 none) 1) = false) ∧ (atW (World.setCell w28 (Addr.add (Addr.mk (Array.size (World.heap w16)) 0 none) 1) (Value.string s19)) (fun w30 =>
                  ((∃ v31 : Value, (World.cell? w30 (Addr.add (Addr.mk (Array.size (World.heap w16)) 0 none) 2) = some v31)) ∧ ((World.frozen? w30 (Addr.add (Addr.mk (Array.size (World.heap w16)) 0 none) 2) = false) ∧ (atW (World.setCell w30 (Addr.add (Addr.mk (Array.size (World.heap w16)) 0 none) 2) (Value.string s20)) (fun w32 =>
                    ((∃ v33 : Value, (World.cell? w32 (Addr.add (Addr.mk (Array.size (World.heap w16)) 0 none) 3) = some v33)) ∧ ((World.frozen? w32 (Addr.add (Addr.mk (Array.size (World.heap w16)) 0 none) 3) = false) ∧ (atW (World.setCell w32 (Addr.add (Addr.mk (Array.size (World.heap w16)) 0 none) 3) (Value.slice p21 n22 n23)) (fun w34 =>
                      ((∃ v35 : Value, (World.cell? w34 (Addr.add (Addr.mk (Array.size (World.heap w16)) 0 none) 4) = some v35)) ∧ ((World.frozen? w34 (Addr.add (Addr.mk (Array.size (World.heap w16)) 0 none) 4) = false) ∧ (atW (World.setCell w34 (Addr.add (Addr.mk (Array.size (World.heap w16)) 0 none) 4) (Value.int IntKind.i64 x24)) (fun w36 =>
                        ((∃ v37 : Value, (World.cell? w36 (Addr.add (Addr.mk (Array.size (World.heap w16)) 0 none) 5) = some v37)) ∧ ((World.frozen? w36 (Addr.add (Addr.mk (Array.size (World.heap w16)) 0 none) 5) = false) ∧ (atW (World.setCell w36 (Addr.add (Addr.mk (Array.size (World.heap w16)) 0 none) 5) (Value.int IntKind.i64 x25)) (fun w38 =>
                          (∃ x39 : Int, ((World.cell? w38 (Addr.add (Addr.mk (Array.size (World.heap w16)) 0 none) 0) = some (Value.int IntKind.i64 x39)) ∧ (ifK (decide (x39 < 0))
                            ((z12 (IntKind.wrap IntKind.i64 (x15 + 1)) (w38)) ∧ (z13 (IntKind.wrap IntKind.i64 (x15 + 1)) w38 < z13 x15 w16))
                            (∃ x40 : Int, ((World.cell? w38 (Addr.add (Addr.mk (Array.size (World.heap w16)) 0 none) 0) = some (Value.int IntKind.i64 x40)) ∧ (ifK (decide (x40 > 6))
                              ((z12 (IntKind.wrap IntKind.i64 (x15 + 1)) (w38)) ∧ (z13 (IntKind.wrap IntKind.i64 (x15 + 1)) w38 < z13 x15 w16))
                              (Ca Try.prog (28) (Array.mk [Value.pointer p2]) (w38) (fun v41 => (fun w42 =>
                                (∃ x43 : Int, ((v41 = Value.int IntKind.i64 x43) ∧ (Ca Try.prog (29) (Array.mk [Value.pointer p2]) (w42) (fun v44 => (fun w45 =>
                                  (∃ x46 : Int, ((v44 = Value.int IntKind.i64 x46) ∧ (Ca Try.prog (23) (Array.mk [Value.pointer p2]) (w45) (fun v47 => (fun w48 =>
                                    (∃ p49 : Option Addr, (∃ n50 : Nat, (∃ n51 : Nat, ((v47 = Value.slice p49 n50 n51) ∧ (∃ x52 : Int, ((World.cell? w48 (Addr.add (Addr.mk (Array.size (World.heap w16)) 0 none) 0) = some (Value.int IntKind.i64 x52)) ∧ (ifK (x52 == 0)
                                      (∃ s53 : ByteArray, ((World.cell? w48 (Addr.add (Addr.mk (Array.size (World.heap w16)) 0 none) 1) = some (Value.string s53)) ∧ (Ca Try.prog (14) (Array.mk [Value.pointer p2, Value.string s53]) (w48) (fun v54 => (fun w55 =>
                                        (∃ x56 : Int, ((v54 = Value.int IntKind.i64 x56) ∧ (Ca Try.prog (28) (Array.mk [Value.pointer p2]) (w55) (fun v57 => (fun w58 =>
                                          (∃ x59 : Int, ((v57 = Value.int IntKind.i64 x59) ∧ (ifK (decide (x59 > IntKind.wrap IntKind.i64 (Int.tmod room 200)))
                                            (R (Value.bool false) (w58))
                                            (ifK (x56 != 0)
                                              (Ca Try.prog (28) (Array.mk [Value.pointer p2]) (w58) (fun v60 => (fun w61 =>
                                                (∃ x62 : Int, ((v60 = Value.int IntKind.i64 x62) ∧ (ifK (x62 != x43)
                                                  (R (Value.bool false) (w61))
                                                  (Ca Try.prog (29) (Array.mk [Value.pointer p2]) (w61) (fun v63 => (fun w64 =>
                                                    (∃ x65 : Int, ((v63 = Value.int IntKind.i64 x65) ∧ (ifK (x65 != x46)
                                                      (R (Value.bool false) (w64))
                                                      (Ca Try.prog (23) (Array.mk [Value.pointer p2]) (w64) (fun v66 => (fun w67 =>
                                                        (∃ p68 : Option Addr, (∃ n69 : Nat, (∃ n70 : Nat, ((v66 = Value.slice p68 n69 n70) ∧ (Ca Try.prog (22) (Array.mk [Value.slice p68 n69 n70, Value.slice p49 n50 n51]) (w67) (fun v71 => (fun w72 =>
                                                          (∃ b73 : Bool, ((v71 = Value.bool b73) ∧ (ifK (!b73)
                                                            (R (Value.bool false) (w72))
                                                            (ifK (x56 == 0)
                                                              (Ca Try.prog (29) (Array.mk [Value.pointer p2]) (w72) (fun v74 => (fun w75 =>
                                                                (∃ x76 : Int, ((v74 = Value.int IntKind.i64 x76) ∧ (ifK (x76 != IntKind.wrap IntKind.i64 (x46 + 1))
                                                                  (R (Value.bool false) (w75))
                                                                  ((z12 (IntKind.wrap IntKind.i64 (x15 + 1)) (w75)) ∧ (z13 (IntKind.wrap IntKind.i64 (x15 + 1)) w75 < z13 x15 w16))))))))
                                                              ((z12 (IntKind.wrap IntKind.i64 (x15 + 1)) (w72)) ∧ (z13 (IntKind.wrap IntKind.i64 (x15 + 1)) w72 < z13 x15 w16))))))))))))))))))))))))))))
                                              (ifK (x56 == 0)
                                                (Ca Try.prog (29) (Array.mk [Value.pointer p2]) (w58) (fun v77 => (fun w78 =>
                                                  (∃ x79 : Int, ((v77 = Value.int IntKind.i64 x79) ∧ (ifK (x79 != IntKind.wrap IntKind.i64 (x46 + 1))
                                                    (R (Value.bool false) (w78))
                                                    ((z12 (IntKind.wrap IntKind.i64 (x15 + 1)) (w78)) ∧ (z13 (IntKind.wrap IntKind.i64 (x15 + 1)) w78 < z13 x15 w16))))))))
                                                ((z12 (IntKind.wrap IntKind.i64 (x15 + 1)) (w58)) ∧ (z13 (IntKind.wrap IntKind.i64 (x15 + 1)) w58 < z13 x15 w16)))))))))))))))))
                                      (ifK (x52 == 1)
                                        (∃ s80 : ByteArray, ((World.cell? w48 (Addr.add (Addr.mk (Array.size (World.heap w16)) 0 none) 1) = some (Value.string s80)) ∧ (∃ p81 : Option Addr, (∃ n82 : Nat, (∃ n83 : Nat, ((World.cell? w48 (Addr.add (Addr.mk (Array.size (World.heap w16)) 0 none) 3) = some (Value.slice p81 n82 n83)) ∧ (Ca Try.prog (15) (Array.mk [Value.pointer p2, Value.string s80, Value.slice p81 n82 n83]) (w48) (fun v84 => (fun w85 =>
                                          (∃ x86 : Int, ((v84 = Value.int IntKind.i64 x86) ∧ (Ca Try.prog (28) (Array.mk [Value.pointer p2]) (w85) (fun v87 => (fun w88 =>
                                            (∃ x89 : Int, ((v87 = Value.int IntKind.i64 x89) ∧ (ifK (decide (x89 > IntKind.wrap IntKind.i64 (Int.tmod room 200)))
                                              (R (Value.bool false) (w88))
                                              (ifK (x86 != 0)
                                                (Ca Try.prog (28) (Array.mk [Value.pointer p2]) (w88) (fun v90 => (fun w91 =>
                                                  (∃ x92 : Int, ((v90 = Value.int IntKind.i64 x92) ∧ (ifK (x92 != x43)
                                                    (R (Value.bool false) (w91))
                                                    (Ca Try.prog (29) (Array.mk [Value.pointer p2]) (w91) (fun v93 => (fun w94 =>
                                                      (∃ x95 : Int, ((v93 = Value.int IntKind.i64 x95) ∧ (ifK (x95 != x46)
                                                        (R (Value.bool false) (w94))
                                                        (Ca Try.prog (23) (Array.mk [Value.pointer p2]) (w94) (fun v96 => (fun w97 =>
                                                          (∃ p98 : Option Addr, (∃ n99 : Nat, (∃ n100 : Nat, ((v96 = Value.slice p98 n99 n100) ∧ (Ca Try.prog (22) (Array.mk [Value.slice p98 n99 n100, Value.slice p49 n50 n51]) (w97) (fun v101 => (fun w102 =>
                                                            (∃ b103 : Bool, ((v101 = Value.bool b103) ∧ (ifK (!b103)
                                                              (R (Value.bool false) (w102))
                                                              (ifK (x86 == 0)
                                                                (Ca Try.prog (29) (Array.mk [Value.pointer p2]) (w102) (fun v104 => (fun w105 =>
                                                                  (∃ x106 : Int, ((v104 = Value.int IntKind.i64 x106) ∧ (ifK (x106 != IntKind.wrap IntKind.i64 (x46 + 1))
                                                                    (R (Value.bool false) (w105))
                                                                    ((z12 (IntKind.wrap IntKind.i64 (x15 + 1)) (w105)) ∧ (z13 (IntKind.wrap IntKind.i64 (x15 + 1)) w105 < z13 x15 w16))))))))
                                                                ((z12 (IntKind.wrap IntKind.i64 (x15 + 1)) (w102)) ∧ (z13 (IntKind.wrap IntKind.i64 (x15 + 1)) w102 < z13 x15 w16))))))))))))))))))))))))))))
                                                (ifK (x86 == 0)
                                                  (Ca Try.prog (29) (Array.mk [Value.pointer p2]) (w88) (fun v107 => (fun w108 =>
                                                    (∃ x109 : Int, ((v107 = Value.int IntKind.i64 x109) ∧ (ifK (x109 != IntKind.wrap IntKind.i64 (x46 + 1))
                                                      (R (Value.bool false) (w108))
                                                      ((z12 (IntKind.wrap IntKind.i64 (x15 + 1)) (w108)) ∧ (z13 (IntKind.wrap IntKind.i64 (x15 + 1)) w108 < z13 x15 w16))))))))
                                                  ((z12 (IntKind.wrap IntKind.i64 (x15 + 1)) (w88)) ∧ (z13 (IntKind.wrap IntKind.i64 (x15 + 1)) w88 < z13 x15 w16)))))))))))))))))))))
                                        (ifK (x52 == 2)
                                          (∃ s110 : ByteArray, ((World.cell? w48 (Addr.add (Addr.mk (Array.size (World.heap w16)) 0 none) 1) = some (Value.string s110)) ∧ (∃ x111 : Int, ((World.cell? w48 (Addr.add (Addr.mk (Array.size (World.heap w16)) 0 none) 4) = some (Value.int IntKind.i64 x111)) ∧ (Ca Try.prog (30) (Array.mk [Value.pointer p2, Value.string s110, Value.int IntKind.i64 x111]) (w48) (fun v112 => (fun w113 =>
                                            (∃ x114 : Int, ((v112 = Value.int IntKind.i64 x114) ∧ (Ca Try.prog (28) (Array.mk [Value.pointer p2]) (w113) (fun v115 => (fun w116 =>
                                              (∃ x117 : Int, ((v115 = Value.int IntKind.i64 x117) ∧ (ifK (decide (x117 > IntKind.wrap IntKind.i64 (Int.tmod room 200)))
                                                (R (Value.bool false) (w116))
                                                (ifK (x114 != 0)
                                                  (Ca Try.prog (28) (Array.mk [Value.pointer p2]) (w116) (fun v118 => (fun w119 =>
                                                    (∃ x120 : Int, ((v118 = Value.int IntKind.i64 x120) ∧ (ifK (x120 != x43)
                                                      (R (Value.bool false) (w119))
                                                      (Ca Try.prog (29) (Array.mk [Value.pointer p2]) (w119) (fun v121 => (fun w122 =>
                                                        (∃ x123 : Int, ((v121 = Value.int IntKind.i64 x123) ∧ (ifK (x123 != x46)
                                                          (R (Value.bool false) (w122))
                                                          (Ca Try.prog (23) (Array.mk [Value.pointer p2]) (w122) (fun v124 => (fun w125 =>
                                                            (∃ p126 : Option Addr, (∃ n127 : Nat, (∃ n128 : Nat, ((v124 = Value.slice p126 n127 n128) ∧ (Ca Try.prog (22) (Array.mk [Value.slice p126 n127 n128, Value.slice p49 n50 n51]) (w125) (fun v129 => (fun w130 =>
                                                              (∃ b131 : Bool, ((v129 = Value.bool b131) ∧ (ifK (!b131)
                                                                (R (Value.bool false) (w130))
                                                                (ifK (x114 == 0)
                                                                  (Ca Try.prog (29) (Array.mk [Value.pointer p2]) (w130) (fun v132 => (fun w133 =>
                                                                    (∃ x134 : Int, ((v132 = Value.int IntKind.i64 x134) ∧ (ifK (x134 != IntKind.wrap IntKind.i64 (x46 + 1))
                                                                      (R (Value.bool false) (w133))
                                                                      ((z12 (IntKind.wrap IntKind.i64 (x15 + 1)) (w133)) ∧ (z13 (IntKind.wrap IntKind.i64 (x15 + 1)) w133 < z13 x15 w16))))))))
                                                                  ((z12 (IntKind.wrap IntKind.i64 (x15 + 1)) (w130)) ∧ (z13 (IntKind.wrap IntKind.i64 (x15 + 1)) w130 < z13 x15 w16))))))))))))))))))))))))))))
                                                  (ifK (x114 == 0)
                                                    (Ca Try.prog (29) (Array.mk [Value.pointer p2]) (w116) (fun v135 => (fun w136 =>
                                                      (∃ x137 : Int, ((v135 = Value.int IntKind.i64 x137) ∧ (ifK (x137 != IntKind.wrap IntKind.i64 (x46 + 1))
                                                        (R (Value.bool false) (w136))
                                                        ((z12 (IntKind.wrap IntKind.i64 (x15 + 1)) (w136)) ∧ (z13 (IntKind.wrap IntKind.i64 (x15 + 1)) w136 < z13 x15 w16))))))))
                                                    ((z12 (IntKind.wrap IntKind.i64 (x15 + 1)) (w116)) ∧ (z13 (IntKind.wrap IntKind.i64 (x15 + 1)) w116 < z13 x15 w16)))))))))))))))))))
                                          (ifK (x52 == 3)
                                            (∃ s138 : ByteArray, ((World.cell? w48 (Addr.add (Addr.mk (Array.size (World.heap w16)) 0 none) 1) = some (Value.string s138)) ∧ (Ca Try.prog (16) (Array.mk [Value.pointer p2, Value.string s138]) (w48) (fun v139 => (fun w140 =>
                                              (∃ x141 : Int, ((v139 = Value.int IntKind.i64 x141) ∧ (Ca Try.prog (28) (Array.mk [Value.pointer p2]) (w140) (fun v142 => (fun w143 =>
                                                (∃ x144 : Int, ((v142 = Value.int IntKind.i64 x144) ∧ (ifK (decide (x144 > IntKind.wrap IntKind.i64 (Int.tmod room 200)))
                                                  (R (Value.bool false) (w143))
                                                  (ifK (x141 != 0)
                                                    (Ca Try.prog (28) (Array.mk [Value.pointer p2]) (w143) (fun v145 => (fun w146 =>
                                                      (∃ x147 : Int, ((v145 = Value.int IntKind.i64 x147) ∧ (ifK (x147 != x43)
                                                        (R (Value.bool false) (w146))
                                                        (Ca Try.prog (29) (Array.mk [Value.pointer p2]) (w146) (fun v148 => (fun w149 =>
                                                          (∃ x150 : Int, ((v148 = Value.int IntKind.i64 x150) ∧ (ifK (x150 != x46)
                                                            (R (Value.bool false) (w149))
                                                            (Ca Try.prog (23) (Array.mk [Value.pointer p2]) (w149) (fun v151 => (fun w152 =>
                                                              (∃ p153 : Option Addr, (∃ n154 : Nat, (∃ n155 : Nat, ((v151 = Value.slice p153 n154 n155) ∧ (Ca Try.prog (22) (Array.mk [Value.slice p153 n154 n155, Value.slice p49 n50 n51]) (w152) (fun v156 => (fun w157 =>
                                                                (∃ b158 : Bool, ((v156 = Value.bool b158) ∧ (ifK (!b158)
                                                                  (R (Value.bool false) (w157))
                                                                  (ifK (x141 == 0)
                                                                    (Ca Try.prog (29) (Array.mk [Value.pointer p2]) (w157) (fun v159 => (fun w160 =>
                                                                      (∃ x161 : Int, ((v159 = Value.int IntKind.i64 x161) ∧ (ifK (x161 != IntKind.wrap IntKind.i64 (x46 + 1))
                                                                        (R (Value.bool false) (w160))
                                                                        ((z12 (IntKind.wrap IntKind.i64 (x15 + 1)) (w160)) ∧ (z13 (IntKind.wrap IntKind.i64 (x15 + 1)) w160 < z13 x15 w16))))))))
                                                                    ((z12 (IntKind.wrap IntKind.i64 (x15 + 1)) (w157)) ∧ (z13 (IntKind.wrap IntKind.i64 (x15 + 1)) w157 < z13 x15 w16))))))))))))))))))))))))))))
                                                    (ifK (x141 == 0)
                                                      (Ca Try.prog (29) (Array.mk [Value.pointer p2]) (w143) (fun v162 => (fun w163 =>
                                                        (∃ x164 : Int, ((v162 = Value.int IntKind.i64 x164) ∧ (ifK (x164 != IntKind.wrap IntKind.i64 (x46 + 1))
                                                          (R (Value.bool false) (w163))
                                                          ((z12 (IntKind.wrap IntKind.i64 (x15 + 1)) (w163)) ∧ (z13 (IntKind.wrap IntKind.i64 (x15 + 1)) w163 < z13 x15 w16))))))))
                                                      ((z12 (IntKind.wrap IntKind.i64 (x15 + 1)) (w143)) ∧ (z13 (IntKind.wrap IntKind.i64 (x15 + 1)) w143 < z13 x15 w16)))))))))))))))))
                                            (ifK (x52 == 4)
                                              (∃ s165 : ByteArray, ((World.cell? w48 (Addr.add (Addr.mk (Array.size (World.heap w16)) 0 none) 1) = some (Value.string s165)) ∧ (∃ s166 : ByteArray, ((World.cell? w48 (Addr.add (Addr.mk (Array.size (World.heap w16)) 0 none) 2) = some (Value.string s166)) ∧ (Ca Try.prog (25) (Array.mk [Value.pointer p2, Value.string s165, Value.string s166]) (w48) (fun v167 => (fun w168 =>
                                                (∃ x169 : Int, ((v167 = Value.int IntKind.i64 x169) ∧ (Ca Try.prog (28) (Array.mk [Value.pointer p2]) (w168) (fun v170 => (fun w171 =>
                                                  (∃ x172 : Int, ((v170 = Value.int IntKind.i64 x172) ∧ (ifK (decide (x172 > IntKind.wrap IntKind.i64 (Int.tmod room 200)))
                                                    (R (Value.bool false) (w171))
                                                    (ifK (x169 != 0)
                                                      (Ca Try.prog (28) (Array.mk [Value.pointer p2]) (w171) (fun v173 => (fun w174 =>
                                                        (∃ x175 : Int, ((v173 = Value.int IntKind.i64 x175) ∧ (ifK (x175 != x43)
                                                          (R (Value.bool false) (w174))
                                                          (Ca Try.prog (29) (Array.mk [Value.pointer p2]) (w174) (fun v176 => (fun w177 =>
                                                            (∃ x178 : Int, ((v176 = Value.int IntKind.i64 x178) ∧ (ifK (x178 != x46)
                                                              (R (Value.bool false) (w177))
                                                              (Ca Try.prog (23) (Array.mk [Value.pointer p2]) (w177) (fun v179 => (fun w180 =>
                                                                (∃ p181 : Option Addr, (∃ n182 : Nat, (∃ n183 : Nat, ((v179 = Value.slice p181 n182 n183) ∧ (Ca Try.prog (22) (Array.mk [Value.slice p181 n182 n183, Value.slice p49 n50 n51]) (w180) (fun v184 => (fun w185 =>
                                                                  (∃ b186 : Bool, ((v184 = Value.bool b186) ∧ (ifK (!b186)
                                                                    (R (Value.bool false) (w185))
                                                                    (ifK (x169 == 0)
                                                                      (Ca Try.prog (29) (Array.mk [Value.pointer p2]) (w185) (fun v187 => (fun w188 =>
                                                                        (∃ x189 : Int, ((v187 = Value.int IntKind.i64 x189) ∧ (ifK (x189 != IntKind.wrap IntKind.i64 (x46 + 1))
                                                                          (R (Value.bool false) (w188))
                                                                          ((z12 (IntKind.wrap IntKind.i64 (x15 + 1)) (w188)) ∧ (z13 (IntKind.wrap IntKind.i64 (x15 + 1)) w188 < z13 x15 w16))))))))
                                                                      ((z12 (IntKind.wrap IntKind.i64 (x15 + 1)) (w185)) ∧ (z13 (IntKind.wrap IntKind.i64 (x15 + 1)) w185 < z13 x15 w16))))))))))))))))))))))))))))
                                                      (ifK (x169 == 0)
                                                        (Ca Try.prog (29) (Array.mk [Value.pointer p2]) (w171) (fun v190 => (fun w191 =>
                                                          (∃ x192 : Int, ((v190 = Value.int IntKind.i64 x192) ∧ (ifK (x192 != IntKind.wrap IntKind.i64 (x46 + 1))
                                                            (R (Value.bool false) (w191))
                                                            ((z12 (IntKind.wrap IntKind.i64 (x15 + 1)) (w191)) ∧ (z13 (IntKind.wrap IntKind.i64 (x15 + 1)) w191 < z13 x15 w16))))))))
                                                        ((z12 (IntKind.wrap IntKind.i64 (x15 + 1)) (w171)) ∧ (z13 (IntKind.wrap IntKind.i64 (x15 + 1)) w171 < z13 x15 w16)))))))))))))))))))
                                              (ifK (x52 == 5)
                                                (∃ s193 : ByteArray, ((World.cell? w48 (Addr.add (Addr.mk (Array.size (World.heap w16)) 0 none) 1) = some (Value.string s193)) ∧ (Ca Try.prog (31) (Array.mk [Value.pointer p2, Value.string s193]) (w48) (fun v194 => (fun w195 =>
                                                  (∃ x196 : Int, ((v194 = Value.int IntKind.i64 x196) ∧ (Ca Try.prog (28) (Array.mk [Value.pointer p2]) (w195) (fun v197 => (fun w198 =>
                                                    (∃ x199 : Int, ((v197 = Value.int IntKind.i64 x199) ∧ (ifK (decide (x199 > IntKind.wrap IntKind.i64 (Int.tmod room 200)))
                                                      (R (Value.bool false) (w198))
                                                      (ifK (x196 != 0)
                                                        (Ca Try.prog (28) (Array.mk [Value.pointer p2]) (w198) (fun v200 => (fun w201 =>
                                                          (∃ x202 : Int, ((v200 = Value.int IntKind.i64 x202) ∧ (ifK (x202 != x43)
                                                            (R (Value.bool false) (w201))
                                                            (Ca Try.prog (29) (Array.mk [Value.pointer p2]) (w201) (fun v203 => (fun w204 =>
                                                              (∃ x205 : Int, ((v203 = Value.int IntKind.i64 x205) ∧ (ifK (x205 != x46)
                                                                (R (Value.bool false) (w204))
                                                                (Ca Try.prog (23) (Array.mk [Value.pointer p2]) (w204) (fun v206 => (fun w207 =>
                                                                  (∃ p208 : Option Addr, (∃ n209 : Nat, (∃ n210 : Nat, ((v206 = Value.slice p208 n209 n210) ∧ (Ca Try.prog (22) (Array.mk [Value.slice p208 n209 n210, Value.slice p49 n50 n51]) (w207) (fun v211 => (fun w212 =>
                                                                    (∃ b213 : Bool, ((v211 = Value.bool b213) ∧ (ifK (!b213)
                                                                      (R (Value.bool false) (w212))
                                                                      (ifK (x196 == 0)
                                                                        (Ca Try.prog (29) (Array.mk [Value.pointer p2]) (w212) (fun v214 => (fun w215 =>
                                                                          (∃ x216 : Int, ((v214 = Value.int IntKind.i64 x216) ∧ (ifK (x216 != IntKind.wrap IntKind.i64 (x46 + 1))
                                                                            (R (Value.bool false) (w215))
                                                                            ((z12 (IntKind.wrap IntKind.i64 (x15 + 1)) (w215)) ∧ (z13 (IntKind.wrap IntKind.i64 (x15 + 1)) w215 < z13 x15 w16))))))))
                                                                        ((z12 (IntKind.wrap IntKind.i64 (x15 + 1)) (w212)) ∧ (z13 (IntKind.wrap IntKind.i64 (x15 + 1)) w212 < z13 x15 w16))))))))))))))))))))))))))))
                                                        (ifK (x196 == 0)
                                                          (Ca Try.prog (29) (Array.mk [Value.pointer p2]) (w198) (fun v217 => (fun w218 =>
                                                            (∃ x219 : Int, ((v217 = Value.int IntKind.i64 x219) ∧ (ifK (x219 != IntKind.wrap IntKind.i64 (x46 + 1))
                                                              (R (Value.bool false) (w218))
                                                              ((z12 (IntKind.wrap IntKind.i64 (x15 + 1)) (w218)) ∧ (z13 (IntKind.wrap IntKind.i64 (x15 + 1)) w218 < z13 x15 w16))))))))
                                                          ((z12 (IntKind.wrap IntKind.i64 (x15 + 1)) (w198)) ∧ (z13 (IntKind.wrap IntKind.i64 (x15 + 1)) w198 < z13 x15 w16)))))))))))))))))
                                                (ifK (x52 == 6)
                                                  (Ca Try.prog (17) (Array.mk [Value.pointer p2]) (w48) (fun v220 => (fun w221 =>
                                                    (∃ x222 : Int, ((v220 = Value.int IntKind.i64 x222) ∧ (Ca Try.prog (28) (Array.mk [Value.pointer p2]) (w221) (fun v223 => (fun w224 =>
                                                      (∃ x225 : Int, ((v223 = Value.int IntKind.i64 x225) ∧ (ifK (decide (x225 > IntKind.wrap IntKind.i64 (Int.tmod room 200)))
                                                        (R (Value.bool false) (w224))
                                                        (ifK (x222 != 0)
                                                          (Ca Try.prog (28) (Array.mk [Value.pointer p2]) (w224) (fun v226 => (fun w227 =>
                                                            (∃ x228 : Int, ((v226 = Value.int IntKind.i64 x228) ∧ (ifK (x228 != x43)
                                                              (R (Value.bool false) (w227))
                                                              (Ca Try.prog (29) (Array.mk [Value.pointer p2]) (w227) (fun v229 => (fun w230 =>
                                                                (∃ x231 : Int, ((v229 = Value.int IntKind.i64 x231) ∧ (ifK (x231 != x46)
                                                                  (R (Value.bool false) (w230))
                                                                  (Ca Try.prog (23) (Array.mk [Value.pointer p2]) (w230) (fun v232 => (fun w233 =>
                                                                    (∃ p234 : Option Addr, (∃ n235 : Nat, (∃ n236 : Nat, ((v232 = Value.slice p234 n235 n236) ∧ (Ca Try.prog (22) (Array.mk [Value.slice p234 n235 n236, Value.slice p49 n50 n51]) (w233) (fun v237 => (fun w238 =>
                                                                      (∃ b239 : Bool, ((v237 = Value.bool b239) ∧ (ifK (!b239)
                                                                        (R (Value.bool false) (w238))
                                                                        (ifK (x222 == 0)
                                                                          (Ca Try.prog (29) (Array.mk [Value.pointer p2]) (w238) (fun v240 => (fun w241 =>
                                                                            (∃ x242 : Int, ((v240 = Value.int IntKind.i64 x242) ∧ (ifK (x242 != IntKind.wrap IntKind.i64 (x46 + 1))
                                                                              (R (Value.bool false) (w241))
                                                                              ((z12 (IntKind.wrap IntKind.i64 (x15 + 1)) (w241)) ∧ (z13 (IntKind.wrap IntKind.i64 (x15 + 1)) w241 < z13 x15 w16))))))))
                                                                          ((z12 (IntKind.wrap IntKind.i64 (x15 + 1)) (w238)) ∧ (z13 (IntKind.wrap IntKind.i64 (x15 + 1)) w238 < z13 x15 w16))))))))))))))))))))))))))))
                                                          (ifK (x222 == 0)
                                                            (Ca Try.prog (29) (Array.mk [Value.pointer p2]) (w224) (fun v243 => (fun w244 =>
                                                              (∃ x245 : Int, ((v243 = Value.int IntKind.i64 x245) ∧ (ifK (x245 != IntKind.wrap IntKind.i64 (x46 + 1))
                                                                (R (Value.bool false) (w244))
                                                                ((z12 (IntKind.wrap IntKind.i64 (x15 + 1)) (w244)) ∧ (z13 (IntKind.wrap IntKind.i64 (x15 + 1)) w244 < z13 x15 w16))))))))
                                                            ((z12 (IntKind.wrap IntKind.i64 (x15 + 1)) (w224)) ∧ (z13 (IntKind.wrap IntKind.i64 (x15 + 1)) w224 < z13 x15 w16)))))))))))))))
                                                  (Ca Try.prog (28) (Array.mk [Value.pointer p2]) (w48) (fun v246 => (fun w247 =>
                                                    (∃ x248 : Int, ((v246 = Value.int IntKind.i64 x248) ∧ (ifK (decide (x248 > IntKind.wrap IntKind.i64 (Int.tmod room 200)))
                                                      (R (Value.bool false) (w247))
                                                      (Ca Try.prog (29) (Array.mk [Value.pointer p2]) (w247) (fun v249 => (fun w250 =>
                                                        (∃ x251 : Int, ((v249 = Value.int IntKind.i64 x251) ∧ (ifK (x251 != IntKind.wrap IntKind.i64 (x46 + 1))
                                                          (R (Value.bool false) (w250))
                                                          ((z12 (IntKind.wrap IntKind.i64 (x15 + 1)) (w250)) ∧ (z13 (IntKind.wrap IntKind.i64 (x15 + 1)) w250 < z13 x15 w16))))))))))))))))))))))))))))))))))))))))))))))))))))))))))))))))))))))))))))))))))))))))))
            (Ca Try.prog (23) (Array.mk [Value.pointer p2]) (w16) (fun v252 => (fun w253 =>
              (∃ p254 : Option Addr, (∃ n255 : Nat, (∃ n256 : Nat, ((v252 = Value.slice p254 n255 n256) ∧ (∃ z257 : Int → World → Prop, (∃ z258 : Int → World → Nat, ((z257 (0) (w253)) ∧ (∀ (_ : Nat → Value), (∀ (x260 : Int), (∀ (w261 : World), ((z257 (x260) (w261)) → (ifK (decide (x260 < (↑n255 : Int)))
                (∃ a262 : Addr, ((p254 = some a262) ∧ (((0 : Int) ≤ x260) ∧ (((x260 : Int) < (↑n255 : Int)) ∧ (∃ s263 : ByteArray, ((World.cell? w261 (Addr.add a262 (Int.toNat x260 * 1)) = some (Value.string s263)) ∧ (Ca Try.prog (31) (Array.mk [Value.pointer p2, Value.string s263]) (w261) (fun v264 => (fun w265 =>
                  (∃ x266 : Int, ((v264 = Value.int IntKind.i64 x266) ∧ (ifK (x266 != 0)
                    (R (Value.bool false) (w265))
                    ((z257 (IntKind.wrap IntKind.i64 (x260 + 1)) (w265)) ∧ (z258 (IntKind.wrap IntKind.i64 (x260 + 1)) w265 < z258 x260 w261))))))))))))))
                (Ca Try.prog (28) (Array.mk [Value.pointer p2]) (w261) (fun v267 => (fun w268 =>
                  (∃ x269 : Int, ((v267 = Value.int IntKind.i64 x269) ∧ (ifK (x269 == 0)
                    (Ca Try.prog (12) (Array.mk []) (w268) (fun v270 => (fun w271 =>
                      (∃ b272 : Bool, ((v270 = Value.bool b272) ∧ (R (Value.bool b272) (w271)))))))
                    (R (Value.bool false) (w268))))))))))))))))))))))))))))))))))))))))))))
theorem ca6 (room : Int) (actsa : Option Addr) (actsl : Nat) (actsc : Nat) (w : World) (R : Value → World → Prop) (h : W6 room actsa actsl actsc w R) : Ca Try.prog 6 ⟨[(.int .u64 room), (.slice actsa actsl actsc)]⟩ w R := by
  have h1 : Try.prog.follows .mixedOrders = true := by kernel_rfl
  have h2 : Try.f6.body = some C6 := by kernel_rfl
  have h3 : (Try.f6.name == "runtime.NumGoroutine") = false := by kernel_rfl
  have h6 : Try.f6.results.toList = [.tmp 4] := by kernel_rfl
  have h4 : Nat.ble 2 157 = true := by kernel_rfl
  have h5 : okCode 157 pl6 ls6 C6 0 = true := by kernel_rfl
  have e : W6 room actsa actsl actsc w R = wpC none Try.prog 157 pl6 ls6 C6 0 (endP Try.prog [.tmp 4] R) (fr0 [(.int .u64 room), (.slice actsa actsl actsc)]) [] w := by kernel_rfl
  exact ca_of' (P := Try.prog) (g := 6) (fn := Try.f6) (c := C6) (m := 157) (rs := [.tmp 4]) (args := [(.int .u64 room), (.slice actsa actsl actsc)]) (pl := pl6) (ls := ls6) (w := w) (R := R) h1 Try.func6 h2 Try.ntmps6 h6 h3 h4 h5 (Eq.mp e h)

/-- staith/staithlaw11.StoreTwice -/
noncomputable def C7 : Code := (Try.f7.body).getD .skip
def pl7 : Nat → Plan := fun _ => .done
def ls7 : Nat → List (Nat × LT)
  | 8 => [(37, (.one (.int .i64)))]
  | 20 => [(12, (.one .slice)), (57, (.one (.int .i64)))]
  | 33 => [(84, (.one (.int .i64)))]
  | _ => []
def W7 (actsa : Option Addr) (actsl : Nat) (actsc : Nat) (a_ : Int) (b : Int) (w : World) (R : Value → World → Prop) : Prop :=
  (Ca Try.prog (13) (Array.mk [Value.int IntKind.i64 10000]) (w) (fun v0 => (fun w1 =>
    (∃ p2 : Option Addr, ((v0 = Value.pointer p2) ∧ (Ca Try.prog (32) (Array.mk [Value.int IntKind.i64 10000]) (w1) (fun v3 => (fun w4 =>
      (∃ p5 : Option Addr, ((v3 = Value.pointer p5) ∧ (ifK (Option.isNone p2)
        (ifK (!Option.isNone p2)
          (Ca Try.prog (12) (Array.mk []) (w4) (fun v6 => (fun w7 =>
            (∃ b8 : Bool, ((v6 = Value.bool b8) ∧ (R (Value.bool b8) (w7)))))))
          (R (Value.bool false) (w4)))
        (Ca Try.prog (27) (Array.mk [Value.slice actsa actsl actsc]) (w4) (fun v9 => (fun w10 =>
          (∃ b11 : Bool, ((v9 = Value.bool b11) ∧ (ifK (!b11)
            (ifK (!Option.isNone p2)
              (Ca Try.prog (12) (Array.mk []) (w10) (fun v12 => (fun w13 =>
                (∃ b14 : Bool, ((v12 = Value.bool b14) ∧ (R (Value.bool b14) (w13)))))))
              (R (Value.bool false) (w10)))
            (∃ z15 : Int → World → Prop, (∃ z16 : Int → World → Nat, ((z15 (0) (w10)) ∧ (∀ (_ : Nat → Value), (∀ (x18 : Int), (∀ (w19 : World), ((z15 (x18) (w19)) → (ifK (decide (x18 < (↑actsl : Int)))
              (∃ a20 : Addr, ((actsa = some a20) ∧ (((0 : Int) ≤ x18) ∧ (((x18 : Int) < (↑actsl : Int)) ∧ (∃ x21 : Int, ((World.cell? w19 (Addr.add (Addr.add a20 (Int.toNat x18 * 6)) 0) = some (Value.int IntKind.i64 x21)) ∧ (∃ s22 : ByteArray, ((World.cell? w19 (Addr.add (Addr.add a20 (Int.toNat x18 * 6)) 1) = some (Value.string s22)) ∧ (∃ s23 : ByteArray, ((World.cell? w19 (Addr.add (Addr.add a20 (Int.toNat x18 * 6)) 2) = some (Value.string s23)) ∧ (∃ p24 : Option Addr, (∃ n25 : Nat, (∃ n26 : Nat, ((World.cell? w19 (Addr.add (Addr.add a20 (Int.toNat x18 * 6)) 3) = some (Value.slice p24 n25 n26)) ∧ (∃ x27 : Int, ((World.cell? w19 (Addr.add (Addr.add a20 (Int.toNat x18 * 6)) 4) = some (Value.int IntKind.i64 x27)) ∧ (∃ x28 : Int, ((World.cell? w19 (Addr.add (Addr.add a20 (Int.toNat x18 * 6)) 5) = some (Value.int IntKind.i64 x28)) ∧ (atW (World.alloc w19 (Obj.cells (Array.mk [Value.int IntKind.i64 0, Value.string (ByteArray.mk #[]), Value.string (ByteArray.mk #[]), Value.slice none 0 0, Value.int IntKind.i64 0, Value.int IntKind.i64 0]) 48 (0, 0))) (fun w29 =>
                ((∃ v30 : Value, (World.cell? w29 (Addr.add (Addr.mk (Array.size (World.heap w19)) 0 none) 0) = some v30)) ∧ ((World.frozen? w29 (Addr.add (Addr.mk (Array.size (World.heap w19)) 0 none) 0) = false) ∧ (atW (World.setCell w29 (Addr.add (Addr.mk (Array.size (World.heap w19)) 0 none) 0) (Value.int IntKind.i64 x21)) (fun w31 =>
                  ((∃ v32 : Value, (World.cell? w31 (Addr.add (Addr.mk (Array.size (World.heap w19)) 0 none) 1) = some v32)) ∧ ((World.frozen? w31 (Addr.add (Addr.mk (Array.size (World.heap w19)) 0 none) 1) = false) ∧ (atW (World.setCell w31 (Addr.add (Addr.mk (Array.size (World.heap w19)) 0 none) 1) (Value.string s22)) (fun w33 =>
                    ((∃ v34 : Value, (World.cell? w33 (Addr.add (Addr.mk (Array.size (World.heap w19)) 0 none) 2) = some v34)) ∧ ((World.frozen? w33 (Addr.add (Addr.mk (Array.size (World.heap w19)) 0 none) 2) = false) ∧ (atW (World.setCell w33 (Addr.add (Addr.mk (Array.size (World.heap w19)) 0 none) 2) (Value.string s23)) (fun w35 =>
                      ((∃ v36 : Value, (World.cell? w35 (Addr.add (Addr.mk (Array.size (World.heap w19)) 0 none) 3) = some v36)) ∧ ((World.frozen? w35 (Addr.add (Addr.mk (Array.size (World.heap w19)) 0 none) 3) = false) ∧ (atW (World.setCell w35 (Addr.add (Addr.mk (Array.size (World.heap w19)) 0 none) 3) (Value.slice p24 n25 n26)) (fun w37 =>
                        ((∃ v38 : Value, (World.cell? w37 (Addr.add (Addr.mk (Array.size (World.heap w19)) 0 none) 4) = some v38)) ∧ ((World.frozen? w37 (Addr.add (Addr.mk (Array.size (World.heap w19)) 0 none) 4) = false) ∧ (atW (World.setCell w37 (Addr.add (Addr.mk (Array.size (World.heap w19)) 0 none) 4) (Value.int IntKind.i64 x27)) (fun w39 =>
                          ((∃ v40 : Value, (World.cell? w39 (Addr.add (Addr.mk (Array.size (World.heap w19)) 0 none) 5) = some v40)) ∧ ((World.frozen? w39 (Addr.add (Addr.mk (Array.size (World.heap w19)) 0 none) 5) = false) ∧ (atW (World.setCell w39 (Addr.add (Addr.mk (Array.size (World.heap w19)) 0 none) 5) (Value.int IntKind.i64 x28)) (fun w41 =>
                            (∃ x42 : Int, ((World.cell? w41 (Addr.add (Addr.mk (Array.size (World.heap w19)) 0 none) 0) = some (Value.int IntKind.i64 x42)) ∧ (∃ s43 : ByteArray, ((World.cell? w41 (Addr.add (Addr.mk (Array.size (World.heap w19)) 0 none) 1) = some (Value.string s43)) ∧ (∃ s44 : ByteArray, ((World.cell? w41 (Addr.add (Addr.mk (Array.size (World.heap w19)) 0 none) 2) = some (Value.string s44)) ∧ (∃ p45 : Option Addr, (∃ n46 : Nat, (∃ n47 : Nat, ((World.cell? w41 (Addr.add (Addr.mk (Array.size (World.heap w19)) 0 none) 3) = some (Value.slice p45 n46 n47)) ∧ (∃ x48 : Int, ((World.cell? w41 (Addr.add (Addr.mk (Array.size (World.heap w19)) 0 none) 4) = some (Value.int IntKind.i64 x48)) ∧ (∃ x49 : Int, ((World.cell? w41 (Addr.add (Addr.mk (Array.size (World.heap w19)) 0 none) 5) = some (Value.int IntKind.i64 x49)) ∧ (Ca Try.prog (33) (Array.mk [Value.pointer p2, Value.pointer p5, Value.agg (Array.mk (List.reverse [Value.int IntKind.i64 x49, Value.int IntKind.i64 x48, Value.slice p45 n46 n47, Value.string s44, Value.string s43, Value.int IntKind.i64 x42]))]) (w41) (fun v50 => (fun w51 =>
                              (∃ b52 : Bool, ((v50 = Value.bool b52) ∧ ((z15 (IntKind.wrap IntKind.i64 (x18 + 1)) (w51)) ∧ (z16 (IntKind.wrap IntKind.i64 (x18 + 1)) w51 < z16 x18 w19)))))))))))))))))))))))))))))))))))))))))))))))))))))))))))))))))
              (Ca Try.prog (19) (Array.mk [Value.pointer p2]) (w19) (fun v53 => (fun w54 =>
                ((v53 = Value.tuple (Array.mk (List.reverse []))) ∧ (Ca Try.prog (18) (Array.mk [Value.pointer p2, Value.int IntKind.i64 a_]) (w54) (fun v55 => (fun w56 =>
                  ((v55 = Value.tuple (Array.mk (List.reverse []))) ∧ (Ca Try.prog (19) (Array.mk [Value.pointer p2]) (w56) (fun v57 => (fun w58 =>
                    ((v57 = Value.tuple (Array.mk (List.reverse []))) ∧ (Ca Try.prog (23) (Array.mk [Value.pointer p2]) (w58) (fun v59 => (fun w60 =>
                      (∃ p61 : Option Addr, (∃ n62 : Nat, (∃ n63 : Nat, ((v59 = Value.slice p61 n62 n63) ∧ (∃ z64 : Option Addr → Nat → Nat → Int → World → Prop, (∃ z65 : Option Addr → Nat → Nat → Int → World → Nat, ((z64 (none) (0) (0) (0) (w60)) ∧ (∀ (_ : Nat → Value), (∀ (p67 : Option Addr), (∀ (n68 : Nat), (∀ (n69 : Nat), (∀ (x70 : Int), (∀ (w71 : World), ((z64 (p67) (n68) (n69) (x70) (w71)) → (ifK (decide (x70 < (↑n62 : Int)))
                        (∃ a72 : Addr, ((p61 = some a72) ∧ (((0 : Int) ≤ x70) ∧ (((x70 : Int) < (↑n62 : Int)) ∧ (∃ s73 : ByteArray, ((World.cell? w71 (Addr.add a72 (Int.toNat x70 * 1)) = some (Value.string s73)) ∧ (Ca Try.prog (20) (Array.mk [Value.pointer p2, Value.string s73]) (w71) (fun v74 => (fun w75 =>
                          (∃ p76 : Option Addr, (∃ n77 : Nat, (∃ n78 : Nat, (∃ x79 : Int, ((v74 = Value.tuple (Array.mk (List.reverse [Value.int IntKind.i64 x79, Value.slice p76 n77 n78]))) ∧ (atW (World.alloc w75 (Obj.cells (Array.mk [Value.slice p76 n77 n78]) 24 (0, 0))) (fun w80 =>
                            (∃ v81 : Value, (∃ w82 : World, ((Sem.run Try.prog (Builtin.append_ (Array.mk [55, 55]) 55 (Array.mk [Value.slice p67 n68 n69, Value.slice (some (Addr.mk (Array.size (World.heap w75)) 0 none)) 1 1])) w80 = Result.ok v81 w82) ∧ (∃ p83 : Option Addr, (∃ n84 : Nat, (∃ n85 : Nat, ((v81 = Value.slice p83 n84 n85) ∧ ((z64 (p83) (n84) (n85) (IntKind.wrap IntKind.i64 (x70 + 1)) (w82)) ∧ (z65 p83 n84 n85 (IntKind.wrap IntKind.i64 (x70 + 1)) w82 < z65 p67 n68 n69 x70 w71)))))))))))))))))))))))))
                        (Ca Try.prog (18) (Array.mk [Value.pointer p2, Value.int IntKind.i64 b]) (w71) (fun v86 => (fun w87 =>
                          ((v86 = Value.tuple (Array.mk (List.reverse []))) ∧ (Ca Try.prog (19) (Array.mk [Value.pointer p2]) (w87) (fun v88 => (fun w89 =>
                            ((v88 = Value.tuple (Array.mk (List.reverse []))) ∧ (Ca Try.prog (23) (Array.mk [Value.pointer p2]) (w89) (fun v90 => (fun w91 =>
                              (∃ p92 : Option Addr, (∃ n93 : Nat, (∃ n94 : Nat, ((v90 = Value.slice p92 n93 n94) ∧ (Ca Try.prog (22) (Array.mk [Value.slice p92 n93 n94, Value.slice p61 n62 n63]) (w91) (fun v95 => (fun w96 =>
                                (∃ b97 : Bool, ((v95 = Value.bool b97) ∧ (ifK (!b97)
                                  (R (Value.bool false) (w96))
                                  (∃ z98 : Int → World → Prop, (∃ z99 : Int → World → Nat, ((z98 (0) (w96)) ∧ (∀ (_ : Nat → Value), (∀ (x101 : Int), (∀ (w102 : World), ((z98 (x101) (w102)) → (ifK (decide (x101 < (↑n62 : Int)))
                                    (∃ a103 : Addr, ((p61 = some a103) ∧ (((0 : Int) ≤ x101) ∧ (((x101 : Int) < (↑n62 : Int)) ∧ (∃ s104 : ByteArray, ((World.cell? w102 (Addr.add a103 (Int.toNat x101 * 1)) = some (Value.string s104)) ∧ (Ca Try.prog (20) (Array.mk [Value.pointer p2, Value.string s104]) (w102) (fun v105 => (fun w106 =>
                                      (∃ p107 : Option Addr, (∃ n108 : Nat, (∃ n109 : Nat, (∃ x110 : Int, ((v105 = Value.tuple (Array.mk (List.reverse [Value.int IntKind.i64 x110, Value.slice p107 n108 n109]))) ∧ (ifK (x110 != 0)
                                        (R (Value.bool false) (w106))
                                        (∃ a111 : Addr, ((p67 = some a111) ∧ (((0 : Int) ≤ x101) ∧ (((x101 : Int) < (↑n68 : Int)) ∧ (∃ p112 : Option Addr, (∃ n113 : Nat, (∃ n114 : Nat, ((World.cell? w106 (Addr.add a111 (Int.toNat x101 * 1)) = some (Value.slice p112 n113 n114)) ∧ (Ca Try.prog (21) (Array.mk [Value.slice p107 n108 n109, Value.slice p112 n113 n114]) (w106) (fun v115 => (fun w116 =>
                                          (∃ b117 : Bool, ((v115 = Value.bool b117) ∧ (ifK (!b117)
                                            (R (Value.bool false) (w116))
                                            ((z98 (IntKind.wrap IntKind.i64 (x101 + 1)) (w116)) ∧ (z99 (IntKind.wrap IntKind.i64 (x101 + 1)) w116 < z99 x101 w102)))))))))))))))))))))))))))))))
                                    (Ca Try.prog (12) (Array.mk []) (w102) (fun v118 => (fun w119 =>
                                      (∃ b120 : Bool, ((v118 = Value.bool b120) ∧ (R (Value.bool b120) (w119)))))))))))))))))))))))))))))))))))))))))))))))))))))))))))))))))))))))))))))))))))))))))))
theorem ca7 (actsa : Option Addr) (actsl : Nat) (actsc : Nat) (a_ : Int) (b : Int) (w : World) (R : Value → World → Prop) (h : W7 actsa actsl actsc a_ b w R) : Ca Try.prog 7 ⟨[(.slice actsa actsl actsc), (.int .i64 a_), (.int .i64 b)]⟩ w R := by
  have h1 : Try.prog.follows .mixedOrders = true := by kernel_rfl
  have h2 : Try.f7.body = some C7 := by kernel_rfl
  have h3 : (Try.f7.name == "runtime.NumGoroutine") = false := by kernel_rfl
  have h6 : Try.f7.results.toList = [.tmp 6] := by kernel_rfl
  have h4 : Nat.ble 3 108 = true := by kernel_rfl
  have h5 : okCode 108 pl7 ls7 C7 0 = true := by kernel_rfl
  have e : W7 actsa actsl actsc a_ b w R = wpC none Try.prog 108 pl7 ls7 C7 0 (endP Try.prog [.tmp 6] R) (fr0 [(.slice actsa actsl actsc), (.int .i64 a_), (.int .i64 b)]) [] w := by kernel_rfl
  exact ca_of' (P := Try.prog) (g := 7) (fn := Try.f7) (c := C7) (m := 108) (rs := [.tmp 6]) (args := [(.slice actsa actsl actsc), (.int .i64 a_), (.int .i64 b)]) (pl := pl7) (ls := ls7) (w := w) (R := R) h1 Try.func7 h2 Try.ntmps7 h6 h3 h4 h5 (Eq.mp e h)

/-- staith/staithlaw11.StoreActs -/
noncomputable def C8 : Code := (Try.f8.body).getD .skip
def pl8 : Nat → Plan
  | 9 => (.quiet 0 (.quiet 1 (.quiet 2 (.eff 3 [] (.quiet 4 (.quiet 5 (.quiet 6 (.quiet 8 (.eff 7 [] (.eff 9 [] (.eff 10 [] (.quiet 11 (.quiet 12 (.quiet 13 (.quiet 14 (.quiet 16 (.eff 15 [] (.eff 17 [] (.quiet 18 (.quiet 19 (.quiet 20 (.quiet 21 (.quiet 23 (.quiet 24 (.quiet 25 (.quiet 26 (.eff 22 [26] (.quiet 27 (.quiet 28 (.quiet 29 (.quiet 30 (.quiet 32 (.quiet 33 (.quiet 34 (.quiet 35 (.eff 31 [35] (.quiet 36 (.quiet 37 .done))))))))))))))))))))))))))))))))))))))
  | _ => .done
def ls8 : Nat → List (Nat × LT)
  | 10 => [(28, (.one (.int .i64)))]
  | _ => []
def W8 (room : Int) (actsa : Option Addr) (actsl : Nat) (actsc : Nat) (w : World) (R : Value → World → Prop) : Prop :=
  (Ca Try.prog (13) (Array.mk [Value.int IntKind.i64 room]) (w) (fun v0 => (fun w1 =>
    (∃ p2 : Option Addr, ((v0 = Value.pointer p2) ∧ (Ca Try.prog (32) (Array.mk [Value.int IntKind.i64 room]) (w1) (fun v3 => (fun w4 =>
      (∃ p5 : Option Addr, ((v3 = Value.pointer p5) ∧ (ifK (!Option.isNone p2 == Option.isNone p5)
        (R (Value.bool false) (w4))
        (ifK (Option.isNone p5)
          (Ca Try.prog (12) (Array.mk []) (w4) (fun v6 => (fun w7 =>
            (∃ b8 : Bool, ((v6 = Value.bool b8) ∧ (R (Value.bool b8) (w7)))))))
          (Ca Try.prog (27) (Array.mk [Value.slice actsa actsl actsc]) (w4) (fun v9 => (fun w10 =>
            (∃ b11 : Bool, ((v9 = Value.bool b11) ∧ (ifK (!b11)
              (Ca Try.prog (12) (Array.mk []) (w10) (fun v12 => (fun w13 =>
                (∃ b14 : Bool, ((v12 = Value.bool b14) ∧ (R (Value.bool b14) (w13)))))))
              (∃ z15 : Int → World → Prop, (∃ z16 : Int → World → Nat, ((z15 (0) (w10)) ∧ (∀ (_ : Nat → Value), (∀ (x18 : Int), (∀ (w19 : World), ((z15 (x18) (w19)) → (ifK (decide (x18 < (↑actsl : Int)))
                (∃ a20 : Addr, ((actsa = some a20) ∧ (((0 : Int) ≤ x18) ∧ (((x18 : Int) < (↑actsl : Int)) ∧ (∃ x21 : Int, ((World.cell? w19 (Addr.add (Addr.add a20 (Int.toNat x18 * 6)) 0) = some (Value.int IntKind.i64 x21)) ∧ (∃ s22 : ByteArray, ((World.cell? w19 (Addr.add (Addr.add a20 (Int.toNat x18 * 6)) 1) = some (Value.string s22)) ∧ (∃ s23 : ByteArray, ((World.cell? w19 (Addr.add (Addr.add a20 (Int.toNat x18 * 6)) 2) = some (Value.string s23)) ∧ (∃ p24 : Option Addr, (∃ n25 : Nat, (∃ n26 : Nat, ((World.cell? w19 (Addr.add (Addr.add a20 (Int.toNat x18 * 6)) 3) = some (Value.slice p24 n25 n26)) ∧ (∃ x27 : Int, ((World.cell? w19 (Addr.add (Addr.add a20 (Int.toNat x18 * 6)) 4) = some (Value.int IntKind.i64 x27)) ∧ (∃ x28 : Int, ((World.cell? w19 (Addr.add (Addr.add a20 (Int.toNat x18 * 6)) 5) = some (Value.int IntKind.i64 x28)) ∧ (atW (World.alloc w19 (Obj.cells (Array.mk [Value.int IntKind.i64 0, Value.string (ByteArray.mk #[]), Value.string (ByteArray.mk #[]), Value.slice none 0 0, Value.int IntKind.i64 0, Value.int IntKind.i64 0]) 48 (0, 0))) (fun w29 =>
                  ((∃ v30 : Value, (World.cell? w29 (Addr.add (Addr.mk (Array.size (World.heap w19)) 0 none) 0) = some v30)) ∧ ((World.frozen? w29 (Addr.add (Addr.mk (Array.size (World.heap w19)) 0 none) 0) = false) ∧ (atW (World.setCell w29 (Addr.add (Addr.mk (Array.size (World.heap w19)) 0 none) 0) (Value.int IntKind.i64 x21)) (fun w31 =>
                    ((∃ v32 : Value, (World.cell? w31 (Addr.add (Addr.mk (Array.size (World.heap w19)) 0 none) 1) = some v32)) ∧ ((World.frozen? w31 (Addr.add (Addr.mk (Array.size (World.heap w19)) 0 none) 1) = false) ∧ (atW (World.setCell w31 (Addr.add (Addr.mk (Array.size (World.heap w19)) 0 none) 1) (Value.string s22)) (fun w33 =>
                      ((∃ v34 : Value, (World.cell? w33 (Addr.add (Addr.mk (Array.size (World.heap w19)) 0 none) 2) = some v34)) ∧ ((World.frozen? w33 (Addr.add (Addr.mk (Array.size (World.heap w19)) 0 none) 2) = false) ∧ (atW (World.setCell w33 (Addr.add (Addr.mk (Array.size (World.heap w19)) 0 none) 2) (Value.string s23)) (fun w35 =>
                        ((∃ v36 : Value, (World.cell? w35 (Addr.add (Addr.mk (Array.size (World.heap w19)) 0 none) 3) = some v36)) ∧ ((World.frozen? w35 (Addr.add (Addr.mk (Array.size (World.heap w19)) 0 none) 3) = false) ∧ (atW (World.setCell w35 (Addr.add (Addr.mk (Array.size (World.heap w19)) 0 none) 3) (Value.slice p24 n25 n26)) (fun w37 =>
                          ((∃ v38 : Value, (World.cell? w37 (Addr.add (Addr.mk (Array.size (World.heap w19)) 0 none) 4) = some v38)) ∧ ((World.frozen? w37 (Addr.add (Addr.mk (Array.size (World.heap w19)) 0 none) 4) = false) ∧ (atW (World.setCell w37 (Addr.add (Addr.mk (Array.size (World.heap w19)) 0 none) 4) (Value.int IntKind.i64 x27)) (fun w39 =>
                            ((∃ v40 : Value, (World.cell? w39 (Addr.add (Addr.mk (Array.size (World.heap w19)) 0 none) 5) = some v40)) ∧ ((World.frozen? w39 (Addr.add (Addr.mk (Array.size (World.heap w19)) 0 none) 5) = false) ∧ (atW (World.setCell w39 (Addr.add (Addr.mk (Array.size (World.heap w19)) 0 none) 5) (Value.int IntKind.i64 x28)) (fun w41 =>
                              (atW (World.drew w41) (fun w42 =>
                                (∃ x43 : Int, ((World.cell? w42 (Addr.add (Addr.mk (Array.size (World.heap w19)) 0 none) 0) = some (Value.int IntKind.i64 x43)) ∧ (∃ s44 : ByteArray, ((World.cell? w42 (Addr.add (Addr.mk (Array.size (World.heap w19)) 0 none) 1) = some (Value.string s44)) ∧ (∃ s45 : ByteArray, ((World.cell? w42 (Addr.add (Addr.mk (Array.size (World.heap w19)) 0 none) 2) = some (Value.string s45)) ∧ (∃ p46 : Option Addr, (∃ n47 : Nat, (∃ n48 : Nat, ((World.cell? w42 (Addr.add (Addr.mk (Array.size (World.heap w19)) 0 none) 3) = some (Value.slice p46 n47 n48)) ∧ (∃ x49 : Int, ((World.cell? w42 (Addr.add (Addr.mk (Array.size (World.heap w19)) 0 none) 4) = some (Value.int IntKind.i64 x49)) ∧ (∃ x50 : Int, ((World.cell? w42 (Addr.add (Addr.mk (Array.size (World.heap w19)) 0 none) 5) = some (Value.int IntKind.i64 x50)) ∧ (Ca Try.prog (33) (Array.mk [Value.pointer p2, Value.pointer p5, Value.agg (Array.mk (List.reverse [Value.int IntKind.i64 x50, Value.int IntKind.i64 x49, Value.slice p46 n47 n48, Value.string s45, Value.string s44, Value.int IntKind.i64 x43]))]) (w42) (fun v51 => (fun w52 =>
                                  (∃ b53 : Bool, ((v51 = Value.bool b53) ∧ (ifK (!b53)
                                    (R (Value.bool false) (w52))
                                    (Ca Try.prog (23) (Array.mk [Value.pointer p2]) (w52) (fun v54 => (fun w55 =>
                                      (∃ p56 : Option Addr, (∃ n57 : Nat, (∃ n58 : Nat, ((v54 = Value.slice p56 n57 n58) ∧ (Ca Try.prog (34) (Array.mk [Value.pointer p5]) (w55) (fun v59 => (fun w60 =>
                                        (∃ p61 : Option Addr, (∃ n62 : Nat, (∃ n63 : Nat, ((v59 = Value.slice p61 n62 n63) ∧ (Ca Try.prog (22) (Array.mk [Value.slice p56 n57 n58, Value.slice p61 n62 n63]) (w60) (fun v64 => (fun w65 =>
                                          (∃ b66 : Bool, ((v64 = Value.bool b66) ∧ (ifK (!b66)
                                            (R (Value.bool false) (w65))
                                            (Ca Try.prog (28) (Array.mk [Value.pointer p2]) (w65) (fun v67 => (fun w68 =>
                                              (∃ x69 : Int, ((v67 = Value.int IntKind.i64 x69) ∧ (Ca Try.prog (35) (Array.mk [Value.pointer p5]) (w68) (fun v70 => (fun w71 =>
                                                (∃ x72 : Int, ((v70 = Value.int IntKind.i64 x72) ∧ (ifK (x69 != x72)
                                                  (R (Value.bool false) (w71))
                                                  (onP (p5) (fun a73 =>
                                                    (∃ x74 : Int, ((World.cell? w71 (Addr.add a73 5) = some (Value.int IntKind.i64 x74)) ∧ (Ca Try.prog (29) (Array.mk [Value.pointer p2]) (w71) (fun v75 => (fun w76 =>
                                                      (∃ x77 : Int, ((v75 = Value.int IntKind.i64 x77) ∧ ((World.cell? w76 (Addr.add (Addr.add a73 5) 0) = some (Value.int IntKind.i64 x74)) ∧ (ifK (x77 != x74)
                                                        (R (Value.bool false) (w76))
                                                        (onP (p5) (fun a78 =>
                                                          (∃ b79 : Bool, ((World.cell? w76 (Addr.add a78 4) = some (Value.bool b79)) ∧ (Ca Try.prog (26) (Array.mk [Value.pointer p2]) (w76) (fun v80 => (fun w81 =>
                                                            (∃ b82 : Bool, ((v80 = Value.bool b82) ∧ ((World.cell? w81 (Addr.add (Addr.add a78 4) 0) = some (Value.bool b79)) ∧ (ifK (b82 == b79)
                                                              (R (Value.bool false) (w81))
                                                              ((z15 (IntKind.wrap IntKind.i64 (x18 + 1)) (w81)) ∧ (z16 (IntKind.wrap IntKind.i64 (x18 + 1)) w81 < z16 x18 w19)))))))))))))))))))))))))))))))))))))))))))))))))))))))))))))))))))))))))))))))))))))))))))))))))))))))))))))))))))))))))
                (Ca Try.prog (12) (Array.mk []) (w19) (fun v83 => (fun w84 =>
                  (∃ b85 : Bool, ((v83 = Value.bool b85) ∧ (R (Value.bool b85) (w84)))))))))))))))))))))))))))))))))
theorem ca8 (room : Int) (actsa : Option Addr) (actsl : Nat) (actsc : Nat) (w : World) (R : Value → World → Prop) (h : W8 room actsa actsl actsc w R) : Ca Try.prog 8 ⟨[(.int .i64 room), (.slice actsa actsl actsc)]⟩ w R := by
  have h1 : Try.prog.follows .mixedOrders = true := by kernel_rfl
  have h2 : Try.f8.body = some C8 := by kernel_rfl
  have h3 : (Try.f8.name == "runtime.NumGoroutine") = false := by kernel_rfl
  have h6 : Try.f8.results.toList = [.tmp 4] := by kernel_rfl
  have h4 : Nat.ble 2 72 = true := by kernel_rfl
  have h5 : okCode 72 pl8 ls8 C8 0 = true := by kernel_rfl
  have e : W8 room actsa actsl actsc w R = wpC none Try.prog 72 pl8 ls8 C8 0 (endP Try.prog [.tmp 4] R) (fr0 [(.int .i64 room), (.slice actsa actsl actsc)]) [] w := by kernel_rfl
  exact ca_of' (P := Try.prog) (g := 8) (fn := Try.f8) (c := C8) (m := 72) (rs := [.tmp 4]) (args := [(.int .i64 room), (.slice actsa actsl actsc)]) (pl := pl8) (ls := ls8) (w := w) (R := R) h1 Try.func8 h2 Try.ntmps8 h6 h3 h4 h5 (Eq.mp e h)

/-- staith/staithlaw11.StoreNone -/
noncomputable def C9 : Code := (Try.f9.body).getD .skip
def pl9 : Nat → Plan := fun _ => .done
def ls9 : Nat → List (Nat × LT)
  | 4 => [(9, (.one (.int .i64)))]
  | _ => []
def W9 (a0_ : Int) (a1_ : ByteArray) (a2_ : ByteArray) (a3_a : Option Addr) (a3_l : Nat) (a3_c : Nat) (a4_ : Int) (a5_ : Int) (w : World) (R : Value → World → Prop) : Prop :=
  (atW (World.alloc w (Obj.cells (Array.mk [Value.int IntKind.i64 a0_, Value.string a1_, Value.string a2_, Value.slice a3_a a3_l a3_c, Value.int IntKind.i64 a4_, Value.int IntKind.i64 a5_]) 48 (0, 0))) (fun w0 =>
    (atW (World.alloc w0 (Obj.cells (Array.mk [Value.int IntKind.i64 0, Value.map none, Value.map none, Value.bool false, Value.int IntKind.i64 0, Value.int IntKind.i64 0, Value.int IntKind.i64 0]) 65 (0, 0))) (fun w1 =>
      (∃ z2 : Int → World → Prop, (∃ z3 : Int → World → Nat, ((z2 (0) (w1)) ∧ (∀ (_ : Nat → Value), (∀ (x5 : Int), (∀ (w6 : World), ((z2 (x5) (w6)) → (ifK (decide (x5 < 2))
        (∃ v7 : Value, (∃ w8 : World, ((Sem.run Try.prog (Instr.index 66 (Value.agg (Array.mk [Value.pointer none, Value.pointer (some (Addr.mk (Array.size (World.heap w0)) 0 none))])) (Value.int IntKind.i64 x5)) w6 = Result.ok v7 w8) ∧ (∃ p9 : Option Addr, ((v7 = Value.pointer p9) ∧ (∃ x10 : Int, ((World.cell? w8 (Addr.add (Addr.mk (Array.size (World.heap w)) 0 none) 4) = some (Value.int IntKind.i64 x10)) ∧ (Ca Try.prog (18) (Array.mk [Value.pointer p9, Value.int IntKind.i64 x10]) (w8) (fun v11 => (fun w12 =>
          ((v11 = Value.tuple (Array.mk (List.reverse []))) ∧ (Ca Try.prog (19) (Array.mk [Value.pointer p9]) (w12) (fun v13 => (fun w14 =>
            ((v13 = Value.tuple (Array.mk (List.reverse []))) ∧ (∃ s15 : ByteArray, ((World.cell? w14 (Addr.add (Addr.mk (Array.size (World.heap w)) 0 none) 1) = some (Value.string s15)) ∧ (Ca Try.prog (20) (Array.mk [Value.pointer p9, Value.string s15]) (w14) (fun v16 => (fun w17 =>
              (∃ p18 : Option Addr, (∃ n19 : Nat, (∃ n20 : Nat, (∃ x21 : Int, ((v16 = Value.tuple (Array.mk (List.reverse [Value.int IntKind.i64 x21, Value.slice p18 n19 n20]))) ∧ (∃ s22 : ByteArray, ((World.cell? w17 (Addr.add (Addr.mk (Array.size (World.heap w)) 0 none) 1) = some (Value.string s22)) ∧ (Ca Try.prog (14) (Array.mk [Value.pointer p9, Value.string s22]) (w17) (fun v23 => (fun w24 =>
                (∃ x25 : Int, ((v23 = Value.int IntKind.i64 x25) ∧ (ifK (x25 != 1)
                  (R (Value.bool false) (w24))
                  (∃ s26 : ByteArray, ((World.cell? w24 (Addr.add (Addr.mk (Array.size (World.heap w)) 0 none) 1) = some (Value.string s26)) ∧ (∃ p27 : Option Addr, (∃ n28 : Nat, (∃ n29 : Nat, ((World.cell? w24 (Addr.add (Addr.mk (Array.size (World.heap w)) 0 none) 3) = some (Value.slice p27 n28 n29)) ∧ (Ca Try.prog (15) (Array.mk [Value.pointer p9, Value.string s26, Value.slice p27 n28 n29]) (w24) (fun v30 => (fun w31 =>
                    (∃ x32 : Int, ((v30 = Value.int IntKind.i64 x32) ∧ (ifK (x32 != 1)
                      (R (Value.bool false) (w31))
                      (∃ s33 : ByteArray, ((World.cell? w31 (Addr.add (Addr.mk (Array.size (World.heap w)) 0 none) 1) = some (Value.string s33)) ∧ (∃ x34 : Int, ((World.cell? w31 (Addr.add (Addr.mk (Array.size (World.heap w)) 0 none) 4) = some (Value.int IntKind.i64 x34)) ∧ (Ca Try.prog (30) (Array.mk [Value.pointer p9, Value.string s33, Value.int IntKind.i64 x34]) (w31) (fun v35 => (fun w36 =>
                        (∃ x37 : Int, ((v35 = Value.int IntKind.i64 x37) ∧ (ifK (x37 != 1)
                          (R (Value.bool false) (w36))
                          (∃ s38 : ByteArray, ((World.cell? w36 (Addr.add (Addr.mk (Array.size (World.heap w)) 0 none) 1) = some (Value.string s38)) ∧ (Ca Try.prog (16) (Array.mk [Value.pointer p9, Value.string s38]) (w36) (fun v39 => (fun w40 =>
                            (∃ x41 : Int, ((v39 = Value.int IntKind.i64 x41) ∧ (ifK (x41 != 1)
                              (R (Value.bool false) (w40))
                              (∃ s42 : ByteArray, ((World.cell? w40 (Addr.add (Addr.mk (Array.size (World.heap w)) 0 none) 1) = some (Value.string s42)) ∧ (∃ s43 : ByteArray, ((World.cell? w40 (Addr.add (Addr.mk (Array.size (World.heap w)) 0 none) 2) = some (Value.string s43)) ∧ (Ca Try.prog (25) (Array.mk [Value.pointer p9, Value.string s42, Value.string s43]) (w40) (fun v44 => (fun w45 =>
                                (∃ x46 : Int, ((v44 = Value.int IntKind.i64 x46) ∧ (ifK (x46 != 1)
                                  (R (Value.bool false) (w45))
                                  (∃ s47 : ByteArray, ((World.cell? w45 (Addr.add (Addr.mk (Array.size (World.heap w)) 0 none) 1) = some (Value.string s47)) ∧ (Ca Try.prog (31) (Array.mk [Value.pointer p9, Value.string s47]) (w45) (fun v48 => (fun w49 =>
                                    (∃ x50 : Int, ((v48 = Value.int IntKind.i64 x50) ∧ (ifK (x50 != 1)
                                      (R (Value.bool false) (w49))
                                      (Ca Try.prog (17) (Array.mk [Value.pointer p9]) (w49) (fun v51 => (fun w52 =>
                                        (∃ x53 : Int, ((v51 = Value.int IntKind.i64 x53) ∧ (ifK (x53 != 1)
                                          (R (Value.bool false) (w52))
                                          (∃ x54 : Int, ((World.cell? w52 (Addr.add (Addr.mk (Array.size (World.heap w)) 0 none) 4) = some (Value.int IntKind.i64 x54)) ∧ (∃ x55 : Int, ((World.cell? w52 (Addr.add (Addr.mk (Array.size (World.heap w)) 0 none) 5) = some (Value.int IntKind.i64 x55)) ∧ (Ca Try.prog (24) (Array.mk [Value.pointer p9, Value.int IntKind.i64 x54, Value.int IntKind.i64 x55]) (w52) (fun v56 => (fun w57 =>
                                            (∃ x58 : Int, ((v56 = Value.int IntKind.i64 x58) ∧ (ifK (x58 != 1)
                                              (R (Value.bool false) (w57))
                                              (ifK (x21 != 1)
                                                (R (Value.bool false) (w57))
                                                (Ca Try.prog (23) (Array.mk [Value.pointer p9]) (w57) (fun v59 => (fun w60 =>
                                                  (∃ p61 : Option Addr, (∃ n62 : Nat, (∃ n63 : Nat, ((v59 = Value.slice p61 n62 n63) ∧ (Ca Try.prog (28) (Array.mk [Value.pointer p9]) (w60) (fun v64 => (fun w65 =>
                                                    (∃ x66 : Int, ((v64 = Value.int IntKind.i64 x66) ∧ (Ca Try.prog (29) (Array.mk [Value.pointer p9]) (w65) (fun v67 => (fun w68 =>
                                                      (∃ x69 : Int, ((v67 = Value.int IntKind.i64 x69) ∧ (ifK (IntKind.wrap IntKind.i64 (IntKind.wrap IntKind.i64 ((↑n62 : Int) + x66) + x69) != 0)
                                                        (R (Value.bool false) (w68))
                                                        (Ca Try.prog (26) (Array.mk [Value.pointer p9]) (w68) (fun v70 => (fun w71 =>
                                                          (∃ b72 : Bool, ((v70 = Value.bool b72) ∧ (ifK (b72)
                                                            (R (Value.bool false) (w71))
                                                            ((z2 (IntKind.wrap IntKind.i64 (x5 + 1)) (w71)) ∧ (z3 (IntKind.wrap IntKind.i64 (x5 + 1)) w71 < z3 x5 w6))))))))))))))))))))))))))))))))))))))))))))))))))))))))))))))))))))))))))))))))))))))))))))))))))))))))))))))))))))))))))))
        (Ca Try.prog (12) (Array.mk []) (w6) (fun v73 => (fun w74 =>
          (∃ b75 : Bool, ((v73 = Value.bool b75) ∧ (R (Value.bool b75) (w74)))))))))))))))))))
theorem ca9 (a0_ : Int) (a1_ : ByteArray) (a2_ : ByteArray) (a3_a : Option Addr) (a3_l : Nat) (a3_c : Nat) (a4_ : Int) (a5_ : Int) (w : World) (R : Value → World → Prop) (h : W9 a0_ a1_ a2_ a3_a a3_l a3_c a4_ a5_ w R) : Ca Try.prog 9 ⟨[(.agg ⟨[(.int .i64 a0_), (.string a1_), (.string a2_), (.slice a3_a a3_l a3_c), (.int .i64 a4_), (.int .i64 a5_)]⟩)]⟩ w R := by
  have h1 : Try.prog.follows .mixedOrders = true := by kernel_rfl
  have h2 : Try.f9.body = some C9 := by kernel_rfl
  have h3 : (Try.f9.name == "runtime.NumGoroutine") = false := by kernel_rfl
  have h6 : Try.f9.results.toList = [.tmp 2] := by kernel_rfl
  have h4 : Nat.ble 1 105 = true := by kernel_rfl
  have h5 : okCode 105 pl9 ls9 C9 0 = true := by kernel_rfl
  have e : W9 a0_ a1_ a2_ a3_a a3_l a3_c a4_ a5_ w R = wpC none Try.prog 105 pl9 ls9 C9 0 (endP Try.prog [.tmp 2] R) (fr0 [(.agg ⟨[(.int .i64 a0_), (.string a1_), (.string a2_), (.slice a3_a a3_l a3_c), (.int .i64 a4_), (.int .i64 a5_)]⟩)]) [] w := by kernel_rfl
  exact ca_of' (P := Try.prog) (g := 9) (fn := Try.f9) (c := C9) (m := 105) (rs := [.tmp 2]) (args := [(.agg ⟨[(.int .i64 a0_), (.string a1_), (.string a2_), (.slice a3_a a3_l a3_c), (.int .i64 a4_), (.int .i64 a5_)]⟩)]) (pl := pl9) (ls := ls9) (w := w) (R := R) h1 Try.func9 h2 Try.ntmps9 h6 h3 h4 h5 (Eq.mp e h)

/-- staith/staithlaw11.light -/
noncomputable def C27 : Code := (Try.f27.body).getD .skip
def pl27 : Nat → Plan := fun _ => .done
def ls27 : Nat → List (Nat × LT)
  | 4 => [(3, (.one (.int .i64))), (8, (.one (.int .i64)))]
  | _ => []
def W27 (actsa : Option Addr) (actsl : Nat) (_actsc : Nat) (w : World) (R : Value → World → Prop) : Prop :=
  (∃ z0 : Int → Int → World → Prop, (∃ z1 : Int → Int → World → Nat, ((z0 (0) (0) (w)) ∧ (∀ (_ : Nat → Value), (∀ (x3 : Int), (∀ (x4 : Int), (∀ (w5 : World), ((z0 (x3) (x4) (w5)) → (ifK (decide (x4 < (↑actsl : Int)))
    (∃ a6 : Addr, ((actsa = some a6) ∧ (((0 : Int) ≤ x4) ∧ (((x4 : Int) < (↑actsl : Int)) ∧ (∃ x7 : Int, ((World.cell? w5 (Addr.add (Addr.add a6 (Int.toNat x4 * 6)) 0) = some (Value.int IntKind.i64 x7)) ∧ (∃ s8 : ByteArray, ((World.cell? w5 (Addr.add (Addr.add a6 (Int.toNat x4 * 6)) 1) = some (Value.string s8)) ∧ (∃ s9 : ByteArray, ((World.cell? w5 (Addr.add (Addr.add a6 (Int.toNat x4 * 6)) 2) = some (Value.string s9)) ∧ (∃ p10 : Option Addr, (∃ n11 : Nat, (∃ n12 : Nat, ((World.cell? w5 (Addr.add (Addr.add a6 (Int.toNat x4 * 6)) 3) = some (Value.slice p10 n11 n12)) ∧ (∃ x13 : Int, ((World.cell? w5 (Addr.add (Addr.add a6 (Int.toNat x4 * 6)) 4) = some (Value.int IntKind.i64 x13)) ∧ (∃ x14 : Int, ((World.cell? w5 (Addr.add (Addr.add a6 (Int.toNat x4 * 6)) 5) = some (Value.int IntKind.i64 x14)) ∧ (atW (World.alloc w5 (Obj.cells (Array.mk [Value.int IntKind.i64 0, Value.string (ByteArray.mk #[]), Value.string (ByteArray.mk #[]), Value.slice none 0 0, Value.int IntKind.i64 0, Value.int IntKind.i64 0]) 48 (0, 0))) (fun w15 =>
      ((∃ v16 : Value, (World.cell? w15 (Addr.add (Addr.mk (Array.size (World.heap w5)) 0 none) 0) = some v16)) ∧ ((World.frozen? w15 (Addr.add (Addr.mk (Array.size (World.heap w5)) 0 none) 0) = false) ∧ (atW (World.setCell w15 (Addr.add (Addr.mk (Array.size (World.heap w5)) 0 none) 0) (Value.int IntKind.i64 x7)) (fun w17 =>
        ((∃ v18 : Value, (World.cell? w17 (Addr.add (Addr.mk (Array.size (World.heap w5)) 0 none) 1) = some v18)) ∧ ((World.frozen? w17 (Addr.add (Addr.mk (Array.size (World.heap w5)) 0 none) 1) = false) ∧ (atW (World.setCell w17 (Addr.add (Addr.mk (Array.size (World.heap w5)) 0 none) 1) (Value.string s8)) (fun w19 =>
          ((∃ v20 : Value, (World.cell? w19 (Addr.add (Addr.mk (Array.size (World.heap w5)) 0 none) 2) = some v20)) ∧ ((World.frozen? w19 (Addr.add (Addr.mk (Array.size (World.heap w5)) 0 none) 2) = false) ∧ (atW (World.setCell w19 (Addr.add (Addr.mk (Array.size (World.heap w5)) 0 none) 2) (Value.string s9)) (fun w21 =>
            ((∃ v22 : Value, (World.cell? w21 (Addr.add (Addr.mk (Array.size (World.heap w5)) 0 none) 3) = some v22)) ∧ ((World.frozen? w21 (Addr.add (Addr.mk (Array.size (World.heap w5)) 0 none) 3) = false) ∧ (atW (World.setCell w21 (Addr.add (Addr.mk (Array.size (World.heap w5)) 0 none) 3) (Value.slice p10 n11 n12)) (fun w23 =>
              ((∃ v24 : Value, (World.cell? w23 (Addr.add (Addr.mk (Array.size (World.heap w5)) 0 none) 4) = some v24)) ∧ ((World.frozen? w23 (Addr.add (Addr.mk (Array.size (World.heap w5)) 0 none) 4) = false) ∧ (atW (World.setCell w23 (Addr.add (Addr.mk (Array.size (World.heap w5)) 0 none) 4) (Value.int IntKind.i64 x13)) (fun w25 =>
                ((∃ v26 : Value, (World.cell? w25 (Addr.add (Addr.mk (Array.size (World.heap w5)) 0 none) 5) = some v26)) ∧ ((World.frozen? w25 (Addr.add (Addr.mk (Array.size (World.heap w5)) 0 none) 5) = false) ∧ (atW (World.setCell w25 (Addr.add (Addr.mk (Array.size (World.heap w5)) 0 none) 5) (Value.int IntKind.i64 x14)) (fun w27 =>
                  (∃ p28 : Option Addr, (∃ n29 : Nat, (∃ n30 : Nat, ((World.cell? w27 (Addr.add (Addr.mk (Array.size (World.heap w5)) 0 none) 3) = some (Value.slice p28 n29 n30)) ∧ (∃ s31 : ByteArray, ((World.cell? w27 (Addr.add (Addr.mk (Array.size (World.heap w5)) 0 none) 1) = some (Value.string s31)) ∧ (∃ s32 : ByteArray, ((World.cell? w27 (Addr.add (Addr.mk (Array.size (World.heap w5)) 0 none) 2) = some (Value.string s32)) ∧ (((50 : Int) ≠ 0) ∧ (ifK (decide (IntKind.wrap IntKind.i64 (x3 + IntKind.wrap IntKind.i64 (1 + IntKind.wrap IntKind.i64 (Int.tdiv (IntKind.wrap IntKind.i64 (IntKind.wrap IntKind.i64 ((↑n29 : Int) + (↑(ByteArray.size s31) : Int)) + (↑(ByteArray.size s32) : Int))) 50))) > 250))
                    (R (Value.bool false) (w27))
                    ((z0 (IntKind.wrap IntKind.i64 (x3 + IntKind.wrap IntKind.i64 (1 + IntKind.wrap IntKind.i64 (Int.tdiv (IntKind.wrap IntKind.i64 (IntKind.wrap IntKind.i64 ((↑n29 : Int) + (↑(ByteArray.size s31) : Int)) + (↑(ByteArray.size s32) : Int))) 50)))) (IntKind.wrap IntKind.i64 (x4 + 1)) (w27)) ∧ (z1 (IntKind.wrap IntKind.i64 (x3 + IntKind.wrap IntKind.i64 (1 + IntKind.wrap IntKind.i64 (Int.tdiv (IntKind.wrap IntKind.i64 (IntKind.wrap IntKind.i64 ((↑n29 : Int) + (↑(ByteArray.size s31) : Int)) + (↑(ByteArray.size s32) : Int))) 50)))) (IntKind.wrap IntKind.i64 (x4 + 1)) w27 < z1 x3 x4 w5))))))))))))))))))))))))))))))))))))))))))))))))))))))))
    (R (Value.bool true) (w5)))))))))))
theorem ca27 (actsa : Option Addr) (actsl : Nat) (actsc : Nat) (w : World) (R : Value → World → Prop) (h : W27 actsa actsl actsc w R) : Ca Try.prog 27 ⟨[(.slice actsa actsl actsc)]⟩ w R := by
  have h1 : Try.prog.follows .mixedOrders = true := by kernel_rfl
  have h2 : Try.f27.body = some C27 := by kernel_rfl
  have h3 : (Try.f27.name == "runtime.NumGoroutine") = false := by kernel_rfl
  have h6 : Try.f27.results.toList = [.tmp 2] := by kernel_rfl
  have h4 : Nat.ble 1 30 = true := by kernel_rfl
  have h5 : okCode 30 pl27 ls27 C27 0 = true := by kernel_rfl
  have e : W27 actsa actsl actsc w R = wpC none Try.prog 30 pl27 ls27 C27 0 (endP Try.prog [.tmp 2] R) (fr0 [(.slice actsa actsl actsc)]) [] w := by kernel_rfl
  exact ca_of' (P := Try.prog) (g := 27) (fn := Try.f27) (c := C27) (m := 30) (rs := [.tmp 2]) (args := [(.slice actsa actsl actsc)]) (pl := pl27) (ls := ls27) (w := w) (R := R) h1 Try.func27 h2 Try.ntmps27 h6 h3 h4 h5 (Eq.mp e h)

/-- staith/staithlaw11.act -/
noncomputable def C33 : Code := (Try.f33.body).getD .skip
def pl33 : Nat → Plan
  | 3 => (.quiet 0 (.quiet 1 (.quiet 2 (.quiet 4 (.quiet 5 (.quiet 6 (.eff 3 [6] (.eff 7 [] (.quiet 8 (.quiet 9 .done))))))))))
  | 6 => (.quiet 0 (.quiet 1 (.quiet 2 (.quiet 3 (.quiet 5 (.quiet 6 (.quiet 7 (.quiet 8 (.quiet 9 (.eff 4 [7, 9] (.eff 10 [] (.quiet 11 (.quiet 12 (.quiet 13 (.quiet 14 (.quiet 15 (.eff 16 [] (.quiet 17 (.quiet 18 .done)))))))))))))))))))
  | 8 => (.quiet 0 (.quiet 1 (.quiet 2 (.quiet 3 (.quiet 4 (.quiet 6 (.quiet 7 (.quiet 8 (.quiet 9 (.quiet 10 (.eff 5 [8, 10] (.eff 11 [] (.quiet 12 (.quiet 13 .done))))))))))))))
  | 10 => (.quiet 0 (.quiet 1 (.quiet 2 (.quiet 4 (.quiet 5 (.quiet 6 (.eff 3 [6] (.eff 7 [] (.quiet 8 (.quiet 9 .done))))))))))
  | 12 => (.quiet 0 (.quiet 1 (.quiet 2 (.quiet 3 (.quiet 4 (.quiet 6 (.quiet 7 (.quiet 8 (.quiet 9 (.quiet 10 (.eff 5 [8, 10] (.eff 11 [] (.quiet 12 (.quiet 13 .done))))))))))))))
  | 14 => (.quiet 0 (.quiet 1 (.quiet 2 (.quiet 4 (.quiet 5 (.quiet 6 (.eff 3 [6] (.eff 7 [] (.quiet 8 (.quiet 9 .done))))))))))
  | 22 => (.quiet 0 (.quiet 1 (.quiet 2 (.quiet 3 (.quiet 4 (.quiet 6 (.quiet 7 (.quiet 8 (.quiet 9 (.quiet 10 (.eff 5 [8, 10] (.eff 11 [] (.quiet 12 (.quiet 13 .done))))))))))))))
  | _ => .done
def ls33 : Nat → List (Nat × LT) := fun _ => []
def W33 (s : Option Addr) (r : Option Addr) (a0_ : Int) (a1_ : ByteArray) (a2_ : ByteArray) (a3_a : Option Addr) (a3_l : Nat) (a3_c : Nat) (a4_ : Int) (a5_ : Int) (w : World) (R : Value → World → Prop) : Prop :=
  (atW (World.alloc w (Obj.cells (Array.mk [Value.int IntKind.i64 a0_, Value.string a1_, Value.string a2_, Value.slice a3_a a3_l a3_c, Value.int IntKind.i64 a4_, Value.int IntKind.i64 a5_]) 48 (0, 0))) (fun w0 =>
    (∃ x1 : Int, ((World.cell? w0 (Addr.add (Addr.mk (Array.size (World.heap w)) 0 none) 0) = some (Value.int IntKind.i64 x1)) ∧ (ifK (x1 == 0)
      (atW (World.drew w0) (fun w2 =>
        (∃ s3 : ByteArray, ((World.cell? w2 (Addr.add (Addr.mk (Array.size (World.heap w)) 0 none) 1) = some (Value.string s3)) ∧ (∃ s4 : ByteArray, ((World.cell? w2 (Addr.add (Addr.mk (Array.size (World.heap w)) 0 none) 1) = some (Value.string s4)) ∧ (Ca Try.prog (14) (Array.mk [Value.pointer s, Value.string s3]) (w2) (fun v5 => (fun w6 =>
          (∃ x7 : Int, ((v5 = Value.int IntKind.i64 x7) ∧ ((World.cell? w6 (Addr.add (Addr.add (Addr.mk (Array.size (World.heap w)) 0 none) 1) 0) = some (Value.string s4)) ∧ (Ca Try.prog (54) (Array.mk [Value.pointer r, Value.string s4]) (w6) (fun v8 => (fun w9 =>
            (∃ x10 : Int, ((v8 = Value.int IntKind.i64 x10) ∧ (R (Value.bool (x7 == x10)) (w9)))))))))))))))))))
      (ifK (x1 == 1)
        (∃ p11 : Option Addr, (∃ n12 : Nat, (∃ n13 : Nat, ((World.cell? w0 (Addr.add (Addr.mk (Array.size (World.heap w)) 0 none) 3) = some (Value.slice p11 n12 n13)) ∧ (Ca Try.prog (55) (Array.mk [Value.slice p11 n12 n13]) (w0) (fun v14 => (fun w15 =>
          (∃ p16 : Option Addr, (∃ n17 : Nat, (∃ n18 : Nat, (∃ p19 : Option Addr, (∃ n20 : Nat, (∃ n21 : Nat, ((v14 = Value.tuple (Array.mk (List.reverse [Value.slice p19 n20 n21, Value.slice p16 n17 n18]))) ∧ (atW (World.drew w15) (fun w22 =>
            (∃ s23 : ByteArray, ((World.cell? w22 (Addr.add (Addr.mk (Array.size (World.heap w)) 0 none) 1) = some (Value.string s23)) ∧ (∃ s24 : ByteArray, ((World.cell? w22 (Addr.add (Addr.mk (Array.size (World.heap w)) 0 none) 1) = some (Value.string s24)) ∧ (∃ p25 : Option Addr, (∃ n26 : Nat, (∃ n27 : Nat, ((World.cell? w22 (Addr.add (Addr.mk (Array.size (World.heap w)) 0 none) 3) = some (Value.slice p25 n26 n27)) ∧ (Ca Try.prog (15) (Array.mk [Value.pointer s, Value.string s23, Value.slice p19 n20 n21]) (w22) (fun v28 => (fun w29 =>
              (∃ x30 : Int, ((v28 = Value.int IntKind.i64 x30) ∧ ((World.cell? w29 (Addr.add (Addr.add (Addr.mk (Array.size (World.heap w)) 0 none) 1) 0) = some (Value.string s24)) ∧ ((World.cell? w29 (Addr.add (Addr.add (Addr.mk (Array.size (World.heap w)) 0 none) 3) 0) = some (Value.slice p25 n26 n27)) ∧ (Ca Try.prog (56) (Array.mk [Value.pointer r, Value.string s24, Value.slice p25 n26 n27]) (w29) (fun v31 => (fun w32 =>
                (∃ x33 : Int, ((v31 = Value.int IntKind.i64 x33) ∧ (ifK (x30 == x33)
                  (∃ p34 : Option Addr, (∃ n35 : Nat, (∃ n36 : Nat, ((World.cell? w32 (Addr.add (Addr.mk (Array.size (World.heap w)) 0 none) 3) = some (Value.slice p34 n35 n36)) ∧ (Ca Try.prog (57) (Array.mk [Value.slice p16 n17 n18, Value.slice p34 n35 n36]) (w32) (fun v37 => (fun w38 =>
                    (∃ b39 : Bool, ((v37 = Value.bool b39) ∧ (R (Value.bool b39) (w38)))))))))))
                  (R (Value.bool false) (w32)))))))))))))))))))))))))))))))))))))))
        (ifK (x1 == 2)
          (atW (World.drew w0) (fun w40 =>
            (∃ s41 : ByteArray, ((World.cell? w40 (Addr.add (Addr.mk (Array.size (World.heap w)) 0 none) 1) = some (Value.string s41)) ∧ (∃ x42 : Int, ((World.cell? w40 (Addr.add (Addr.mk (Array.size (World.heap w)) 0 none) 4) = some (Value.int IntKind.i64 x42)) ∧ (∃ s43 : ByteArray, ((World.cell? w40 (Addr.add (Addr.mk (Array.size (World.heap w)) 0 none) 1) = some (Value.string s43)) ∧ (∃ x44 : Int, ((World.cell? w40 (Addr.add (Addr.mk (Array.size (World.heap w)) 0 none) 4) = some (Value.int IntKind.i64 x44)) ∧ (Ca Try.prog (30) (Array.mk [Value.pointer s, Value.string s41, Value.int IntKind.i64 x42]) (w40) (fun v45 => (fun w46 =>
              (∃ x47 : Int, ((v45 = Value.int IntKind.i64 x47) ∧ ((World.cell? w46 (Addr.add (Addr.add (Addr.mk (Array.size (World.heap w)) 0 none) 1) 0) = some (Value.string s43)) ∧ ((World.cell? w46 (Addr.add (Addr.add (Addr.mk (Array.size (World.heap w)) 0 none) 4) 0) = some (Value.int IntKind.i64 x44)) ∧ (Ca Try.prog (58) (Array.mk [Value.pointer r, Value.string s43, Value.int IntKind.i64 x44]) (w46) (fun v48 => (fun w49 =>
                (∃ x50 : Int, ((v48 = Value.int IntKind.i64 x50) ∧ (R (Value.bool (x47 == x50)) (w49))))))))))))))))))))))))
          (ifK (x1 == 3)
            (atW (World.drew w0) (fun w51 =>
              (∃ s52 : ByteArray, ((World.cell? w51 (Addr.add (Addr.mk (Array.size (World.heap w)) 0 none) 1) = some (Value.string s52)) ∧ (∃ s53 : ByteArray, ((World.cell? w51 (Addr.add (Addr.mk (Array.size (World.heap w)) 0 none) 1) = some (Value.string s53)) ∧ (Ca Try.prog (16) (Array.mk [Value.pointer s, Value.string s52]) (w51) (fun v54 => (fun w55 =>
                (∃ x56 : Int, ((v54 = Value.int IntKind.i64 x56) ∧ ((World.cell? w55 (Addr.add (Addr.add (Addr.mk (Array.size (World.heap w)) 0 none) 1) 0) = some (Value.string s53)) ∧ (Ca Try.prog (59) (Array.mk [Value.pointer r, Value.string s53]) (w55) (fun v57 => (fun w58 =>
                  (∃ x59 : Int, ((v57 = Value.int IntKind.i64 x59) ∧ (R (Value.bool (x56 == x59)) (w58)))))))))))))))))))
            (ifK (x1 == 4)
              (atW (World.drew w0) (fun w60 =>
                (∃ s61 : ByteArray, ((World.cell? w60 (Addr.add (Addr.mk (Array.size (World.heap w)) 0 none) 1) = some (Value.string s61)) ∧ (∃ s62 : ByteArray, ((World.cell? w60 (Addr.add (Addr.mk (Array.size (World.heap w)) 0 none) 2) = some (Value.string s62)) ∧ (∃ s63 : ByteArray, ((World.cell? w60 (Addr.add (Addr.mk (Array.size (World.heap w)) 0 none) 1) = some (Value.string s63)) ∧ (∃ s64 : ByteArray, ((World.cell? w60 (Addr.add (Addr.mk (Array.size (World.heap w)) 0 none) 2) = some (Value.string s64)) ∧ (Ca Try.prog (25) (Array.mk [Value.pointer s, Value.string s61, Value.string s62]) (w60) (fun v65 => (fun w66 =>
                  (∃ x67 : Int, ((v65 = Value.int IntKind.i64 x67) ∧ ((World.cell? w66 (Addr.add (Addr.add (Addr.mk (Array.size (World.heap w)) 0 none) 1) 0) = some (Value.string s63)) ∧ ((World.cell? w66 (Addr.add (Addr.add (Addr.mk (Array.size (World.heap w)) 0 none) 2) 0) = some (Value.string s64)) ∧ (Ca Try.prog (60) (Array.mk [Value.pointer r, Value.string s63, Value.string s64]) (w66) (fun v68 => (fun w69 =>
                    (∃ x70 : Int, ((v68 = Value.int IntKind.i64 x70) ∧ (R (Value.bool (x67 == x70)) (w69))))))))))))))))))))))))
              (ifK (x1 == 5)
                (atW (World.drew w0) (fun w71 =>
                  (∃ s72 : ByteArray, ((World.cell? w71 (Addr.add (Addr.mk (Array.size (World.heap w)) 0 none) 1) = some (Value.string s72)) ∧ (∃ s73 : ByteArray, ((World.cell? w71 (Addr.add (Addr.mk (Array.size (World.heap w)) 0 none) 1) = some (Value.string s73)) ∧ (Ca Try.prog (31) (Array.mk [Value.pointer s, Value.string s72]) (w71) (fun v74 => (fun w75 =>
                    (∃ x76 : Int, ((v74 = Value.int IntKind.i64 x76) ∧ ((World.cell? w75 (Addr.add (Addr.add (Addr.mk (Array.size (World.heap w)) 0 none) 1) 0) = some (Value.string s73)) ∧ (Ca Try.prog (61) (Array.mk [Value.pointer r, Value.string s73]) (w75) (fun v77 => (fun w78 =>
                      (∃ x79 : Int, ((v77 = Value.int IntKind.i64 x79) ∧ (R (Value.bool (x76 == x79)) (w78)))))))))))))))))))
                (ifK (x1 == 6)
                  (Ca Try.prog (17) (Array.mk [Value.pointer s]) (w0) (fun v80 => (fun w81 =>
                    (∃ x82 : Int, ((v80 = Value.int IntKind.i64 x82) ∧ (Ca Try.prog (62) (Array.mk [Value.pointer r]) (w81) (fun v83 => (fun w84 =>
                      (∃ x85 : Int, ((v83 = Value.int IntKind.i64 x85) ∧ (R (Value.bool (x82 == x85)) (w84))))))))))))
                  (ifK (x1 == 7)
                    (∃ s86 : ByteArray, ((World.cell? w0 (Addr.add (Addr.mk (Array.size (World.heap w)) 0 none) 1) = some (Value.string s86)) ∧ (Ca Try.prog (20) (Array.mk [Value.pointer s, Value.string s86]) (w0) (fun v87 => (fun w88 =>
                      (∃ p89 : Option Addr, (∃ n90 : Nat, (∃ n91 : Nat, (∃ x92 : Int, ((v87 = Value.tuple (Array.mk (List.reverse [Value.int IntKind.i64 x92, Value.slice p89 n90 n91]))) ∧ (∃ s93 : ByteArray, ((World.cell? w88 (Addr.add (Addr.mk (Array.size (World.heap w)) 0 none) 1) = some (Value.string s93)) ∧ (Ca Try.prog (63) (Array.mk [Value.pointer r, Value.string s93]) (w88) (fun v94 => (fun w95 =>
                        (∃ p96 : Option Addr, (∃ n97 : Nat, (∃ n98 : Nat, (∃ x99 : Int, ((v94 = Value.tuple (Array.mk (List.reverse [Value.int IntKind.i64 x99, Value.slice p96 n97 n98]))) ∧ (Ca Try.prog (21) (Array.mk [Value.slice p89 n90 n91, Value.slice p96 n97 n98]) (w95) (fun v100 => (fun w101 =>
                          (∃ b102 : Bool, ((v100 = Value.bool b102) ∧ (ifK (b102)
                            (R (Value.bool (x92 == x99)) (w101))
                            (R (Value.bool false) (w101))))))))))))))))))))))))))))
                    (ifK (x1 == 8)
                      (atW (World.drew w0) (fun w103 =>
                        (∃ x104 : Int, ((World.cell? w103 (Addr.add (Addr.mk (Array.size (World.heap w)) 0 none) 4) = some (Value.int IntKind.i64 x104)) ∧ (∃ x105 : Int, ((World.cell? w103 (Addr.add (Addr.mk (Array.size (World.heap w)) 0 none) 5) = some (Value.int IntKind.i64 x105)) ∧ (∃ x106 : Int, ((World.cell? w103 (Addr.add (Addr.mk (Array.size (World.heap w)) 0 none) 4) = some (Value.int IntKind.i64 x106)) ∧ (∃ x107 : Int, ((World.cell? w103 (Addr.add (Addr.mk (Array.size (World.heap w)) 0 none) 5) = some (Value.int IntKind.i64 x107)) ∧ (Ca Try.prog (24) (Array.mk [Value.pointer s, Value.int IntKind.i64 x104, Value.int IntKind.i64 x105]) (w103) (fun v108 => (fun w109 =>
                          (∃ x110 : Int, ((v108 = Value.int IntKind.i64 x110) ∧ ((World.cell? w109 (Addr.add (Addr.add (Addr.mk (Array.size (World.heap w)) 0 none) 4) 0) = some (Value.int IntKind.i64 x106)) ∧ ((World.cell? w109 (Addr.add (Addr.add (Addr.mk (Array.size (World.heap w)) 0 none) 5) 0) = some (Value.int IntKind.i64 x107)) ∧ (Ca Try.prog (64) (Array.mk [Value.pointer r, Value.int IntKind.i64 x106, Value.int IntKind.i64 x107]) (w109) (fun v111 => (fun w112 =>
                            (∃ x113 : Int, ((v111 = Value.int IntKind.i64 x113) ∧ (R (Value.bool (x110 == x113)) (w112))))))))))))))))))))))))
                      (ifK (x1 == 9)
                        (∃ x114 : Int, ((World.cell? w0 (Addr.add (Addr.mk (Array.size (World.heap w)) 0 none) 4) = some (Value.int IntKind.i64 x114)) ∧ (Ca Try.prog (18) (Array.mk [Value.pointer s, Value.int IntKind.i64 x114]) (w0) (fun v115 => (fun w116 =>
                          ((v115 = Value.tuple (Array.mk (List.reverse []))) ∧ (∃ x117 : Int, ((World.cell? w116 (Addr.add (Addr.mk (Array.size (World.heap w)) 0 none) 4) = some (Value.int IntKind.i64 x117)) ∧ (Ca Try.prog (65) (Array.mk [Value.pointer r, Value.int IntKind.i64 x117]) (w116) (fun v118 => (fun w119 =>
                            ((v118 = Value.tuple (Array.mk (List.reverse []))) ∧ (R (Value.bool true) (w119))))))))))))))
                        (ifK (x1 == 10)
                          (Ca Try.prog (19) (Array.mk [Value.pointer s]) (w0) (fun v120 => (fun w121 =>
                            ((v120 = Value.tuple (Array.mk (List.reverse []))) ∧ (Ca Try.prog (66) (Array.mk [Value.pointer r]) (w121) (fun v122 => (fun w123 =>
                              ((v122 = Value.tuple (Array.mk (List.reverse []))) ∧ (R (Value.bool true) (w123))))))))))
                          (R (Value.bool true) (w0)))))))))))))))))
theorem ca33 (s : Option Addr) (r : Option Addr) (a0_ : Int) (a1_ : ByteArray) (a2_ : ByteArray) (a3_a : Option Addr) (a3_l : Nat) (a3_c : Nat) (a4_ : Int) (a5_ : Int) (w : World) (R : Value → World → Prop) (h : W33 s r a0_ a1_ a2_ a3_a a3_l a3_c a4_ a5_ w R) : Ca Try.prog 33 ⟨[(.pointer s), (.pointer r), (.agg ⟨[(.int .i64 a0_), (.string a1_), (.string a2_), (.slice a3_a a3_l a3_c), (.int .i64 a4_), (.int .i64 a5_)]⟩)]⟩ w R := by
  have h1 : Try.prog.follows .mixedOrders = true := by kernel_rfl
  have h2 : Try.f33.body = some C33 := by kernel_rfl
  have h3 : (Try.f33.name == "runtime.NumGoroutine") = false := by kernel_rfl
  have h6 : Try.f33.results.toList = [.tmp 6] := by kernel_rfl
  have h4 : Nat.ble 3 166 = true := by kernel_rfl
  have h5 : okCode 166 pl33 ls33 C33 0 = true := by kernel_rfl
  have e : W33 s r a0_ a1_ a2_ a3_a a3_l a3_c a4_ a5_ w R = wpC none Try.prog 166 pl33 ls33 C33 0 (endP Try.prog [.tmp 6] R) (fr0 [(.pointer s), (.pointer r), (.agg ⟨[(.int .i64 a0_), (.string a1_), (.string a2_), (.slice a3_a a3_l a3_c), (.int .i64 a4_), (.int .i64 a5_)]⟩)]) [] w := by kernel_rfl
  exact ca_of' (P := Try.prog) (g := 33) (fn := Try.f33) (c := C33) (m := 166) (rs := [.tmp 6]) (args := [(.pointer s), (.pointer r), (.agg ⟨[(.int .i64 a0_), (.string a1_), (.string a2_), (.slice a3_a a3_l a3_c), (.int .i64 a4_), (.int .i64 a5_)]⟩)]) (pl := pl33) (ls := ls33) (w := w) (R := R) h1 Try.func33 h2 Try.ntmps33 h6 h3 h4 h5 (Eq.mp e h)
end Go.Proofs.Ytemklabamlifdaa

/- The store's examples in the statements: lives. -/
namespace Go.Proofs.Ytemklabamlifdaa
open Go Go.Proofs.Ytemklabamlifdaa.St

/-- A store that was made since w0: its blocks are F. -/
structure SB (w0 w : World) (s : Nat) (F : Nat → Prop) (a : AS) : Prop where
  st : Stt w s F a
  mod : Mod no w0 w
  lo : ∀ k, F k → w0.heap.size ≤ k
  hi : ∀ k, F k → k < w.heap.size

section
variable {w0 w w' : World} {s : Nat} {F : Nat → Prop} {a b : AS}
theorem Stt.small (h : Stt w s F a) : Stt w s (fun k => F k ∧ k < w.heap.size) a := by
  obtain ⟨nb, sb, N, S, φ, h⟩ := h
  exact ⟨nb, sb, N, S, φ, h.st, h.now, h.sure, fun i hi => (h.file i hi).old, h.inj, h.ne, h.ok, ⟨h.fs, lt_of_heap h.st.cell⟩, ⟨h.fn, h.st.now.lt⟩, ⟨h.fb, h.st.sure.lt⟩, fun i hi => ⟨h.ff i hi, let ⟨_, hc⟩ := (h.file i hi).cell; lt_of_heap hc⟩⟩
theorem SB.new {room : Int} (h : Stt w s (fun k => w0.heap.size ≤ k) (AS.new room)) (hm : Mod no w0 w) : ∃ F, SB w0 w s F (AS.new room) :=
  ⟨_, h.small, hm, fun _ hk => hk.1, fun _ hk => hk.2⟩
theorem SB.step (h : SB w0 w s F a) (hp : StP s F w b w') : ∃ F', SB w0 w' s F' b ∧ (∀ k, F' k → F k ∨ w.heap.size ≤ k) ∧ Mod F w w' := by
  obtain ⟨F', h1, h2, h3⟩ := hp
  refine ⟨_, ⟨h1.small, h.mod.new h3 h.lo, fun k hk => ?_, fun k hk => hk.2⟩, fun k hk => h2 k hk.1, h3⟩
  rcases h2 k hk.1 with h' | h'
  · exact h.lo k h'
  · exact Nat.le_trans h.mod.size h'
theorem SB.no (h : SB w0 w s F a) (hm : Mod no w w') : SB w0 w' s F a :=
  ⟨Stt.no h.st hm, h.mod.trans hm, h.lo, fun k hk => Nat.lt_of_lt_of_le (h.hi k hk) hm.size⟩
end

/-- A literal's bytes. -/
theorem litW (w : World) (x y : UInt8) (K : Option Addr → Nat → Nat → World → Prop) (hK : ∀ w8, Rd w8 (some ⟨w.heap.size, 0, none⟩) 2 2 [x, y] → Mod no w w8 → K (some ⟨w.heap.size, 0, none⟩) 2 2 w8) :
    atW (w.alloc (.cells #[.int .u8 x.toNat, .int .u8 y.toNat] 5)) fun w6 => ∃ v w8, (convert 24 24 (.slice (some ⟨w.heap.size, 0, none⟩) 2 2)).run Try.prog w6 = .ok v w8 ∧ ∃ p n m, v = .slice p n m ∧ K p n m w8 := by
  intro w6 e6
  subst e6
  refine ⟨_, _, Lib.run_convert_bytes_const (P := Try.prog) w 24 5 _ 2 2 Try.underlying24 Try.underlying5, _, _, _, rfl, hK _ ⟨rfl, Nat.le_refl _, by decide, ?_, fun h => by cases h⟩ (Mod.alloc _ _)⟩
  intro ad had j v hj
  cases had
  rw [cl1 (new_at w _)]
  have : j = 0 ∨ j = 1 ∨ 2 ≤ j := by omega
  rcases this with rfl | rfl | h
  · simpa [u8v] using hj
  · simpa [u8v] using hj
  · rw [List.getElem?_eq_none (by simpa using h)] at hj; cases hj
def nA : ByteArray := ByteArray.mk #[97]
def nB : ByteArray := ByteArray.mk #[98]
def lv0 : AS := AS.new 100
def lv1 : AS := (lv0.make nA).1
def lv2 : AS := (lv1.write nA [120, 121]).1
def lv3 : AS := (lv2.sync nA).1
def lv4 : AS := (lv3.fail 0).power
def lv5 : AS := (lv4.make nA).1
def lv6 : AS := (lv5.write nA [120, 121]).1
def lv7 : AS := (lv6.sync nA).1
def lv8 : AS := lv7.commit.1
def lv9 : AS := (lv8.write nA [122, 122]).1
def lv10 : AS := lv9.fail 1
def lv11 : AS := lv10.power
theorem lvs : (lv0.make nA).2 = 0 ∧ (lv1.write nA [120, 121]).2 = 0 ∧ (lv2.sync nA).2 = 0 ∧ lv4.names = [] ∧ (lv4.make nA).2 = 0 ∧ (lv5.write nA [120, 121]).2 = 0 ∧ (lv6.sync nA).2 = 0 ∧ lv7.commit.2 = 0 ∧ (lv8.write nA [122, 122]).2 = 0 ∧
    lv10.dark = true ∧ lv10.make nB = (lv10, 9) ∧ lv11.read nA = ([120, 121, 122], 0) ∧ lv11.used = 19 := by
  refine ⟨by rfl, by rfl, by rfl, by rfl, by rfl, by rfl, by rfl, by rfl, by rfl, by rfl, by rfl, by rfl, by rfl⟩

theorem lives_ok (w : World) (R : Value → World → Prop) (hR : ∀ w', Mod no w w' → R (.bool true) w') : Ca Try.prog 12 #[] w R := by
  refine ca12 w R ?_
  obtain ⟨l0, l1, l2, l3, l4, l5, l6, l7, l8, l9, l10, l11, l12⟩ := lvs
  have hn : nA.size < 4611686018427387904 := by decide
  have hnb : nB.size < 4611686018427387904 := by decide
  refine new_ok 100 w _ (fun h => by rcases h with h | h <;> exact absurd h (by decide)) fun _ _ w1 s h1 m1 => ⟨_, rfl, (ifK_of (fun h => by cases h) (fun _ => ?_) : ifK false _ _)⟩
  obtain ⟨F, h1⟩ := SB.new h1 m1
  have h1 : SB w w1 s F lv0 := h1
  refine make_ok h1.st nA hn _ fun w2 hp => ?_
  obtain ⟨F, h2, _, _⟩ := h1.step hp
  have h2 : SB w w2 s F lv1 := h2
  rw [l0]
  refine ⟨_, rfl, (ifK_of (fun h => by cases h) (fun _ => ?_) : ifK false _ _)⟩
  refine litW w2 120 121 _ fun w3 r3 m3 => ?_
  have hf3 : ∀ {F : Nat → Prop} {w2 : World}, (∀ k, F k → k < w2.heap.size) → 0 < 2 → ∀ k, rowB (some (⟨w2.heap.size, 0, none⟩ : Addr)) k → ¬ F k := fun hi _ k hk hf => by
    simp [rowB] at hk
    have := hi k hf
    omega
  refine write_ok (h2.no m3).st nA hn r3 (hf3 h2.hi) _ fun w4 hp => ?_
  obtain ⟨F, h4, _, _⟩ := (h2.no m3).step hp
  have h4 : SB w w4 s F lv2 := h4
  rw [l1]
  refine ⟨_, rfl, (ifK_of (fun h => by cases h) (fun _ => ?_) : ifK false _ _)⟩
  refine sync_ok h4.st nA hn _ fun w5 hp => ?_
  obtain ⟨F, h5, _, _⟩ := h4.step hp
  have h5 : SB w w5 s F lv3 := h5
  rw [l2]
  refine ⟨_, rfl, (ifK_of (fun h => by cases h) (fun _ => ?_) : ifK false _ _)⟩
  refine fail2_ok h5.st 0 _ fun w6 hp => ⟨rfl, ?_⟩
  obtain ⟨F, h6, _, _⟩ := h5.step hp
  refine power3_ok h6.st _ fun w7 hp => ⟨rfl, ?_⟩
  obtain ⟨F, h7, _, _⟩ := h6.step hp
  have h7 : SB w w7 s F lv4 := h7
  refine names_ok h7.st _ fun w8 p l c hs m8 _ => ?_
  rw [l3] at hs
  have hl := hs.len.1
  simp only [List.length_nil] at hl
  subst hl
  refine ⟨_, _, _, rfl, (ifK_of (fun h => by cases h) (fun _ => ?_) : ifK false _ _)⟩
  have h8 := h7.no m8
  refine make_ok h8.st nA hn _ fun w9 hp => ?_
  obtain ⟨F, h9, _, _⟩ := h8.step hp
  have h9 : SB w w9 s F lv5 := h9
  rw [l4]
  refine ⟨_, rfl, (ifK_of (fun h => by cases h) (fun _ => ?_) : ifK false _ _)⟩
  refine litW w9 120 121 _ fun w10 r10 m10 => ?_
  refine write_ok (h9.no m10).st nA hn r10 (hf3 h9.hi) _ fun w11 hp => ?_
  obtain ⟨F, h11, _, _⟩ := (h9.no m10).step hp
  have h11 : SB w w11 s F lv6 := h11
  rw [l5]
  refine ⟨_, rfl, (ifK_of (fun h => by cases h) (fun _ => ?_) : ifK false _ _)⟩
  refine sync_ok h11.st nA hn _ fun w12 hp => ?_
  obtain ⟨F, h12, _, _⟩ := h11.step hp
  rw [l6]
  refine ⟨_, rfl, (ifK_of (fun h => by cases h) (fun _ => ?_) : ifK false _ _)⟩
  have h12 : SB w w12 s F lv7 := h12
  refine commit_ok h12.st _ fun w13 hp => ?_
  obtain ⟨F, h13, _, _⟩ := h12.step hp
  rw [l7]
  refine ⟨_, rfl, (ifK_of (fun h => by cases h) (fun _ => ?_) : ifK false _ _)⟩
  have h13 : SB w w13 s F lv8 := h13
  refine litW w13 122 122 _ fun w14 r14 m14 => ?_
  refine write_ok (h13.no m14).st nA hn r14 (hf3 h13.hi) _ fun w15 hp => ?_
  obtain ⟨F, h15, _, _⟩ := (h13.no m14).step hp
  have h15 : SB w w15 s F lv9 := h15
  rw [l8]
  refine ⟨_, rfl, (ifK_of (fun h => by cases h) (fun _ => ?_) : ifK false _ _)⟩
  refine fail2_ok h15.st 1 _ fun w16 hp => ⟨rfl, ?_⟩
  obtain ⟨F, h16, _, _⟩ := h15.step hp
  have h16 : SB w w16 s F lv10 := h16
  refine on2_ok h16.st _ ⟨_, rfl, ?_⟩
  rw [l9]
  refine (ifK_of (fun h => by cases h) (fun _ => ?_) : ifK false _ _)
  refine make_ok h16.st nB hnb _ fun w17 hp => ?_
  rw [l10] at hp ⊢
  obtain ⟨F, h17, _, _⟩ := h16.step hp
  refine ⟨_, rfl, (ifK_of (fun h => by cases h) (fun _ => ?_) : ifK false _ _)⟩
  refine power3_ok h17.st _ fun w18 hp => ⟨rfl, ?_⟩
  obtain ⟨F, h18, _, _⟩ := h17.step hp
  have h18 : SB w w18 s F lv11 := h18
  refine read_ok h18.st nA hn _ fun w19 p l c hr m19 _ => ?_
  rw [l11] at hr ⊢
  refine ⟨_, _, _, _, rfl, (ifK_of (fun _ => ?_) (fun h => by cases h) : ifK true _ _)⟩
  refine ⟨_, w19, str_ok (Rd.of_els hr), _, rfl, ?_⟩
  have hb : (ByteArray.toList ⟨([120, 121, 122] : Bs).toArray⟩ == ByteArray.toList (ByteArray.mk #[120, 121, 122])) = true := by rw [str_eq [120, 121, 122] [120, 121, 122]]; rfl
  rw [hb]
  refine (ifK_of (fun _ => ?_) (fun h => by cases h) : ifK true _ _)
  have h19 := h18.no m19
  refine used_ok h19.st _ fun w20 m20 => ⟨_, rfl, ?_⟩
  rw [l12]
  exact hR w20 (h19.mod.trans m20)
end Go.Proofs.Ytemklabamlifdaa

/- Arguments that are structs, opened field by field. It names no program. -/
namespace Go.Proofs.Ytemklabamlifdaa.St
open Go Go.ChangeShapes Go.WideShapes Go.Deep

section
variable {H : Type} {enc : TypeId × Value → H} {P : Program} {w : World} {base : Nat} {spare : Nat → Bool} {held : Bool}
theorem open_agg {r : Reach} {b0 : Nat} {t : TypeId} {fs : Array Field} {v : Value} {d : DataW H} {p : List MemPlace} (hs : P.underlying t = some (.struct fs)) (hone : oneCellFields P fs = true) (hC : P.cellsOf t = fs.size)
    (hv : Value.okWide P w r b0 t v) (h : DataW.Trod enc P w base spare held t v d p) :
    ∃ (cs : Array Value) (ys : List (DataW H × List MemPlace)) (n : Nat), v = .agg cs ∧ cs.size = fs.size ∧ d = .agg (ys.map (·.1)) ∧ ys.length = fs.size ∧
      ∀ (j : Nat) (f : Field), fs[j]? = some f → ∃ c y, cs[j]? = some c ∧ ys[j]? = some y ∧ DataW.trod enc P w base spare held n f.type [c] = some y := by
  obtain ⟨cs, rfl, hsz⟩ := okWide_struct hs hv
  obtain ⟨fuel, hf⟩ := h
  obtain ⟨ys, n, _, hy, _, hlen, hg⟩ := DataW.trod_struct hs hf
  simp only [Prod.mk.injEq] at hy
  refine ⟨cs, ys, n, rfl, hsz.trans hC, hy.1, hlen, fun j f hj => ?_⟩
  obtain ⟨ho, hk⟩ := hone_of hone j f hj
  have hjl : j < fs.size := (Array.getElem?_eq_some_iff.1 hj).1
  have hjc : j < cs.size := by rw [hsz, hC]; exact hjl
  have hg := hg j f hj
  rw [ho, hk] at hg
  have hone' : ((Value.agg cs).cells.toList.drop j).take 1 = [cs[j]] := by
    show (cs.toList.drop j).take 1 = _
    rw [List.drop_eq_getElem_cons (by simpa using hjc)]
    simp
  rw [hone'] at hg
  have hys : ys[j]? = some (ys[j]'(by omega)) := List.getElem?_eq_getElem (by omega)
  exact ⟨cs[j], _, Array.getElem?_eq_getElem hjc, hys, hg.trans hys⟩
theorem agg_weights {t : TypeId} {fs : Array Field} {ys : List (DataW H × List MemPlace)} (hs : P.underlying t = some (.struct fs)) {j : Nat} {f : Field} (hj : fs[j]? = some f) {y : DataW H × List MemPlace} (hy : ys[j]? = some y)
    {B : Nat} (h : ∀ n ∈ (DataW.agg (ys.map (·.1))).weights P t, n ≤ B) : ∀ n ∈ y.1.weights P f.type, n ≤ B := by
  intro n hn
  refine h n ?_
  rw [DataW.weights, hs]
  refine DataW.weights_mem_each (j := j) (t := f.type) (d := y.1) ?_ ?_ n hn
  · rw [List.getElem?_map, Array.getElem?_toList, hj]; rfl
  · rw [List.getElem?_map, hy]; rfl
theorem slice_weights {t e : TypeId} {elems spare' : List (DataW H)} (hs : P.underlying t = some (.slice e)) {x : DataW H} (hx : x ∈ elems ++ spare') {B : Nat} (h : ∀ n ∈ (DataW.slice elems spare').weights P t, n ≤ B) : ∀ n ∈ x.weights P e, n ≤ B := by
  have all : ∀ (l : List (DataW H)), x ∈ l → ∀ n ∈ x.weights P e, n ∈ DataW.weightsAll P e l := by
    intro l
    induction l with
    | nil => intro h; cases h
    | cons y r ih =>
      intro h n hn
      rw [DataW.weightsAll, List.mem_append]
      rcases List.mem_cons.1 h with rfl | h
      · exact .inl hn
      · exact .inr (ih h n hn)
  intro n hn
  refine h n ?_
  rw [DataW.weights, hs]
  rcases List.mem_append.1 hx with hx | hx
  · exact List.mem_cons_of_mem _ (List.mem_append_left _ (all _ hx n hn))
  · exact List.mem_cons_of_mem _ (List.mem_append_right _ (all _ hx n hn))
theorem slice_size {t e : TypeId} {elems spare' : List (DataW H)} (hs : P.underlying t = some (.slice e)) {B : Nat} (h : ∀ n ∈ (DataW.slice elems spare').weights P t, n ≤ B) : (elems.length + spare'.length) * P.bytesOf e ≤ B := by
  refine h _ ?_
  rw [DataW.weights, hs]
  exact List.mem_cons_self
end
end Go.Proofs.Ytemklabamlifdaa.St

/- The walk of StoreNone: of a store that no call made. -/
namespace Go.Proofs.Ytemklabamlifdaa
open Go Go.Proofs.Ytemklabamlifdaa.St

/-- No store, or one that no call made. -/
def Un (w : World) (p : Option Addr) : Prop := p = none ∨ ∃ b, p = some ⟨b, 0, none⟩ ∧ w.heap[b]? = some (.cells #[.int .i64 0, .map none, .map none, .bool false, .int .i64 0, .int .i64 0, .int .i64 0] 65 (0, 0))
section
variable {w w' : World} {p : Option Addr}
theorem Un.no (h : Un w p) (hm : Mod no w w') : Un w' p := h.imp id fun ⟨b, h1, h2⟩ => ⟨b, h1, hm.at' h2⟩

theorem power_un (h : Un w p) (R : Value → World → Prop) (hR : R (.int .i64 1) w) : Ca Try.prog 43 #[.pointer p] w R := by
  refine ca43 p w R ?_
  rcases h with rfl | ⟨b, rfl, hb⟩
  · exact (ifK_of (fun _ => hR) (fun h => by cases h) : ifK true _ _)
  · refine (ifK_of (fun h => by cases h) (fun _ => ?_) : ifK false _ _)
    exact ⟨none, by rw [cl1 hb]; rfl, (ifK_of (fun _ => hR) (fun h => by cases h) : ifK true _ _)⟩
theorem on_un (h : Un w p) (R : Value → World → Prop) (hR : R (.bool false) w) : Ca Try.prog 26 #[.pointer p] w R := by
  refine ca26 p w R ?_
  rcases h with rfl | ⟨b, rfl, hb⟩
  · exact (ifK_of (fun h => by cases h) (fun _ => hR) : ifK false _ _)
  · refine (ifK_of (fun _ => ?_) (fun h => by cases h) : ifK true _ _)
    exact ⟨none, by rw [cl1 hb]; rfl, (ifK_of (fun h => by cases h) (fun _ => hR) : ifK false _ _)⟩
theorem fail_un (h : Un w p) (keep : Int) (R : Value → World → Prop) (hR : ∀ w', Mod no w w' → R (.tuple #[]) w') : Ca Try.prog 18 #[.pointer p, .int .i64 keep] w R := by
  refine ca18 p keep w R ?_
  intro w0 e0
  have m0 : Mod no w w0 := by subst e0; exact Mod.alloc _ _
  clear e0
  exact on_un (h.no m0) _ ⟨_, rfl, (ifK_of (fun _ => hR w0 m0) (fun h => by cases h) : ifK true _ _)⟩
theorem power3_un (h : Un w p) (R : Value → World → Prop) (hR : R (.tuple #[]) w) : Ca Try.prog 19 #[.pointer p] w R := by
  refine ca19 p w R ?_
  rcases h with rfl | ⟨b, rfl, hb⟩
  · exact (ifK_of (fun h => by cases h) (fun _ => hR) : ifK false _ _)
  · refine (ifK_of (fun _ => ?_) (fun h => by cases h) : ifK true _ _)
    exact ⟨none, by rw [cl1 hb]; rfl, (ifK_of (fun h => by cases h) (fun _ => hR) : ifK false _ _)⟩
theorem known_un (h : Un w p) (name : ByteArray) (R : Value → World → Prop) (hR : R (.tuple #[.pointer none, .int .i64 1]) w) : Ca Try.prog 36 #[.pointer p, .string name] w R := by
  refine ca36 p name w R ?_
  exact power_un h _ ⟨_, rfl, (ifK_of (fun _ => hR) (fun h => by cases h) : ifK true _ _)⟩
theorem count_un (h : Un w p) (R : Value → World → Prop) (hR : R (.int .i64 0) w) : Ca Try.prog 29 #[.pointer p] w R := by
  refine ca29 p w R ?_
  rcases h with rfl | ⟨b, rfl, hb⟩
  · exact (ifK_of (fun _ => hR) (fun h => by cases h) : ifK true _ _)
  · refine (ifK_of (fun h => by cases h) (fun _ => ?_) : ifK false _ _)
    exact ⟨0, by rw [cl1 hb]; rfl, hR⟩
theorem plan_un (h : Un w p) (n keep : Int) (R : Value → World → Prop) (hR : R (.int .i64 1) w) : Ca Try.prog 24 #[.pointer p, .int .i64 n, .int .i64 keep] w R := by
  refine ca24 p n keep w R ?_
  exact power_un h _ ⟨_, rfl, (ifK_of (fun _ => hR) (fun h => by cases h) : ifK true _ _)⟩
theorem used_un (h : Un w p) (R : Value → World → Prop) (hR : R (.int .i64 0) w) : Ca Try.prog 28 #[.pointer p] w R := by
  refine ca28 p w R ?_
  exact on_un h _ ⟨_, rfl, (ifK_of (fun _ => hR) (fun h => by cases h) : ifK true _ _)⟩
theorem names_un (h : Un w p) (R : Value → World → Prop) (hR : R (.slice none 0 0) w) : Ca Try.prog 23 #[.pointer p] w R := by
  refine ca23 p w R ?_
  exact on_un h _ ⟨_, rfl, (ifK_of (fun _ => hR) (fun h => by cases h) : ifK true _ _)⟩
theorem read_un (h : Un w p) (name : ByteArray) (R : Value → World → Prop) (hR : R (.tuple #[.slice none 0 0, .int .i64 1]) w) : Ca Try.prog 20 #[.pointer p, .string name] w R := by
  refine ca20 p name w R ?_
  exact known_un h name _ ⟨_, _, rfl, (ifK_of (fun _ => hR) (fun h => by cases h) : ifK true _ _)⟩
theorem make_un (h : Un w p) (name : ByteArray) (R : Value → World → Prop) (hR : ∀ w', Mod no w w' → R (.int .i64 1) w') : Ca Try.prog 14 #[.pointer p, .string name] w R := by
  refine ca14 p name w R ?_
  intro w0 e0
  have m0 : Mod no w w0 := by subst e0; exact Mod.alloc _ _
  have c0 : w0.heap[w.heap.size]? = some (.cells #[.pointer p] 25 (0, 0)) := by subst e0; exact new_at _ _
  clear e0
  intro w1 e1
  have m1 : Mod no w0 w1 := by subst e1; exact Mod.alloc _ _
  have c1 : w1.heap[w0.heap.size]? = some (.cells #[.string name] 9 (0, 0)) := by subst e1; exact new_at _ _
  clear e1
  refine ⟨_, by rw [cl (m1.at' c0)]; rfl, name, by rw [cl c1]; rfl, ?_⟩
  refine known_un ((h.no m0).no m1) name _ ⟨_, _, rfl, (ifK_of (fun h => by cases h) (fun _ => ?_) : ifK false _ _)⟩
  exact (ifK_of (fun _ => hR w1 (m0.trans m1)) (fun h => by cases h) : ifK true _ _)
theorem drop_un (h : Un w p) (name : ByteArray) (R : Value → World → Prop) (hR : ∀ w', Mod no w w' → R (.int .i64 1) w') : Ca Try.prog 31 #[.pointer p, .string name] w R := by
  refine ca31 p name w R ?_
  intro w0 e0
  have m0 : Mod no w w0 := by subst e0; exact Mod.alloc _ _
  have c0 : w0.heap[w.heap.size]? = some (.cells #[.pointer p] 25 (0, 0)) := by subst e0; exact new_at _ _
  clear e0
  intro w1 e1
  have m1 : Mod no w0 w1 := by subst e1; exact Mod.alloc _ _
  have c1 : w1.heap[w0.heap.size]? = some (.cells #[.string name] 9 (0, 0)) := by subst e1; exact new_at _ _
  clear e1
  refine ⟨_, by rw [cl (m1.at' c0)]; rfl, name, by rw [cl c1]; rfl, ?_⟩
  exact known_un ((h.no m0).no m1) name _ ⟨_, _, rfl, (ifK_of (fun _ => hR w1 (m0.trans m1)) (fun h => by cases h) : ifK true _ _)⟩
theorem write_un (h : Un w p) (name : ByteArray) (ba : Option Addr) (bl bc : Nat) (R : Value → World → Prop) (hR : ∀ w', Mod no w w' → R (.int .i64 1) w') : Ca Try.prog 15 #[.pointer p, .string name, .slice ba bl bc] w R := by
  refine ca15 p name ba bl bc w R ?_
  intro w0 e0
  have m0 : Mod no w w0 := by subst e0; exact Mod.alloc _ _
  clear e0
  refine known_un (h.no m0) name _ ⟨_, _, rfl, boxF _ w0 _ fun w7 b7 m7 => ?_⟩
  exact (ifK_of (fun _ => hR w7 (m0.trans m7)) (fun h => by cases h) : ifK true _ _)
theorem cut_un (h : Un w p) (name : ByteArray) (n : Int) (R : Value → World → Prop) (hR : ∀ w', Mod no w w' → R (.int .i64 1) w') : Ca Try.prog 30 #[.pointer p, .string name, .int .i64 n] w R := by
  refine ca30 p name n w R ?_
  intro w0 e0
  have m0 : Mod no w w0 := by subst e0; exact Mod.alloc _ _
  clear e0
  refine known_un (h.no m0) name _ ⟨_, _, rfl, boxF _ w0 _ fun w7 b7 m7 => ?_⟩
  exact (ifK_of (fun _ => hR w7 (m0.trans m7)) (fun h => by cases h) : ifK true _ _)
theorem sync_un (h : Un w p) (name : ByteArray) (R : Value → World → Prop) (hR : ∀ w', Mod no w w' → R (.int .i64 1) w') : Ca Try.prog 16 #[.pointer p, .string name] w R := by
  refine ca16 p name w R ?_
  refine known_un h name _ ⟨_, _, rfl, boxF _ w _ fun w7 b7 m7 => ?_⟩
  exact (ifK_of (fun _ => hR w7 m7) (fun h => by cases h) : ifK true _ _)
theorem commit_un (h : Un w p) (R : Value → World → Prop) (hR : ∀ w', Mod no w w' → R (.int .i64 1) w') : Ca Try.prog 17 #[.pointer p] w R := by
  refine ca17 p w R ?_
  intro w0 e0
  have m0 : Mod no w w0 := by subst e0; exact Mod.alloc _ _
  have c0 : w0.heap[w.heap.size]? = some (.cells #[.pointer p] 25 (0, 0)) := by subst e0; exact new_at _ _
  clear e0
  refine ⟨_, by rw [cl c0]; rfl, power_un (h.no m0) _ ⟨_, rfl, (ifK_of (fun _ => hR w0 m0) (fun h => by cases h) : ifK true _ _)⟩⟩
theorem move_un (h : Un w p) (name to : ByteArray) (R : Value → World → Prop) (hR : ∀ w', Mod no w w' → R (.int .i64 1) w') : Ca Try.prog 25 #[.pointer p, .string name, .string to] w R := by
  refine ca25 p name to w R ?_
  intro w0 e0
  have m0 : Mod no w w0 := by subst e0; exact Mod.alloc _ _
  have c0 : w0.heap[w.heap.size]? = some (.cells #[.pointer p] 25 (0, 0)) := by subst e0; exact new_at _ _
  clear e0
  intro w1 e1
  have m1 : Mod no w0 w1 := by subst e1; exact Mod.alloc _ _
  have c1 : w1.heap[w0.heap.size]? = some (.cells #[.string name] 9 (0, 0)) := by subst e1; exact new_at _ _
  clear e1
  intro w2 e2
  have m2 : Mod no w1 w2 := by subst e2; exact Mod.alloc _ _
  clear e2
  have m02 := (m0.trans m1).trans m2
  refine ⟨_, by rw [cl (m2.at' (m1.at' c0))]; rfl, name, by rw [cl (m2.at' c1)]; rfl, ?_⟩
  refine known_un (h.no m02) name _ ⟨_, _, rfl, boxF _ w2 _ fun w7 b7 m7 => ?_⟩
  refine (ifK_of (fun h => by cases h) (fun _ => ?_) : ifK false _ _)
  exact (ifK_of (fun _ => hR w7 (m02.trans m7)) (fun h => by cases h) : ifK true _ _)
end

theorem index2p {P : Program} {t e : TypeId} {i : TypeInfo} (w : World) (hu : P.underlying t = some (.array 2 e)) (hi : P.info? e = some i) (hs : i.size = 1) (ha : (isAgg e).run P w = .ok false w) (p q : Option Addr) (n : Nat) (hn : n < 2) :
    (Instr.index t (.agg #[.pointer p, .pointer q]) (.int .i64 n)).run P w = .ok (.pointer (if n = 0 then p else q)) w := by
  have h : n = 0 ∨ n = 1 := by omega
  rcases h with rfl | rfl
  · simp [Instr.index, asIntOf, run_underlying' hu, Result.andThen, part, ha, sizeOf, typeInfo, hi]
  · simp [Instr.index, asIntOf, run_underlying' hu, Result.andThen, part, ha, sizeOf, typeInfo, hi, hs]
theorem index_stores (w : World) (p q : Option Addr) (n : Nat) (hn : n < 2) : (Instr.index 66 (.agg #[.pointer p, .pointer q]) (.int .i64 n)).run Try.prog w = .ok (.pointer (if n = 0 then p else q)) w := by
  have hi : (Try.prog.info? 25).map (fun i => Nat.beq i.size 1) = some true := by kernel_rfl
  obtain ⟨i, hi, hs⟩ : ∃ i, Try.prog.info? 25 = some i ∧ i.size = 1 := by
    cases h : Try.prog.info? 25 with
    | none => rw [h] at hi; cases hi
    | some i =>
      rw [h] at hi
      exact ⟨i, rfl, Nat.eq_of_beq_eq_true (by simpa using hi)⟩
  have ha : (isAgg 25).run Try.prog w = .ok false w := by
    simp [isAgg, run_underlying' Try.underlying25, Result.andThen]
  exact index2p w Try.underlying66 hi hs ha p q n hn

theorem none_walk (a0 : Int) (a1 a2 : ByteArray) (ba : Option Addr) (bl bc : Nat) (a4 a5 : Int) (w : World) (R : Value → World → Prop) (hR : ∀ w', Mod no w w' → R (.bool true) w') :
    Ca Try.prog 9 #[.agg #[.int .i64 a0, .string a1, .string a2, .slice ba bl bc, .int .i64 a4, .int .i64 a5]] w R := by
  refine ca9 a0 a1 a2 ba bl bc a4 a5 w R ?_
  intro w0 e0
  have m0 : Mod no w w0 := by subst e0; exact Mod.alloc _ _
  have b0 : w0.heap[w.heap.size]? = some (.cells #[.int .i64 a0, .string a1, .string a2, .slice ba bl bc, .int .i64 a4, .int .i64 a5] 48 (0, 0)) := by subst e0; exact new_at _ _
  clear e0
  intro w1 e1
  have m1 : Mod no w0 w1 := by subst e1; exact Mod.alloc _ _
  have c1 : w1.heap[w0.heap.size]? = some (.cells #[.int .i64 0, .map none, .map none, .bool false, .int .i64 0, .int .i64 0, .int .i64 0] 65 (0, 0)) := by subst e1; exact new_at _ _
  clear e1
  have b1 := m1.at' b0
  have m01 := m0.trans m1
  refine ⟨fun i w' => ∃ n : Nat, i = n ∧ n ≤ 2 ∧ Mod no w1 w', fun i _ => (2 - i).toNat, ⟨0, rfl, by decide, Mod.refl _ _⟩, ?_⟩
  rintro _ _ w6 ⟨n, rfl, hn, m6⟩
  refine ifK_dec (fun hlt => ?_) (fun _ => lives_ok w6 _ fun w7 m7 => ⟨_, rfl, hR w7 ((m01.trans m6).trans m7)⟩)
  have hn2 : n < 2 := by omega
  refine ⟨_, w6, index_stores w6 _ _ n hn2, _, rfl, ?_⟩
  have hu : ∀ {w'}, Mod no w1 w' → Un w' (if n = 0 then none else some ⟨w0.heap.size, 0, none⟩) := by
    intro w' hm
    by_cases h0 : n = 0
    · rw [if_pos h0]; exact .inl rfl
    · rw [if_neg h0]; exact .inr ⟨_, rfl, hm.at' c1⟩
  generalize (if n = 0 then none else some (⟨w0.heap.size, 0, none⟩ : Addr)) = p at hu
  have e1 : IntKind.i64.wrap ((n : Int) + 1) = ((n + 1 : Nat) : Int) := by rw [wrap64 (by omega) (by omega)]; rfl
  rw [e1]
  clear e1
  refine ⟨a4, by rw [cl1 (m6.at' b1)]; rfl, fail_un (hu m6) a4 _ fun w7 m7 => ⟨rfl, ?_⟩⟩
  have m7 := m6.trans m7
  refine power3_un (hu m7) _ ⟨rfl, ?_⟩
  refine ⟨a1, by rw [cl1 (m7.at' b1)]; rfl, read_un (hu m7) a1 _ ⟨_, _, _, _, rfl, ?_⟩⟩
  refine ⟨a1, by rw [cl1 (m7.at' b1)]; rfl, make_un (hu m7) a1 _ fun w8 m8 => ⟨_, rfl, (ifK_of (fun h => by cases h) (fun _ => ?_) : ifK false _ _)⟩⟩
  have m8 := m7.trans m8
  refine ⟨a1, by rw [cl1 (m8.at' b1)]; rfl, ba, bl, bc, by rw [cl1 (m8.at' b1)]; rfl, write_un (hu m8) a1 ba bl bc _ fun w9 m9 => ⟨_, rfl, (ifK_of (fun h => by cases h) (fun _ => ?_) : ifK false _ _)⟩⟩
  have m9 := m8.trans m9
  refine ⟨a1, by rw [cl1 (m9.at' b1)]; rfl, a4, by rw [cl1 (m9.at' b1)]; rfl, cut_un (hu m9) a1 a4 _ fun w10 m10 => ⟨_, rfl, (ifK_of (fun h => by cases h) (fun _ => ?_) : ifK false _ _)⟩⟩
  have m10 := m9.trans m10
  refine ⟨a1, by rw [cl1 (m10.at' b1)]; rfl, sync_un (hu m10) a1 _ fun w11 m11 => ⟨_, rfl, (ifK_of (fun h => by cases h) (fun _ => ?_) : ifK false _ _)⟩⟩
  have m11 := m10.trans m11
  refine ⟨a1, by rw [cl1 (m11.at' b1)]; rfl, a2, by rw [cl1 (m11.at' b1)]; rfl, move_un (hu m11) a1 a2 _ fun w12 m12 => ⟨_, rfl, (ifK_of (fun h => by cases h) (fun _ => ?_) : ifK false _ _)⟩⟩
  have m12 := m11.trans m12
  refine ⟨a1, by rw [cl1 (m12.at' b1)]; rfl, drop_un (hu m12) a1 _ fun w13 m13 => ⟨_, rfl, (ifK_of (fun h => by cases h) (fun _ => ?_) : ifK false _ _)⟩⟩
  have m13 := m12.trans m13
  refine commit_un (hu m13) _ fun w14 m14 => ⟨_, rfl, (ifK_of (fun h => by cases h) (fun _ => ?_) : ifK false _ _)⟩
  have m14 := m13.trans m14
  refine ⟨a4, by rw [cl1 (m14.at' b1)]; rfl, a5, by rw [cl1 (m14.at' b1)]; rfl, plan_un (hu m14) a4 a5 _ ⟨_, rfl, (ifK_of (fun h => by cases h) (fun _ => ?_) : ifK false _ _)⟩⟩
  refine (ifK_of (fun h => by cases h) (fun _ => ?_) : ifK false _ _)
  refine names_un (hu m14) _ ⟨_, _, _, rfl, used_un (hu m14) _ ⟨_, rfl, count_un (hu m14) _ ⟨_, rfl, ?_⟩⟩⟩
  refine (ifK_of (fun h => by cases h) (fun _ => ?_) : ifK false _ _)
  refine on_un (hu m14) _ ⟨_, rfl, (ifK_of (fun h => by cases h) (fun _ => ?_) : ifK false _ _)⟩
  exact ⟨⟨n + 1, rfl, hn2, m14⟩, by simp only; omega⟩

theorem cellsAct : Try.prog.cellsOf 48 = 6 := by kernel_rfl
open Go.ChangeShapes Go.WideShapes Go.Deep in
set_option maxRecDepth 100000 in
theorem args_act {H : Type} {enc : TypeId × Value → H} {w : World} {v : Value} {d : DataW H} {p : List MemPlace} {base : Nat} {r : Reach} {b0 : Nat} (hv : Value.okWide Try.prog w r b0 48 v) (h : DataW.Trod enc Try.prog w base (fun _ => true) true 48 v d p)
    (_ : ∀ n ∈ d.weights Try.prog 48, n ≤ reachBytes) : ∃ (a0 : Int) (a1 a2 : ByteArray) (ba : Option Addr) (bl bc : Nat) (a4 a5 : Int), v = .agg #[.int .i64 a0, .string a1, .string a2, .slice ba bl bc, .int .i64 a4, .int .i64 a5] := by
  obtain ⟨cs, ys, n, rfl, hsz, _, _, hg⟩ := open_agg Try.underlying48 (by kernel_rfl) cellsAct hv h
  obtain ⟨c0, y0, h0, _, t0⟩ := hg 0 _ rfl
  obtain ⟨c1, y1, h1, _, t1⟩ := hg 1 _ rfl
  obtain ⟨c2, y2, h2, _, t2⟩ := hg 2 _ rfl
  obtain ⟨c3, y3, h3, _, t3⟩ := hg 3 _ rfl
  obtain ⟨c4, y4, h4, _, t4⟩ := hg 4 _ rfl
  obtain ⟨c5, y5, h5, _, t5⟩ := hg 5 _ rfl
  obtain ⟨a0, e0, _, _⟩ := DataW.trod_int Try.underlying3 t0
  obtain ⟨a1, e1, _, _⟩ := DataW.trod_string Try.underlying9 t1
  obtain ⟨a2, e2, _, _⟩ := DataW.trod_string Try.underlying9 t2
  obtain ⟨a4, e4, _, _⟩ := DataW.trod_int Try.underlying3 t4
  obtain ⟨a5, e5, _, _⟩ := DataW.trod_int Try.underlying3 t5
  obtain ⟨ba, bl, bc, e3⟩ : ∃ ba bl bc, [c3] = [Value.slice ba bl bc] := by
    rcases open_slice Try.underlying24 t3 with ⟨hc, _⟩ | ⟨ad, l, c, _, _, _, _, hc, _⟩
    · exact ⟨_, _, _, hc⟩
    · exact ⟨_, _, _, hc⟩
  simp only [List.cons.injEq, and_true] at e0 e1 e2 e3 e4 e5
  subst e0 e1 e2 e3 e4 e5
  refine ⟨a0, a1, a2, ba, bl, bc, a4, a5, ?_⟩
  obtain ⟨l⟩ := cs
  match l, hsz with
  | [x0, x1, x2, x3, x4, x5], _ =>
    simp only [List.getElem?_toArray, List.getElem?_cons_zero, List.getElem?_cons_succ, Option.some.injEq] at h0 h1 h2 h3 h4 h5
    rw [h0, h1, h2, h3, h4, h5]
end Go.Proofs.Ytemklabamlifdaa
