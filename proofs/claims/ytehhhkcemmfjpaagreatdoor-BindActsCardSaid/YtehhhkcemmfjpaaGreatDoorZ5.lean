/- Parts of the proof of BindActsCard. -/
import Derived.Test.YtehhhkcemmfjpaaGreatDoorCore9
import Derived.Test.YtehhhkcemmfjpaaGreatDoorProg
import Derived.Test.YtehhhkcemmfjpaaGreatDoorLib
import Derived.Deep.Slices
import Derived.Deep.Fields
import Derived.ChangeSame
import Derived.Below
import Derived.SizedLaws
import Derived.Test.YtehhhkcemmfjpaaGreatDoorZ4
/- The formulas of functions, printed by a program of mine (gen.py) out of the translation. -/
namespace Go.Proofs.YtehhhkcemmfjpaaGreatDoor
open Go Go.Proofs.YtehhhkcemmfjpaaGreatDoor.St
set_option maxRecDepth 100000

/-- (*staith/staithref07.Table).Bind -/
noncomputable def C39 : Code := (Tryz.f39.body).getD .skip
def pl39 : Nat → Plan
  | 12 => (.quiet 1 (.quiet 2 (.quiet 3 (.quiet 4 (.quiet 6 (.fork (.eff 0 [4, 6] (.fork (.eff 5 [6] (.eff 7 [4] (.eff 8 [] (.quiet 9 .done)))) (.eff 7 [4] (.eff 5 [6] (.eff 8 [] (.quiet 9 .done)))))) (.eff 7 [4] (.eff 0 [4, 6] (.eff 5 [6] (.eff 8 [] (.quiet 9 .done)))))))))))
  | 14 => (.quiet 0 (.quiet 1 (.quiet 2 (.quiet 3 (.quiet 4 (.quiet 5 (.quiet 6 (.quiet 7 (.quiet 8 (.quiet 9 (.quiet 10 (.quiet 11 (.eff 12 [] (.quiet 13 .done))))))))))))))
  | 16 => (.quiet 0 (.quiet 1 (.quiet 2 (.quiet 3 (.quiet 4 (.quiet 5 (.quiet 6 (.quiet 7 (.quiet 8 (.quiet 9 (.quiet 10 (.quiet 11 (.quiet 12 (.quiet 13 (.quiet 14 (.eff 15 [] (.quiet 16 (.eff 17 [] .done))))))))))))))))))
  | _ => .done
def ls39 : Nat → List (Nat × LT)
  | 4 => [(0, .agg []), (5, (.one .ptr)), (6, (.one .bool))]
  | 5 => [(0, .agg [])]
  | 14 => [(0, .agg []), (7, (.one .slice))]
  | 17 => [(8, (.one (.int .i64)))]
  | _ => []
def W39 (t : Option Addr) (b0_ : ByteArray) (b1_ : ByteArray) (b2_ : ByteArray) (w : World) (R : Value → World → Prop) : Prop :=
  (atW (World.alloc w (Obj.cells (Array.mk [Value.string b0_, Value.string b1_, Value.string b2_]) 35 (0, 0))) (fun w0 =>
    (∃ s1 : ByteArray, ((World.cell? w0 (Addr.add (Addr.mk (Array.size (World.heap w)) 0 none) 1) = some (Value.string s1)) ∧ (Ca Tryz.prog (71) (Array.mk [Value.string s1]) (w0) (fun v2 => (fun w3 =>
      (∃ b4 : Bool, ((v2 = Value.bool b4) ∧ (ifK (!b4)
        (R (Value.int IntKind.i64 2) (w3))
        (∃ z5 : Option Addr → Bool → World → Prop, ((∃ s6 : ByteArray, ((World.cell? w3 (Addr.add (Addr.mk (Array.size (World.heap w)) 0 none) 0) = some (Value.string s6)) ∧ (Ca Tryz.prog (43) (Array.mk [Value.pointer t, Value.string s6]) (w3) (fun v7 => (fun w8 =>
          (∃ s9 : ByteArray, (∃ x10 : Int, (∃ b11 : Bool, (∃ b12 : Bool, ((v7 = Value.tuple (Array.mk (List.reverse [Value.bool b12, Value.agg (Array.mk (List.reverse [Value.bool b11, Value.int IntKind.i64 x10, Value.string s9]))]))) ∧ (atW (World.alloc w8 (Obj.cells (Array.mk [Value.string (ByteArray.mk #[]), Value.int IntKind.i64 0, Value.bool false]) 33 (0, 0))) (fun w13 =>
            ((∃ v14 : Value, (World.cell? w13 (Addr.add (Addr.mk (Array.size (World.heap w8)) 0 none) 0) = some v14)) ∧ ((World.frozen? w13 (Addr.add (Addr.mk (Array.size (World.heap w8)) 0 none) 0) = false) ∧ (atW (World.setCell w13 (Addr.add (Addr.mk (Array.size (World.heap w8)) 0 none) 0) (Value.string s9)) (fun w15 =>
              ((∃ v16 : Value, (World.cell? w15 (Addr.add (Addr.mk (Array.size (World.heap w8)) 0 none) 1) = some v16)) ∧ ((World.frozen? w15 (Addr.add (Addr.mk (Array.size (World.heap w8)) 0 none) 1) = false) ∧ (atW (World.setCell w15 (Addr.add (Addr.mk (Array.size (World.heap w8)) 0 none) 1) (Value.int IntKind.i64 x10)) (fun w17 =>
                ((∃ v18 : Value, (World.cell? w17 (Addr.add (Addr.mk (Array.size (World.heap w8)) 0 none) 2) = some v18)) ∧ ((World.frozen? w17 (Addr.add (Addr.mk (Array.size (World.heap w8)) 0 none) 2) = false) ∧ (atW (World.setCell w17 (Addr.add (Addr.mk (Array.size (World.heap w8)) 0 none) 2) (Value.bool b11)) (fun w19 =>
                  (z5 (some (Addr.mk (Array.size (World.heap w8)) 0 none)) (b12) (w19)))))))))))))))))))))))))) ∧ (∀ (_ : Nat → Value), (∀ (p21 : Option Addr), (∀ (b22 : Bool), (∀ (w23 : World), ((z5 (p21) (b22) (w23)) → (∃ z24 : World → Prop, ((ifK (!b22)
          (R (Value.int IntKind.i64 3) (w23))
          (onP (p21) (fun a25 =>
            (∃ x26 : Int, ((World.cell? w23 (Addr.add a25 1) = some (Value.int IntKind.i64 x26)) ∧ (∃ s27 : ByteArray, ((World.cell? w23 (Addr.add (Addr.mk (Array.size (World.heap w)) 0 none) 2) = some (Value.string s27)) ∧ (Ca Tryz.prog (72) (Array.mk [Value.int IntKind.i64 x26, Value.string s27]) (w23) (fun v28 => (fun w29 =>
              (∃ b30 : Bool, ((v28 = Value.bool b30) ∧ (ifK (!b30)
                (R (Value.int IntKind.i64 2) (w29))
                (∃ s31 : ByteArray, ((World.cell? w29 (Addr.add (Addr.mk (Array.size (World.heap w)) 0 none) 0) = some (Value.string s31)) ∧ (∃ s32 : ByteArray, ((World.cell? w29 (Addr.add (Addr.mk (Array.size (World.heap w)) 0 none) 1) = some (Value.string s32)) ∧ (∃ s33 : ByteArray, ((World.cell? w29 (Addr.add (Addr.mk (Array.size (World.heap w)) 0 none) 2) = some (Value.string s33)) ∧ (Ca Tryz.prog (20) (Array.mk [Value.pointer t, Value.agg (Array.mk (List.reverse [Value.string s33, Value.string s32, Value.string s31]))]) (w29) (fun v34 => (fun w35 =>
                  (∃ b36 : Bool, ((v34 = Value.bool b36) ∧ (ifK (b36)
                    (R (Value.int IntKind.i64 0) (w35))
                    (onP (t) (fun a37 =>
                      (∃ p38 : Option Addr, (∃ n39 : Nat, (∃ n40 : Nat, ((World.cell? w35 (Addr.add a37 1) = some (Value.slice p38 n39 n40)) ∧ (ifK (decide ((↑n39 : Int) ≥ 32))
                        (R (Value.int IntKind.i64 5) (w35))
                        (z24 (w35)))))))))))))))))))))))))))))))))) ∧ (∀ (_ : Nat → Value), (∀ (w42 : World), ((z24 (w42)) → (∃ z43 : Option Addr → Nat → Nat → World → Prop, ((atW (World.drew w42) (fun w44 =>
          (onP (t) (fun a45 =>
            (∃ p46 : Option Addr, (∃ n47 : Nat, (∃ n48 : Nat, ((World.cell? w44 (Addr.add a45 1) = some (Value.slice p46 n47 n48)) ∧ (∃ s49 : ByteArray, ((World.cell? w44 (Addr.add (Addr.mk (Array.size (World.heap w)) 0 none) 0) = some (Value.string s49)) ∧ (∃ s50 : ByteArray, ((World.cell? w44 (Addr.add (Addr.mk (Array.size (World.heap w)) 0 none) 1) = some (Value.string s50)) ∧ (∃ s51 : ByteArray, ((World.cell? w44 (Addr.add (Addr.mk (Array.size (World.heap w)) 0 none) 2) = some (Value.string s51)) ∧ ((atW (World.alloc w44 (Obj.cells (Array.mk []) 35 (0, 0))) (fun w52 =>
              ((World.cell? w52 (Addr.add (Addr.add a45 1) 0) = some (Value.slice p46 n47 n48)) ∧ ((World.cell? w52 (Addr.add (Addr.mk (Array.size (World.heap w)) 0 none) 0) = some (Value.string s49)) ∧ ((World.cell? w52 (Addr.add (Addr.mk (Array.size (World.heap w)) 0 none) 1) = some (Value.string s50)) ∧ ((World.cell? w52 (Addr.add (Addr.mk (Array.size (World.heap w)) 0 none) 2) = some (Value.string s51)) ∧ ((∃ v53 : Value, (∃ w54 : World, ((Sem.run Tryz.prog (Builtin.append_ (Array.mk [27, 27]) 27 (Array.mk [Value.slice (some (Addr.mk (Array.size (World.heap w44)) 0 none)) 0 0, Value.slice p46 n47 n48])) w52 = Result.ok v53 w54) ∧ (∃ p55 : Option Addr, (∃ n56 : Nat, (∃ n57 : Nat, ((v53 = Value.slice p55 n56 n57) ∧ ((World.cell? w54 (Addr.add (Addr.mk (Array.size (World.heap w)) 0 none) 0) = some (Value.string s49)) ∧ ((World.cell? w54 (Addr.add (Addr.mk (Array.size (World.heap w)) 0 none) 1) = some (Value.string s50)) ∧ ((World.cell? w54 (Addr.add (Addr.mk (Array.size (World.heap w)) 0 none) 2) = some (Value.string s51)) ∧ (atW (World.alloc w54 (Obj.cells (Array.mk [Value.string s49, Value.string s50, Value.string s51]) 35 (0, 0))) (fun w58 =>
                ((World.cell? w58 (Addr.add (Addr.add a45 1) 0) = some (Value.slice p46 n47 n48)) ∧ (∃ v59 : Value, (∃ w60 : World, ((Sem.run Tryz.prog (Builtin.append_ (Array.mk [27, 27]) 27 (Array.mk [Value.slice p55 n56 n57, Value.slice (some (Addr.mk (Array.size (World.heap w54)) 0 none)) 1 1])) w58 = Result.ok v59 w60) ∧ (∃ p61 : Option Addr, (∃ n62 : Nat, (∃ n63 : Nat, ((v59 = Value.slice p61 n62 n63) ∧ (z43 (p61) (n62) (n63) (w60)))))))))))))))))))))) ∧ (atW (World.alloc w52 (Obj.cells (Array.mk [Value.string s49, Value.string s50, Value.string s51]) 35 (0, 0))) (fun w64 =>
                ((World.cell? w64 (Addr.add (Addr.add a45 1) 0) = some (Value.slice p46 n47 n48)) ∧ (∃ v65 : Value, (∃ w66 : World, ((Sem.run Tryz.prog (Builtin.append_ (Array.mk [27, 27]) 27 (Array.mk [Value.slice (some (Addr.mk (Array.size (World.heap w44)) 0 none)) 0 0, Value.slice p46 n47 n48])) w64 = Result.ok v65 w66) ∧ (∃ p67 : Option Addr, (∃ n68 : Nat, (∃ n69 : Nat, ((v65 = Value.slice p67 n68 n69) ∧ ((World.cell? w66 (Addr.add (Addr.mk (Array.size (World.heap w)) 0 none) 0) = some (Value.string s49)) ∧ ((World.cell? w66 (Addr.add (Addr.mk (Array.size (World.heap w)) 0 none) 1) = some (Value.string s50)) ∧ ((World.cell? w66 (Addr.add (Addr.mk (Array.size (World.heap w)) 0 none) 2) = some (Value.string s51)) ∧ (∃ v70 : Value, (∃ w71 : World, ((Sem.run Tryz.prog (Builtin.append_ (Array.mk [27, 27]) 27 (Array.mk [Value.slice p67 n68 n69, Value.slice (some (Addr.mk (Array.size (World.heap w52)) 0 none)) 1 1])) w66 = Result.ok v70 w71) ∧ (∃ p72 : Option Addr, (∃ n73 : Nat, (∃ n74 : Nat, ((v70 = Value.slice p72 n73 n74) ∧ (z43 (p72) (n73) (n74) (w71))))))))))))))))))))))))))))) ∧ (atW (World.alloc w44 (Obj.cells (Array.mk [Value.string s49, Value.string s50, Value.string s51]) 35 (0, 0))) (fun w75 =>
              ((World.cell? w75 (Addr.add (Addr.add a45 1) 0) = some (Value.slice p46 n47 n48)) ∧ (atW (World.alloc w75 (Obj.cells (Array.mk []) 35 (0, 0))) (fun w76 =>
                ((World.cell? w76 (Addr.add (Addr.add a45 1) 0) = some (Value.slice p46 n47 n48)) ∧ ((World.cell? w76 (Addr.add (Addr.mk (Array.size (World.heap w)) 0 none) 0) = some (Value.string s49)) ∧ ((World.cell? w76 (Addr.add (Addr.mk (Array.size (World.heap w)) 0 none) 1) = some (Value.string s50)) ∧ ((World.cell? w76 (Addr.add (Addr.mk (Array.size (World.heap w)) 0 none) 2) = some (Value.string s51)) ∧ (∃ v77 : Value, (∃ w78 : World, ((Sem.run Tryz.prog (Builtin.append_ (Array.mk [27, 27]) 27 (Array.mk [Value.slice (some (Addr.mk (Array.size (World.heap w75)) 0 none)) 0 0, Value.slice p46 n47 n48])) w76 = Result.ok v77 w78) ∧ (∃ p79 : Option Addr, (∃ n80 : Nat, (∃ n81 : Nat, ((v77 = Value.slice p79 n80 n81) ∧ ((World.cell? w78 (Addr.add (Addr.mk (Array.size (World.heap w)) 0 none) 0) = some (Value.string s49)) ∧ ((World.cell? w78 (Addr.add (Addr.mk (Array.size (World.heap w)) 0 none) 1) = some (Value.string s50)) ∧ ((World.cell? w78 (Addr.add (Addr.mk (Array.size (World.heap w)) 0 none) 2) = some (Value.string s51)) ∧ (∃ v82 : Value, (∃ w83 : World, ((Sem.run Tryz.prog (Builtin.append_ (Array.mk [27, 27]) 27 (Array.mk [Value.slice p79 n80 n81, Value.slice (some (Addr.mk (Array.size (World.heap w44)) 0 none)) 1 1])) w78 = Result.ok v82 w83) ∧ (∃ p84 : Option Addr, (∃ n85 : Nat, (∃ n86 : Nat, ((v82 = Value.slice p84 n85 n86) ∧ (z43 (p84) (n85) (n86) (w83))))))))))))))))))))))))))))))))))))))))))) ∧ (∀ (_ : Nat → Value), (∀ (p88 : Option Addr), (∀ (n89 : Nat), (∀ (n90 : Nat), (∀ (w91 : World), ((z43 (p88) (n89) (n90) (w91)) → (∃ z92 : Int → World → Prop, (∃ z93 : Int → World → Nat, ((z92 (IntKind.wrap IntKind.i64 ((↑n89 : Int) - 1)) (w91)) ∧ (∀ (_ : Nat → Value), (∀ (x95 : Int), (∀ (w96 : World), ((z92 (x95) (w96)) → (atW (World.drew w96) (fun w97 =>
          (ifK (decide (x95 > 0))
            (∃ a98 : Addr, ((p88 = some a98) ∧ (((0 : Int) ≤ x95) ∧ (((x95 : Int) < (↑n89 : Int)) ∧ (∃ s99 : ByteArray, ((World.cell? w97 (Addr.add (Addr.add a98 (Int.toNat x95 * 3)) 0) = some (Value.string s99)) ∧ (∃ s100 : ByteArray, ((World.cell? w97 (Addr.add (Addr.add a98 (Int.toNat x95 * 3)) 1) = some (Value.string s100)) ∧ (∃ s101 : ByteArray, ((World.cell? w97 (Addr.add (Addr.add a98 (Int.toNat x95 * 3)) 2) = some (Value.string s101)) ∧ (∃ a102 : Addr, ((p88 = some a102) ∧ (((0 : Int) ≤ IntKind.wrap IntKind.i64 (x95 - 1)) ∧ (((IntKind.wrap IntKind.i64 (x95 - 1) : Int) < (↑n89 : Int)) ∧ (∃ s103 : ByteArray, ((World.cell? w97 (Addr.add (Addr.add a102 (Int.toNat (IntKind.wrap IntKind.i64 (x95 - 1)) * 3)) 0) = some (Value.string s103)) ∧ (∃ s104 : ByteArray, ((World.cell? w97 (Addr.add (Addr.add a102 (Int.toNat (IntKind.wrap IntKind.i64 (x95 - 1)) * 3)) 1) = some (Value.string s104)) ∧ (∃ s105 : ByteArray, ((World.cell? w97 (Addr.add (Addr.add a102 (Int.toNat (IntKind.wrap IntKind.i64 (x95 - 1)) * 3)) 2) = some (Value.string s105)) ∧ (Ca Tryz.prog (73) (Array.mk [Value.agg (Array.mk (List.reverse [Value.string s101, Value.string s100, Value.string s99])), Value.agg (Array.mk (List.reverse [Value.string s105, Value.string s104, Value.string s103]))]) (w97) (fun v106 => (fun w107 =>
              (∃ b108 : Bool, ((v106 = Value.bool b108) ∧ (ifK (b108)
                (atW (World.drew w107) (fun w109 =>
                  (∃ a110 : Addr, ((p88 = some a110) ∧ (((0 : Int) ≤ x95) ∧ (((x95 : Int) < (↑n89 : Int)) ∧ (∃ s111 : ByteArray, ((World.cell? w109 (Addr.add (Addr.add a110 (Int.toNat x95 * 3)) 0) = some (Value.string s111)) ∧ (∃ s112 : ByteArray, ((World.cell? w109 (Addr.add (Addr.add a110 (Int.toNat x95 * 3)) 1) = some (Value.string s112)) ∧ (∃ s113 : ByteArray, ((World.cell? w109 (Addr.add (Addr.add a110 (Int.toNat x95 * 3)) 2) = some (Value.string s113)) ∧ (∃ a114 : Addr, ((p88 = some a114) ∧ (((0 : Int) ≤ IntKind.wrap IntKind.i64 (x95 - 1)) ∧ (((IntKind.wrap IntKind.i64 (x95 - 1) : Int) < (↑n89 : Int)) ∧ (∃ s115 : ByteArray, ((World.cell? w109 (Addr.add (Addr.add a114 (Int.toNat (IntKind.wrap IntKind.i64 (x95 - 1)) * 3)) 0) = some (Value.string s115)) ∧ (∃ s116 : ByteArray, ((World.cell? w109 (Addr.add (Addr.add a114 (Int.toNat (IntKind.wrap IntKind.i64 (x95 - 1)) * 3)) 1) = some (Value.string s116)) ∧ (∃ s117 : ByteArray, ((World.cell? w109 (Addr.add (Addr.add a114 (Int.toNat (IntKind.wrap IntKind.i64 (x95 - 1)) * 3)) 2) = some (Value.string s117)) ∧ (∃ a118 : Addr, ((p88 = some a118) ∧ (((0 : Int) ≤ IntKind.wrap IntKind.i64 (x95 - 1)) ∧ (((IntKind.wrap IntKind.i64 (x95 - 1) : Int) < (↑n89 : Int)) ∧ ((∃ v119 : Value, (World.cell? w109 (Addr.add (Addr.add a118 (Int.toNat (IntKind.wrap IntKind.i64 (x95 - 1)) * 3)) 0) = some v119)) ∧ ((World.frozen? w109 (Addr.add (Addr.add a118 (Int.toNat (IntKind.wrap IntKind.i64 (x95 - 1)) * 3)) 0) = false) ∧ (atW (World.setCell w109 (Addr.add (Addr.add a118 (Int.toNat (IntKind.wrap IntKind.i64 (x95 - 1)) * 3)) 0) (Value.string s111)) (fun w120 =>
                    ((∃ v121 : Value, (World.cell? w120 (Addr.add (Addr.add a118 (Int.toNat (IntKind.wrap IntKind.i64 (x95 - 1)) * 3)) 1) = some v121)) ∧ ((World.frozen? w120 (Addr.add (Addr.add a118 (Int.toNat (IntKind.wrap IntKind.i64 (x95 - 1)) * 3)) 1) = false) ∧ (atW (World.setCell w120 (Addr.add (Addr.add a118 (Int.toNat (IntKind.wrap IntKind.i64 (x95 - 1)) * 3)) 1) (Value.string s112)) (fun w122 =>
                      ((∃ v123 : Value, (World.cell? w122 (Addr.add (Addr.add a118 (Int.toNat (IntKind.wrap IntKind.i64 (x95 - 1)) * 3)) 2) = some v123)) ∧ ((World.frozen? w122 (Addr.add (Addr.add a118 (Int.toNat (IntKind.wrap IntKind.i64 (x95 - 1)) * 3)) 2) = false) ∧ (atW (World.setCell w122 (Addr.add (Addr.add a118 (Int.toNat (IntKind.wrap IntKind.i64 (x95 - 1)) * 3)) 2) (Value.string s113)) (fun w124 =>
                        (∃ a125 : Addr, ((p88 = some a125) ∧ (((0 : Int) ≤ x95) ∧ (((x95 : Int) < (↑n89 : Int)) ∧ ((∃ v126 : Value, (World.cell? w124 (Addr.add (Addr.add a125 (Int.toNat x95 * 3)) 0) = some v126)) ∧ ((World.frozen? w124 (Addr.add (Addr.add a125 (Int.toNat x95 * 3)) 0) = false) ∧ (atW (World.setCell w124 (Addr.add (Addr.add a125 (Int.toNat x95 * 3)) 0) (Value.string s115)) (fun w127 =>
                          ((∃ v128 : Value, (World.cell? w127 (Addr.add (Addr.add a125 (Int.toNat x95 * 3)) 1) = some v128)) ∧ ((World.frozen? w127 (Addr.add (Addr.add a125 (Int.toNat x95 * 3)) 1) = false) ∧ (atW (World.setCell w127 (Addr.add (Addr.add a125 (Int.toNat x95 * 3)) 1) (Value.string s116)) (fun w129 =>
                            ((∃ v130 : Value, (World.cell? w129 (Addr.add (Addr.add a125 (Int.toNat x95 * 3)) 2) = some v130)) ∧ ((World.frozen? w129 (Addr.add (Addr.add a125 (Int.toNat x95 * 3)) 2) = false) ∧ (atW (World.setCell w129 (Addr.add (Addr.add a125 (Int.toNat x95 * 3)) 2) (Value.string s117)) (fun w131 =>
                              ((z92 (IntKind.wrap IntKind.i64 (x95 - 1)) (w131)) ∧ (z93 (IntKind.wrap IntKind.i64 (x95 - 1)) w131 < z93 x95 w96))))))))))))))))))))))))))))))))))))))))))))))))))))))))
                (onP (t) (fun a132 =>
                  ((∃ v133 : Value, (World.cell? w107 (Addr.add (Addr.add a132 1) 0) = some v133)) ∧ ((World.frozen? w107 (Addr.add (Addr.add a132 1) 0) = false) ∧ (atW (World.setCell w107 (Addr.add (Addr.add a132 1) 0) (Value.slice p88 n89 n90)) (fun w134 =>
                    (R (Value.int IntKind.i64 0) (w134))))))))))))))))))))))))))))))))))
            (onP (t) (fun a135 =>
              ((∃ v136 : Value, (World.cell? w97 (Addr.add (Addr.add a135 1) 0) = some v136)) ∧ ((World.frozen? w97 (Addr.add (Addr.add a135 1) 0) = false) ∧ (atW (World.setCell w97 (Addr.add (Addr.add a135 1) 0) (Value.slice p88 n89 n90)) (fun w137 =>
                (R (Value.int IntKind.i64 0) (w137))))))))))))))))))))))))))))))))))))))))))))))))
theorem ca39 (t : Option Addr) (b0_ : ByteArray) (b1_ : ByteArray) (b2_ : ByteArray) (w : World) (R : Value → World → Prop) (h : W39 t b0_ b1_ b2_ w R) : Ca Tryz.prog 39 ⟨[(.pointer t), (.agg ⟨[(.string b0_), (.string b1_), (.string b2_)]⟩)]⟩ w R := by
  have h1 : Tryz.prog.follows .mixedOrders = true := by kernel_rfl
  have h2 : Tryz.f39.body = some C39 := by kernel_rfl
  have h3 : (Tryz.f39.name == "runtime.NumGoroutine") = false := by kernel_rfl
  have h6 : Tryz.f39.results.toList = [.tmp 4] := by kernel_rfl
  have h4 : Nat.ble 2 89 = true := by kernel_rfl
  have h5 : okCode 89 pl39 ls39 C39 0 = true := by kernel_rfl
  have e : W39 t b0_ b1_ b2_ w R = wpC none Tryz.prog 89 pl39 ls39 C39 0 (endP Tryz.prog [.tmp 4] R) (fr0 [(.pointer t), (.agg ⟨[(.string b0_), (.string b1_), (.string b2_)]⟩)]) [] w := by kernel_rfl
  exact ca_of' (P := Tryz.prog) (g := 39) (fn := Tryz.f39) (c := C39) (m := 89) (rs := [.tmp 4]) (args := [(.pointer t), (.agg ⟨[(.string b0_), (.string b1_), (.string b2_)]⟩)]) (pl := pl39) (ls := ls39) (w := w) (R := R) h1 Tryz.func39 h2 Tryz.ntmps39 h6 h3 h4 h5 (Eq.mp e h)

/-- staith/staithlaw07.light -/
noncomputable def C11 : Code := (Tryz.f11.body).getD .skip
def pl11 : Nat → Plan := fun _ => .done
def ls11 : Nat → List (Nat × LT)
  | 4 => [(3, (.one (.int .i64))), (8, (.one (.int .i64)))]
  | _ => []
def W11 (actsa : Option Addr) (actsl : Nat) (_actsc : Nat) (w : World) (R : Value → World → Prop) : Prop :=
  (∃ z0 : Int → Int → World → Prop, (∃ z1 : Int → Int → World → Nat, ((z0 (0) (0) (w)) ∧ (∀ (_ : Nat → Value), (∀ (x3 : Int), (∀ (x4 : Int), (∀ (w5 : World), ((z0 (x3) (x4) (w5)) → (ifK (decide (x4 < (↑actsl : Int)))
    (∃ a6 : Addr, ((actsa = some a6) ∧ (((0 : Int) ≤ x4) ∧ (((x4 : Int) < (↑actsl : Int)) ∧ (∃ x7 : Int, ((World.cell? w5 (Addr.add (Addr.add a6 (Int.toNat x4 * 7)) 0) = some (Value.int IntKind.i64 x7)) ∧ (∃ s8 : ByteArray, ((World.cell? w5 (Addr.add (Addr.add a6 (Int.toNat x4 * 7)) 1) = some (Value.string s8)) ∧ (∃ x9 : Int, ((World.cell? w5 (Addr.add (Addr.add a6 (Int.toNat x4 * 7)) 2) = some (Value.int IntKind.i64 x9)) ∧ (∃ b10 : Bool, ((World.cell? w5 (Addr.add (Addr.add a6 (Int.toNat x4 * 7)) 3) = some (Value.bool b10)) ∧ (∃ s11 : ByteArray, ((World.cell? w5 (Addr.add (Addr.add a6 (Int.toNat x4 * 7)) 4) = some (Value.string s11)) ∧ (∃ s12 : ByteArray, ((World.cell? w5 (Addr.add (Addr.add a6 (Int.toNat x4 * 7)) 5) = some (Value.string s12)) ∧ (∃ s13 : ByteArray, ((World.cell? w5 (Addr.add (Addr.add a6 (Int.toNat x4 * 7)) 6) = some (Value.string s13)) ∧ (atW (World.alloc w5 (Obj.cells (Array.mk [Value.int IntKind.i64 0, Value.string (ByteArray.mk #[]), Value.int IntKind.i64 0, Value.bool false, Value.string (ByteArray.mk #[]), Value.string (ByteArray.mk #[]), Value.string (ByteArray.mk #[])]) 37 (0, 0))) (fun w14 =>
      ((∃ v15 : Value, (World.cell? w14 (Addr.add (Addr.mk (Array.size (World.heap w5)) 0 none) 0) = some v15)) ∧ ((World.frozen? w14 (Addr.add (Addr.mk (Array.size (World.heap w5)) 0 none) 0) = false) ∧ (atW (World.setCell w14 (Addr.add (Addr.mk (Array.size (World.heap w5)) 0 none) 0) (Value.int IntKind.i64 x7)) (fun w16 =>
        ((∃ v17 : Value, (World.cell? w16 (Addr.add (Addr.mk (Array.size (World.heap w5)) 0 none) 1) = some v17)) ∧ ((World.frozen? w16 (Addr.add (Addr.mk (Array.size (World.heap w5)) 0 none) 1) = false) ∧ (atW (World.setCell w16 (Addr.add (Addr.mk (Array.size (World.heap w5)) 0 none) 1) (Value.string s8)) (fun w18 =>
          ((∃ v19 : Value, (World.cell? w18 (Addr.add (Addr.mk (Array.size (World.heap w5)) 0 none) 2) = some v19)) ∧ ((World.frozen? w18 (Addr.add (Addr.mk (Array.size (World.heap w5)) 0 none) 2) = false) ∧ (atW (World.setCell w18 (Addr.add (Addr.mk (Array.size (World.heap w5)) 0 none) 2) (Value.int IntKind.i64 x9)) (fun w20 =>
            ((∃ v21 : Value, (World.cell? w20 (Addr.add (Addr.mk (Array.size (World.heap w5)) 0 none) 3) = some v21)) ∧ ((World.frozen? w20 (Addr.add (Addr.mk (Array.size (World.heap w5)) 0 none) 3) = false) ∧ (atW (World.setCell w20 (Addr.add (Addr.mk (Array.size (World.heap w5)) 0 none) 3) (Value.bool b10)) (fun w22 =>
              ((∃ v23 : Value, (World.cell? w22 (Addr.add (Addr.mk (Array.size (World.heap w5)) 0 none) 4) = some v23)) ∧ ((World.frozen? w22 (Addr.add (Addr.mk (Array.size (World.heap w5)) 0 none) 4) = false) ∧ (atW (World.setCell w22 (Addr.add (Addr.mk (Array.size (World.heap w5)) 0 none) 4) (Value.string s11)) (fun w24 =>
                ((∃ v25 : Value, (World.cell? w24 (Addr.add (Addr.mk (Array.size (World.heap w5)) 0 none) 5) = some v25)) ∧ ((World.frozen? w24 (Addr.add (Addr.mk (Array.size (World.heap w5)) 0 none) 5) = false) ∧ (atW (World.setCell w24 (Addr.add (Addr.mk (Array.size (World.heap w5)) 0 none) 5) (Value.string s12)) (fun w26 =>
                  ((∃ v27 : Value, (World.cell? w26 (Addr.add (Addr.mk (Array.size (World.heap w5)) 0 none) 6) = some v27)) ∧ ((World.frozen? w26 (Addr.add (Addr.mk (Array.size (World.heap w5)) 0 none) 6) = false) ∧ (atW (World.setCell w26 (Addr.add (Addr.mk (Array.size (World.heap w5)) 0 none) 6) (Value.string s13)) (fun w28 =>
                    (∃ s29 : ByteArray, ((World.cell? w28 (Addr.add (Addr.add (Addr.mk (Array.size (World.heap w5)) 0 none) 1) 0) = some (Value.string s29)) ∧ (∃ s30 : ByteArray, ((World.cell? w28 (Addr.add (Addr.add (Addr.mk (Array.size (World.heap w5)) 0 none) 4) 0) = some (Value.string s30)) ∧ (∃ s31 : ByteArray, ((World.cell? w28 (Addr.add (Addr.add (Addr.mk (Array.size (World.heap w5)) 0 none) 4) 1) = some (Value.string s31)) ∧ (∃ s32 : ByteArray, ((World.cell? w28 (Addr.add (Addr.add (Addr.mk (Array.size (World.heap w5)) 0 none) 4) 2) = some (Value.string s32)) ∧ (((100 : Int) ≠ 0) ∧ (ifK (decide (IntKind.wrap IntKind.i64 (x3 + IntKind.wrap IntKind.i64 (1 + IntKind.wrap IntKind.i64 (Int.tdiv (IntKind.wrap IntKind.i64 (IntKind.wrap IntKind.i64 (IntKind.wrap IntKind.i64 ((↑(ByteArray.size s29) : Int) + (↑(ByteArray.size s30) : Int)) + (↑(ByteArray.size s31) : Int)) + (↑(ByteArray.size s32) : Int))) 100))) > 300))
                      (R (Value.bool false) (w28))
                      ((z0 (IntKind.wrap IntKind.i64 (x3 + IntKind.wrap IntKind.i64 (1 + IntKind.wrap IntKind.i64 (Int.tdiv (IntKind.wrap IntKind.i64 (IntKind.wrap IntKind.i64 (IntKind.wrap IntKind.i64 ((↑(ByteArray.size s29) : Int) + (↑(ByteArray.size s30) : Int)) + (↑(ByteArray.size s31) : Int)) + (↑(ByteArray.size s32) : Int))) 100)))) (IntKind.wrap IntKind.i64 (x4 + 1)) (w28)) ∧ (z1 (IntKind.wrap IntKind.i64 (x3 + IntKind.wrap IntKind.i64 (1 + IntKind.wrap IntKind.i64 (Int.tdiv (IntKind.wrap IntKind.i64 (IntKind.wrap IntKind.i64 (IntKind.wrap IntKind.i64 ((↑(ByteArray.size s29) : Int) + (↑(ByteArray.size s30) : Int)) + (↑(ByteArray.size s31) : Int)) + (↑(ByteArray.size s32) : Int))) 100)))) (IntKind.wrap IntKind.i64 (x4 + 1)) w28 < z1 x3 x4 w5))))))))))))))))))))))))))))))))))))))))))))))))))))))))))))
    (R (Value.bool true) (w5)))))))))))
theorem ca11 (actsa : Option Addr) (actsl : Nat) (actsc : Nat) (w : World) (R : Value → World → Prop) (h : W11 actsa actsl actsc w R) : Ca Tryz.prog 11 ⟨[(.slice actsa actsl actsc)]⟩ w R := by
  have h1 : Tryz.prog.follows .mixedOrders = true := by kernel_rfl
  have h2 : Tryz.f11.body = some C11 := by kernel_rfl
  have h3 : (Tryz.f11.name == "runtime.NumGoroutine") = false := by kernel_rfl
  have h6 : Tryz.f11.results.toList = [.tmp 2] := by kernel_rfl
  have h4 : Nat.ble 1 38 = true := by kernel_rfl
  have h5 : okCode 38 pl11 ls11 C11 0 = true := by kernel_rfl
  have e : W11 actsa actsl actsc w R = wpC none Tryz.prog 38 pl11 ls11 C11 0 (endP Tryz.prog [.tmp 2] R) (fr0 [(.slice actsa actsl actsc)]) [] w := by kernel_rfl
  exact ca_of' (P := Tryz.prog) (g := 11) (fn := Tryz.f11) (c := C11) (m := 38) (rs := [.tmp 2]) (args := [(.slice actsa actsl actsc)]) (pl := pl11) (ls := ls11) (w := w) (R := R) h1 Tryz.func11 h2 Tryz.ntmps11 h6 h3 h4 h5 (Eq.mp e h)

/-- staith/staithlaw07.act -/
noncomputable def C13 : Code := (Tryz.f13.body).getD .skip
def pl13 : Nat → Plan
  | 3 => (.quiet 0 (.quiet 1 (.quiet 2 (.quiet 4 (.quiet 5 (.quiet 6 (.eff 3 [6] (.eff 7 [] (.quiet 8 (.quiet 9 (.quiet 10 (.quiet 11 (.quiet 13 (.quiet 14 (.eff 12 [14] (.eff 15 [] (.quiet 16 (.quiet 17 (.quiet 18 .done)))))))))))))))))))
  | 5 => (.quiet 0 (.quiet 1 (.quiet 2 (.quiet 3 (.quiet 5 (.quiet 6 (.quiet 7 (.quiet 8 (.eff 4 [8] (.eff 9 [] (.quiet 10 (.quiet 11 .done))))))))))))
  | 7 => (.quiet 0 (.quiet 1 (.quiet 2 (.quiet 4 (.quiet 5 (.quiet 6 (.eff 3 [6] (.eff 7 [] (.quiet 8 (.quiet 9 .done))))))))))
  | 9 => (.quiet 0 (.quiet 1 (.quiet 2 (.quiet 4 (.quiet 5 (.quiet 6 (.eff 3 [6] (.eff 7 [] (.quiet 8 (.quiet 9 .done))))))))))
  | 11 => (.quiet 0 (.quiet 1 (.quiet 2 (.quiet 3 (.quiet 5 (.quiet 6 (.quiet 7 (.quiet 8 (.eff 4 [8] (.eff 9 [] (.quiet 10 (.quiet 11 .done))))))))))))
  | _ => .done
def ls13 : Nat → List (Nat × LT) := fun _ => []
def W13 (t : Option Addr) (r : Option Addr) (a0_ : Int) (a1_ : ByteArray) (a2_ : Int) (a3_ : Bool) (a4_ : ByteArray) (a5_ : ByteArray) (a6_ : ByteArray) (w : World) (R : Value → World → Prop) : Prop :=
  (atW (World.alloc w (Obj.cells (Array.mk [Value.int IntKind.i64 a0_, Value.string a1_, Value.int IntKind.i64 a2_, Value.bool a3_, Value.string a4_, Value.string a5_, Value.string a6_]) 37 (0, 0))) (fun w0 =>
    (∃ x1 : Int, ((World.cell? w0 (Addr.add (Addr.mk (Array.size (World.heap w)) 0 none) 0) = some (Value.int IntKind.i64 x1)) ∧ (ifK (x1 == 0)
      (atW (World.drew w0) (fun w2 =>
        (∃ s3 : ByteArray, ((World.cell? w2 (Addr.add (Addr.add (Addr.mk (Array.size (World.heap w)) 0 none) 1) 0) = some (Value.string s3)) ∧ (∃ x4 : Int, ((World.cell? w2 (Addr.add (Addr.add (Addr.mk (Array.size (World.heap w)) 0 none) 1) 1) = some (Value.int IntKind.i64 x4)) ∧ (∃ b5 : Bool, ((World.cell? w2 (Addr.add (Addr.add (Addr.mk (Array.size (World.heap w)) 0 none) 1) 2) = some (Value.bool b5)) ∧ (∃ s6 : ByteArray, ((World.cell? w2 (Addr.add (Addr.add (Addr.mk (Array.size (World.heap w)) 0 none) 1) 0) = some (Value.string s6)) ∧ (∃ x7 : Int, ((World.cell? w2 (Addr.add (Addr.add (Addr.mk (Array.size (World.heap w)) 0 none) 1) 1) = some (Value.int IntKind.i64 x7)) ∧ (∃ b8 : Bool, ((World.cell? w2 (Addr.add (Addr.add (Addr.mk (Array.size (World.heap w)) 0 none) 1) 2) = some (Value.bool b8)) ∧ (Ca Tryz.prog (35) (Array.mk [Value.pointer t, Value.agg (Array.mk (List.reverse [Value.bool b5, Value.int IntKind.i64 x4, Value.string s3]))]) (w2) (fun v9 => (fun w10 =>
          (∃ x11 : Int, ((v9 = Value.int IntKind.i64 x11) ∧ ((World.cell? w10 (Addr.add (Addr.add (Addr.mk (Array.size (World.heap w)) 0 none) 1) 0) = some (Value.string s6)) ∧ ((World.cell? w10 (Addr.add (Addr.add (Addr.mk (Array.size (World.heap w)) 0 none) 1) 1) = some (Value.int IntKind.i64 x7)) ∧ ((World.cell? w10 (Addr.add (Addr.add (Addr.mk (Array.size (World.heap w)) 0 none) 1) 2) = some (Value.bool b8)) ∧ (Ca Tryz.prog (36) (Array.mk [Value.pointer r, Value.agg (Array.mk (List.reverse [Value.bool b8, Value.int IntKind.i64 x7, Value.string s6]))]) (w10) (fun v12 => (fun w13 =>
            (∃ x14 : Int, ((v12 = Value.int IntKind.i64 x14) ∧ (ifK (x11 == x14)
              (∃ s15 : ByteArray, ((World.cell? w13 (Addr.add (Addr.add (Addr.mk (Array.size (World.heap w)) 0 none) 1) 0) = some (Value.string s15)) ∧ (∃ x16 : Int, ((World.cell? w13 (Addr.add (Addr.add (Addr.mk (Array.size (World.heap w)) 0 none) 1) 1) = some (Value.int IntKind.i64 x16)) ∧ (∃ b17 : Bool, ((World.cell? w13 (Addr.add (Addr.add (Addr.mk (Array.size (World.heap w)) 0 none) 1) 2) = some (Value.bool b17)) ∧ (∃ s18 : ByteArray, ((World.cell? w13 (Addr.add (Addr.add (Addr.mk (Array.size (World.heap w)) 0 none) 1) 0) = some (Value.string s18)) ∧ (∃ x19 : Int, ((World.cell? w13 (Addr.add (Addr.add (Addr.mk (Array.size (World.heap w)) 0 none) 1) 1) = some (Value.int IntKind.i64 x19)) ∧ (∃ b20 : Bool, ((World.cell? w13 (Addr.add (Addr.add (Addr.mk (Array.size (World.heap w)) 0 none) 1) 2) = some (Value.bool b20)) ∧ (Ca Tryz.prog (18) (Array.mk [Value.agg (Array.mk (List.reverse [Value.bool b17, Value.int IntKind.i64 x16, Value.string s15]))]) (w13) (fun v21 => (fun w22 =>
                (∃ b23 : Bool, ((v21 = Value.bool b23) ∧ ((World.cell? w22 (Addr.add (Addr.add (Addr.mk (Array.size (World.heap w)) 0 none) 1) 0) = some (Value.string s18)) ∧ ((World.cell? w22 (Addr.add (Addr.add (Addr.mk (Array.size (World.heap w)) 0 none) 1) 1) = some (Value.int IntKind.i64 x19)) ∧ ((World.cell? w22 (Addr.add (Addr.add (Addr.mk (Array.size (World.heap w)) 0 none) 1) 2) = some (Value.bool b20)) ∧ (Ca Tryz.prog (37) (Array.mk [Value.agg (Array.mk (List.reverse [Value.bool b20, Value.int IntKind.i64 x19, Value.string s18]))]) (w22) (fun v24 => (fun w25 =>
                  (∃ b26 : Bool, ((v24 = Value.bool b26) ∧ (R (Value.bool (b23 == b26)) (w25)))))))))))))))))))))))))))
              (R (Value.bool false) (w13))))))))))))))))))))))))))))))
      (ifK (x1 == 1)
        (atW (World.drew w0) (fun w27 =>
          (∃ s28 : ByteArray, ((World.cell? w27 (Addr.add (Addr.add (Addr.mk (Array.size (World.heap w)) 0 none) 1) 0) = some (Value.string s28)) ∧ (∃ s29 : ByteArray, ((World.cell? w27 (Addr.add (Addr.add (Addr.mk (Array.size (World.heap w)) 0 none) 1) 0) = some (Value.string s29)) ∧ (Ca Tryz.prog (23) (Array.mk [Value.pointer t, Value.string s28]) (w27) (fun v30 => (fun w31 =>
            (∃ x32 : Int, ((v30 = Value.int IntKind.i64 x32) ∧ ((World.cell? w31 (Addr.add (Addr.add (Addr.add (Addr.mk (Array.size (World.heap w)) 0 none) 1) 0) 0) = some (Value.string s29)) ∧ (Ca Tryz.prog (38) (Array.mk [Value.pointer r, Value.string s29]) (w31) (fun v33 => (fun w34 =>
              (∃ x35 : Int, ((v33 = Value.int IntKind.i64 x35) ∧ (R (Value.bool (x32 == x35)) (w34)))))))))))))))))))
        (ifK (x1 == 2)
          (atW (World.drew w0) (fun w36 =>
            (∃ s37 : ByteArray, ((World.cell? w36 (Addr.add (Addr.add (Addr.mk (Array.size (World.heap w)) 0 none) 4) 0) = some (Value.string s37)) ∧ (∃ s38 : ByteArray, ((World.cell? w36 (Addr.add (Addr.add (Addr.mk (Array.size (World.heap w)) 0 none) 4) 1) = some (Value.string s38)) ∧ (∃ s39 : ByteArray, ((World.cell? w36 (Addr.add (Addr.add (Addr.mk (Array.size (World.heap w)) 0 none) 4) 2) = some (Value.string s39)) ∧ (∃ s40 : ByteArray, ((World.cell? w36 (Addr.add (Addr.add (Addr.mk (Array.size (World.heap w)) 0 none) 4) 0) = some (Value.string s40)) ∧ (∃ s41 : ByteArray, ((World.cell? w36 (Addr.add (Addr.add (Addr.mk (Array.size (World.heap w)) 0 none) 4) 1) = some (Value.string s41)) ∧ (∃ s42 : ByteArray, ((World.cell? w36 (Addr.add (Addr.add (Addr.mk (Array.size (World.heap w)) 0 none) 4) 2) = some (Value.string s42)) ∧ (Ca Tryz.prog (21) (Array.mk [Value.pointer t, Value.agg (Array.mk (List.reverse [Value.string s39, Value.string s38, Value.string s37]))]) (w36) (fun v43 => (fun w44 =>
              (∃ x45 : Int, ((v43 = Value.int IntKind.i64 x45) ∧ ((World.cell? w44 (Addr.add (Addr.add (Addr.mk (Array.size (World.heap w)) 0 none) 4) 0) = some (Value.string s40)) ∧ ((World.cell? w44 (Addr.add (Addr.add (Addr.mk (Array.size (World.heap w)) 0 none) 4) 1) = some (Value.string s41)) ∧ ((World.cell? w44 (Addr.add (Addr.add (Addr.mk (Array.size (World.heap w)) 0 none) 4) 2) = some (Value.string s42)) ∧ (Ca Tryz.prog (39) (Array.mk [Value.pointer r, Value.agg (Array.mk (List.reverse [Value.string s42, Value.string s41, Value.string s40]))]) (w44) (fun v46 => (fun w47 =>
                (∃ x48 : Int, ((v46 = Value.int IntKind.i64 x48) ∧ (R (Value.bool (x45 == x48)) (w47)))))))))))))))))))))))))))))
          (ifK (x1 == 3)
            (atW (World.drew w0) (fun w49 =>
              (∃ s50 : ByteArray, ((World.cell? w49 (Addr.add (Addr.add (Addr.mk (Array.size (World.heap w)) 0 none) 4) 0) = some (Value.string s50)) ∧ (∃ s51 : ByteArray, ((World.cell? w49 (Addr.add (Addr.add (Addr.mk (Array.size (World.heap w)) 0 none) 4) 1) = some (Value.string s51)) ∧ (∃ s52 : ByteArray, ((World.cell? w49 (Addr.add (Addr.add (Addr.mk (Array.size (World.heap w)) 0 none) 4) 2) = some (Value.string s52)) ∧ (∃ s53 : ByteArray, ((World.cell? w49 (Addr.add (Addr.add (Addr.mk (Array.size (World.heap w)) 0 none) 4) 0) = some (Value.string s53)) ∧ (∃ s54 : ByteArray, ((World.cell? w49 (Addr.add (Addr.add (Addr.mk (Array.size (World.heap w)) 0 none) 4) 1) = some (Value.string s54)) ∧ (∃ s55 : ByteArray, ((World.cell? w49 (Addr.add (Addr.add (Addr.mk (Array.size (World.heap w)) 0 none) 4) 2) = some (Value.string s55)) ∧ (Ca Tryz.prog (22) (Array.mk [Value.pointer t, Value.agg (Array.mk (List.reverse [Value.string s52, Value.string s51, Value.string s50]))]) (w49) (fun v56 => (fun w57 =>
                (∃ x58 : Int, ((v56 = Value.int IntKind.i64 x58) ∧ ((World.cell? w57 (Addr.add (Addr.add (Addr.mk (Array.size (World.heap w)) 0 none) 4) 0) = some (Value.string s53)) ∧ ((World.cell? w57 (Addr.add (Addr.add (Addr.mk (Array.size (World.heap w)) 0 none) 4) 1) = some (Value.string s54)) ∧ ((World.cell? w57 (Addr.add (Addr.add (Addr.mk (Array.size (World.heap w)) 0 none) 4) 2) = some (Value.string s55)) ∧ (Ca Tryz.prog (40) (Array.mk [Value.pointer r, Value.agg (Array.mk (List.reverse [Value.string s55, Value.string s54, Value.string s53]))]) (w57) (fun v59 => (fun w60 =>
                  (∃ x61 : Int, ((v59 = Value.int IntKind.i64 x61) ∧ (R (Value.bool (x58 == x61)) (w60)))))))))))))))))))))))))))))
            (ifK (x1 == 4)
              (atW (World.drew w0) (fun w62 =>
                (∃ s63 : ByteArray, ((World.cell? w62 (Addr.add (Addr.add (Addr.mk (Array.size (World.heap w)) 0 none) 4) 1) = some (Value.string s63)) ∧ (∃ s64 : ByteArray, ((World.cell? w62 (Addr.add (Addr.add (Addr.mk (Array.size (World.heap w)) 0 none) 4) 1) = some (Value.string s64)) ∧ (Ca Tryz.prog (41) (Array.mk [Value.pointer t, Value.string s63]) (w62) (fun v65 => (fun w66 =>
                  (∃ x67 : Int, ((v65 = Value.int IntKind.i64 x67) ∧ ((World.cell? w66 (Addr.add (Addr.add (Addr.add (Addr.mk (Array.size (World.heap w)) 0 none) 4) 1) 0) = some (Value.string s64)) ∧ (Ca Tryz.prog (42) (Array.mk [Value.pointer r, Value.string s64]) (w66) (fun v68 => (fun w69 =>
                    (∃ x70 : Int, ((v68 = Value.int IntKind.i64 x70) ∧ (R (Value.bool (x67 == x70)) (w69)))))))))))))))))))
              (ifK (x1 == 5)
                (∃ s71 : ByteArray, ((World.cell? w0 (Addr.add (Addr.add (Addr.mk (Array.size (World.heap w)) 0 none) 1) 0) = some (Value.string s71)) ∧ (Ca Tryz.prog (17) (Array.mk [Value.pointer t, Value.string s71]) (w0) (fun v72 => (fun w73 =>
                  (∃ s74 : ByteArray, (∃ x75 : Int, (∃ b76 : Bool, (∃ b77 : Bool, ((v72 = Value.tuple (Array.mk (List.reverse [Value.bool b77, Value.agg (Array.mk (List.reverse [Value.bool b76, Value.int IntKind.i64 x75, Value.string s74]))]))) ∧ (atW (World.alloc w73 (Obj.cells (Array.mk [Value.string (ByteArray.mk #[]), Value.int IntKind.i64 0, Value.bool false]) 33 (0, 0))) (fun w78 =>
                    ((∃ v79 : Value, (World.cell? w78 (Addr.add (Addr.mk (Array.size (World.heap w73)) 0 none) 0) = some v79)) ∧ ((World.frozen? w78 (Addr.add (Addr.mk (Array.size (World.heap w73)) 0 none) 0) = false) ∧ (atW (World.setCell w78 (Addr.add (Addr.mk (Array.size (World.heap w73)) 0 none) 0) (Value.string s74)) (fun w80 =>
                      ((∃ v81 : Value, (World.cell? w80 (Addr.add (Addr.mk (Array.size (World.heap w73)) 0 none) 1) = some v81)) ∧ ((World.frozen? w80 (Addr.add (Addr.mk (Array.size (World.heap w73)) 0 none) 1) = false) ∧ (atW (World.setCell w80 (Addr.add (Addr.mk (Array.size (World.heap w73)) 0 none) 1) (Value.int IntKind.i64 x75)) (fun w82 =>
                        ((∃ v83 : Value, (World.cell? w82 (Addr.add (Addr.mk (Array.size (World.heap w73)) 0 none) 2) = some v83)) ∧ ((World.frozen? w82 (Addr.add (Addr.mk (Array.size (World.heap w73)) 0 none) 2) = false) ∧ (atW (World.setCell w82 (Addr.add (Addr.mk (Array.size (World.heap w73)) 0 none) 2) (Value.bool b76)) (fun w84 =>
                          (∃ s85 : ByteArray, ((World.cell? w84 (Addr.add (Addr.add (Addr.mk (Array.size (World.heap w)) 0 none) 1) 0) = some (Value.string s85)) ∧ (Ca Tryz.prog (43) (Array.mk [Value.pointer r, Value.string s85]) (w84) (fun v86 => (fun w87 =>
                            (∃ s88 : ByteArray, (∃ x89 : Int, (∃ b90 : Bool, (∃ b91 : Bool, ((v86 = Value.tuple (Array.mk (List.reverse [Value.bool b91, Value.agg (Array.mk (List.reverse [Value.bool b90, Value.int IntKind.i64 x89, Value.string s88]))]))) ∧ (atW (World.alloc w87 (Obj.cells (Array.mk [Value.string (ByteArray.mk #[]), Value.int IntKind.i64 0, Value.bool false]) 33 (0, 0))) (fun w92 =>
                              ((∃ v93 : Value, (World.cell? w92 (Addr.add (Addr.mk (Array.size (World.heap w87)) 0 none) 0) = some v93)) ∧ ((World.frozen? w92 (Addr.add (Addr.mk (Array.size (World.heap w87)) 0 none) 0) = false) ∧ (atW (World.setCell w92 (Addr.add (Addr.mk (Array.size (World.heap w87)) 0 none) 0) (Value.string s88)) (fun w94 =>
                                ((∃ v95 : Value, (World.cell? w94 (Addr.add (Addr.mk (Array.size (World.heap w87)) 0 none) 1) = some v95)) ∧ ((World.frozen? w94 (Addr.add (Addr.mk (Array.size (World.heap w87)) 0 none) 1) = false) ∧ (atW (World.setCell w94 (Addr.add (Addr.mk (Array.size (World.heap w87)) 0 none) 1) (Value.int IntKind.i64 x89)) (fun w96 =>
                                  ((∃ v97 : Value, (World.cell? w96 (Addr.add (Addr.mk (Array.size (World.heap w87)) 0 none) 2) = some v97)) ∧ ((World.frozen? w96 (Addr.add (Addr.mk (Array.size (World.heap w87)) 0 none) 2) = false) ∧ (atW (World.setCell w96 (Addr.add (Addr.mk (Array.size (World.heap w87)) 0 none) 2) (Value.bool b90)) (fun w98 =>
                                    (∃ s99 : ByteArray, ((World.cell? w98 (Addr.add (Addr.mk (Array.size (World.heap w73)) 0 none) 0) = some (Value.string s99)) ∧ (∃ x100 : Int, ((World.cell? w98 (Addr.add (Addr.mk (Array.size (World.heap w73)) 0 none) 1) = some (Value.int IntKind.i64 x100)) ∧ (∃ b101 : Bool, ((World.cell? w98 (Addr.add (Addr.mk (Array.size (World.heap w73)) 0 none) 2) = some (Value.bool b101)) ∧ (∃ s102 : ByteArray, ((World.cell? w98 (Addr.add (Addr.mk (Array.size (World.heap w87)) 0 none) 0) = some (Value.string s102)) ∧ (∃ x103 : Int, ((World.cell? w98 (Addr.add (Addr.mk (Array.size (World.heap w87)) 0 none) 1) = some (Value.int IntKind.i64 x103)) ∧ (∃ b104 : Bool, ((World.cell? w98 (Addr.add (Addr.mk (Array.size (World.heap w87)) 0 none) 2) = some (Value.bool b104)) ∧ (eqA Tryz.prog 33 (Value.agg (Array.mk (List.reverse [Value.bool b101, Value.int IntKind.i64 x100, Value.string s99]))) (Value.agg (Array.mk (List.reverse [Value.bool b104, Value.int IntKind.i64 x103, Value.string s102]))) (w98) (fun b105 => (fun w106 =>
                                      (ifK (b105)
                                        (R (Value.bool (b77 == b91)) (w106))
                                        (R (Value.bool false) (w106))))))))))))))))))))))))))))))))))))))))))))))))))))))))))))))))))
                (R (Value.bool true) (w0))))))))))))
theorem ca13 (t : Option Addr) (r : Option Addr) (a0_ : Int) (a1_ : ByteArray) (a2_ : Int) (a3_ : Bool) (a4_ : ByteArray) (a5_ : ByteArray) (a6_ : ByteArray) (w : World) (R : Value → World → Prop) (h : W13 t r a0_ a1_ a2_ a3_ a4_ a5_ a6_ w R) : Ca Tryz.prog 13 ⟨[(.pointer t), (.pointer r), (.agg ⟨[(.int .i64 a0_), (.string a1_), (.int .i64 a2_), (.bool a3_), (.string a4_), (.string a5_), (.string a6_)]⟩)]⟩ w R := by
  have h1 : Tryz.prog.follows .mixedOrders = true := by kernel_rfl
  have h2 : Tryz.f13.body = some C13 := by kernel_rfl
  have h3 : (Tryz.f13.name == "runtime.NumGoroutine") = false := by kernel_rfl
  have h6 : Tryz.f13.results.toList = [.tmp 6] := by kernel_rfl
  have h4 : Nat.ble 3 107 = true := by kernel_rfl
  have h5 : okCode 107 pl13 ls13 C13 0 = true := by kernel_rfl
  have e : W13 t r a0_ a1_ a2_ a3_ a4_ a5_ a6_ w R = wpC none Tryz.prog 107 pl13 ls13 C13 0 (endP Tryz.prog [.tmp 6] R) (fr0 [(.pointer t), (.pointer r), (.agg ⟨[(.int .i64 a0_), (.string a1_), (.int .i64 a2_), (.bool a3_), (.string a4_), (.string a5_), (.string a6_)]⟩)]) [] w := by kernel_rfl
  exact ca_of' (P := Tryz.prog) (g := 13) (fn := Tryz.f13) (c := C13) (m := 107) (rs := [.tmp 6]) (args := [(.pointer t), (.pointer r), (.agg ⟨[(.int .i64 a0_), (.string a1_), (.int .i64 a2_), (.bool a3_), (.string a4_), (.string a5_), (.string a6_)]⟩)]) (pl := pl13) (ls := ls13) (w := w) (R := R) h1 Tryz.func13 h2 Tryz.ntmps13 h6 h3 h4 h5 (Eq.mp e h)

/-- staith/staithlaw07.lives -/
noncomputable def C12 : Code := (Tryz.f12.body).getD .skip
def pl12 : Nat → Plan := fun _ => .done
def ls12 : Nat → List (Nat × LT) := fun _ => []
def W12 (w : World) (R : Value → World → Prop) : Prop :=
  (Ca Tryz.prog (10) (Array.mk []) (w) (fun v0 => (fun w1 =>
    (∃ p2 : Option Addr, ((v0 = Value.pointer p2) ∧ (atW (World.alloc w1 (Obj.cells (Array.mk [Value.string (ByteArray.mk #[]), Value.int IntKind.i64 0, Value.bool false]) 33 (0, 0))) (fun w3 =>
      ((∃ v4 : Value, (World.cell? w3 (Addr.add (Addr.mk (Array.size (World.heap w1)) 0 none) 0) = some v4)) ∧ ((World.frozen? w3 (Addr.add (Addr.mk (Array.size (World.heap w1)) 0 none) 0) = false) ∧ (atW (World.setCell w3 (Addr.add (Addr.mk (Array.size (World.heap w1)) 0 none) 0) (Value.string (ByteArray.mk #[120]))) (fun w5 =>
        ((∃ v6 : Value, (World.cell? w5 (Addr.add (Addr.mk (Array.size (World.heap w1)) 0 none) 1) = some v6)) ∧ ((World.frozen? w5 (Addr.add (Addr.mk (Array.size (World.heap w1)) 0 none) 1) = false) ∧ (atW (World.setCell w5 (Addr.add (Addr.mk (Array.size (World.heap w1)) 0 none) 1) (Value.int IntKind.i64 3)) (fun w7 =>
          ((∃ v8 : Value, (World.cell? w7 (Addr.add (Addr.mk (Array.size (World.heap w1)) 0 none) 2) = some v8)) ∧ ((World.frozen? w7 (Addr.add (Addr.mk (Array.size (World.heap w1)) 0 none) 2) = false) ∧ (atW (World.setCell w7 (Addr.add (Addr.mk (Array.size (World.heap w1)) 0 none) 2) (Value.bool false)) (fun w9 =>
            (atW (World.alloc w9 (Obj.cells (Array.mk [Value.string (ByteArray.mk #[]), Value.string (ByteArray.mk #[]), Value.string (ByteArray.mk #[])]) 35 (0, 0))) (fun w10 =>
              ((∃ v11 : Value, (World.cell? w10 (Addr.add (Addr.mk (Array.size (World.heap w9)) 0 none) 0) = some v11)) ∧ ((World.frozen? w10 (Addr.add (Addr.mk (Array.size (World.heap w9)) 0 none) 0) = false) ∧ (atW (World.setCell w10 (Addr.add (Addr.mk (Array.size (World.heap w9)) 0 none) 0) (Value.string (ByteArray.mk #[120]))) (fun w12 =>
                ((∃ v13 : Value, (World.cell? w12 (Addr.add (Addr.mk (Array.size (World.heap w9)) 0 none) 1) = some v13)) ∧ ((World.frozen? w12 (Addr.add (Addr.mk (Array.size (World.heap w9)) 0 none) 1) = false) ∧ (atW (World.setCell w12 (Addr.add (Addr.mk (Array.size (World.heap w9)) 0 none) 1) (Value.string (ByteArray.mk #[113]))) (fun w14 =>
                  ((∃ v15 : Value, (World.cell? w14 (Addr.add (Addr.mk (Array.size (World.heap w9)) 0 none) 2) = some v15)) ∧ ((World.frozen? w14 (Addr.add (Addr.mk (Array.size (World.heap w9)) 0 none) 2) = false) ∧ (atW (World.setCell w14 (Addr.add (Addr.mk (Array.size (World.heap w9)) 0 none) 2) (Value.string (ByteArray.mk #[97, 46, 42]))) (fun w16 =>
                    (ifK (Option.isNone p2)
                      (R (Value.bool false) (w16))
                      (∃ s17 : ByteArray, ((World.cell? w16 (Addr.add (Addr.mk (Array.size (World.heap w1)) 0 none) 0) = some (Value.string s17)) ∧ (∃ x18 : Int, ((World.cell? w16 (Addr.add (Addr.mk (Array.size (World.heap w1)) 0 none) 1) = some (Value.int IntKind.i64 x18)) ∧ (∃ b19 : Bool, ((World.cell? w16 (Addr.add (Addr.mk (Array.size (World.heap w1)) 0 none) 2) = some (Value.bool b19)) ∧ (Ca Tryz.prog (35) (Array.mk [Value.pointer p2, Value.agg (Array.mk (List.reverse [Value.bool b19, Value.int IntKind.i64 x18, Value.string s17]))]) (w16) (fun v20 => (fun w21 =>
                        (∃ x22 : Int, ((v20 = Value.int IntKind.i64 x22) ∧ (ifK (x22 != 0)
                          (R (Value.bool false) (w21))
                          (∃ s23 : ByteArray, ((World.cell? w21 (Addr.add (Addr.mk (Array.size (World.heap w9)) 0 none) 0) = some (Value.string s23)) ∧ (∃ s24 : ByteArray, ((World.cell? w21 (Addr.add (Addr.mk (Array.size (World.heap w9)) 0 none) 1) = some (Value.string s24)) ∧ (∃ s25 : ByteArray, ((World.cell? w21 (Addr.add (Addr.mk (Array.size (World.heap w9)) 0 none) 2) = some (Value.string s25)) ∧ (Ca Tryz.prog (21) (Array.mk [Value.pointer p2, Value.agg (Array.mk (List.reverse [Value.string s25, Value.string s24, Value.string s23]))]) (w21) (fun v26 => (fun w27 =>
                            (∃ x28 : Int, ((v26 = Value.int IntKind.i64 x28) ∧ (ifK (x28 != 0)
                              (R (Value.bool false) (w27))
                              (∃ s29 : ByteArray, ((World.cell? w27 (Addr.add (Addr.mk (Array.size (World.heap w9)) 0 none) 0) = some (Value.string s29)) ∧ (∃ s30 : ByteArray, ((World.cell? w27 (Addr.add (Addr.mk (Array.size (World.heap w9)) 0 none) 1) = some (Value.string s30)) ∧ (∃ s31 : ByteArray, ((World.cell? w27 (Addr.add (Addr.mk (Array.size (World.heap w9)) 0 none) 2) = some (Value.string s31)) ∧ (Ca Tryz.prog (21) (Array.mk [Value.pointer p2, Value.agg (Array.mk (List.reverse [Value.string s31, Value.string s30, Value.string s29]))]) (w27) (fun v32 => (fun w33 =>
                                (∃ x34 : Int, ((v32 = Value.int IntKind.i64 x34) ∧ (ifK (x34 != 0)
                                  (R (Value.bool false) (w33))
                                  (Ca Tryz.prog (16) (Array.mk [Value.pointer p2]) (w33) (fun v35 => (fun w36 =>
                                    (∃ p37 : Option Addr, (∃ n38 : Nat, (∃ n39 : Nat, ((v35 = Value.slice p37 n38 n39) ∧ (ifK ((↑n38 : Int) != 1)
                                      (R (Value.bool false) (w36))
                                      (Ca Tryz.prog (17) (Array.mk [Value.pointer p2, Value.string (ByteArray.mk #[120])]) (w36) (fun v40 => (fun w41 =>
                                        (∃ s42 : ByteArray, (∃ x43 : Int, (∃ b44 : Bool, (∃ b45 : Bool, ((v40 = Value.tuple (Array.mk (List.reverse [Value.bool b45, Value.agg (Array.mk (List.reverse [Value.bool b44, Value.int IntKind.i64 x43, Value.string s42]))]))) ∧ (atW (World.alloc w41 (Obj.cells (Array.mk [Value.string (ByteArray.mk #[]), Value.int IntKind.i64 0, Value.bool false]) 33 (0, 0))) (fun w46 =>
                                          ((∃ v47 : Value, (World.cell? w46 (Addr.add (Addr.mk (Array.size (World.heap w41)) 0 none) 0) = some v47)) ∧ ((World.frozen? w46 (Addr.add (Addr.mk (Array.size (World.heap w41)) 0 none) 0) = false) ∧ (atW (World.setCell w46 (Addr.add (Addr.mk (Array.size (World.heap w41)) 0 none) 0) (Value.string s42)) (fun w48 =>
                                            ((∃ v49 : Value, (World.cell? w48 (Addr.add (Addr.mk (Array.size (World.heap w41)) 0 none) 1) = some v49)) ∧ ((World.frozen? w48 (Addr.add (Addr.mk (Array.size (World.heap w41)) 0 none) 1) = false) ∧ (atW (World.setCell w48 (Addr.add (Addr.mk (Array.size (World.heap w41)) 0 none) 1) (Value.int IntKind.i64 x43)) (fun w50 =>
                                              ((∃ v51 : Value, (World.cell? w50 (Addr.add (Addr.mk (Array.size (World.heap w41)) 0 none) 2) = some v51)) ∧ ((World.frozen? w50 (Addr.add (Addr.mk (Array.size (World.heap w41)) 0 none) 2) = false) ∧ (atW (World.setCell w50 (Addr.add (Addr.mk (Array.size (World.heap w41)) 0 none) 2) (Value.bool b44)) (fun w52 =>
                                                (ifK (b45)
                                                  (∃ s53 : ByteArray, ((World.cell? w52 (Addr.add (Addr.mk (Array.size (World.heap w41)) 0 none) 0) = some (Value.string s53)) ∧ (∃ x54 : Int, ((World.cell? w52 (Addr.add (Addr.mk (Array.size (World.heap w41)) 0 none) 1) = some (Value.int IntKind.i64 x54)) ∧ (∃ b55 : Bool, ((World.cell? w52 (Addr.add (Addr.mk (Array.size (World.heap w41)) 0 none) 2) = some (Value.bool b55)) ∧ (∃ s56 : ByteArray, ((World.cell? w52 (Addr.add (Addr.mk (Array.size (World.heap w1)) 0 none) 0) = some (Value.string s56)) ∧ (∃ x57 : Int, ((World.cell? w52 (Addr.add (Addr.mk (Array.size (World.heap w1)) 0 none) 1) = some (Value.int IntKind.i64 x57)) ∧ (∃ b58 : Bool, ((World.cell? w52 (Addr.add (Addr.mk (Array.size (World.heap w1)) 0 none) 2) = some (Value.bool b58)) ∧ (eqA Tryz.prog 33 (Value.agg (Array.mk (List.reverse [Value.bool b55, Value.int IntKind.i64 x54, Value.string s53]))) (Value.agg (Array.mk (List.reverse [Value.bool b58, Value.int IntKind.i64 x57, Value.string s56]))) (w52) (fun b59 => (fun w60 =>
                                                    (ifK (b59)
                                                      (Ca Tryz.prog (23) (Array.mk [Value.pointer p2, Value.string (ByteArray.mk #[120])]) (w60) (fun v61 => (fun w62 =>
                                                        (∃ x63 : Int, ((v61 = Value.int IntKind.i64 x63) ∧ (ifK (x63 == 0)
                                                          (Ca Tryz.prog (16) (Array.mk [Value.pointer p2]) (w62) (fun v64 => (fun w65 =>
                                                            (∃ p66 : Option Addr, (∃ n67 : Nat, (∃ n68 : Nat, ((v64 = Value.slice p66 n67 n68) ∧ (ifK ((↑n67 : Int) == 0)
                                                              (Ca Tryz.prog (23) (Array.mk [Value.pointer p2, Value.string (ByteArray.mk #[120])]) (w65) (fun v69 => (fun w70 =>
                                                                (∃ x71 : Int, ((v69 = Value.int IntKind.i64 x71) ∧ (R (Value.bool (x71 == 3)) (w70)))))))
                                                              (R (Value.bool false) (w65))))))))))
                                                          (R (Value.bool false) (w62))))))))
                                                      (R (Value.bool false) (w60))))))))))))))))))
                                                  (R (Value.bool false) (w52)))))))))))))))))))))))))))))))))))))))))))))))))))))))))))))))))))))))))))))))))))))))))))))))))))))))
theorem ca12 (w : World) (R : Value → World → Prop) (h : W12  w R) : Ca Tryz.prog 12 ⟨[]⟩ w R := by
  have h1 : Tryz.prog.follows .mixedOrders = true := by kernel_rfl
  have h2 : Tryz.f12.body = some C12 := by kernel_rfl
  have h3 : (Tryz.f12.name == "runtime.NumGoroutine") = false := by kernel_rfl
  have h6 : Tryz.f12.results.toList = [.tmp 0] := by kernel_rfl
  have h4 : Nat.ble 0 62 = true := by kernel_rfl
  have h5 : okCode 62 pl12 ls12 C12 0 = true := by kernel_rfl
  have e : W12  w R = wpC none Tryz.prog 62 pl12 ls12 C12 0 (endP Tryz.prog [.tmp 0] R) (fr0 []) [] w := by kernel_rfl
  exact ca_of' (P := Tryz.prog) (g := 12) (fn := Tryz.f12) (c := C12) (m := 62) (rs := [.tmp 0]) (args := []) (pl := pl12) (ls := ls12) (w := w) (R := R) h1 Tryz.func12 h2 Tryz.ntmps12 h6 h3 h4 h5 (Eq.mp e h)

/-- staith/staithlaw07.BindActs -/
noncomputable def C3 : Code := (Tryz.f3.body).getD .skip
def pl3 : Nat → Plan := fun _ => .done
def ls3 : Nat → List (Nat × LT)
  | 7 => [(24, (.one (.int .i64)))]
  | _ => []
def W3 (actsa : Option Addr) (actsl : Nat) (actsc : Nat) (w : World) (R : Value → World → Prop) : Prop :=
  (Ca Tryz.prog (10) (Array.mk []) (w) (fun v0 => (fun w1 =>
    (∃ p2 : Option Addr, ((v0 = Value.pointer p2) ∧ (atW (World.alloc w1 (Obj.cells (Array.mk [Value.slice none 0 0, Value.slice none 0 0]) 29 (0, 0))) (fun w3 =>
      (ifK (Option.isNone p2)
        (ifK (!Option.isNone p2)
          (Ca Tryz.prog (12) (Array.mk []) (w3) (fun v4 => (fun w5 =>
            (∃ b6 : Bool, ((v4 = Value.bool b6) ∧ (R (Value.bool b6) (w5)))))))
          (R (Value.bool false) (w3)))
        (Ca Tryz.prog (11) (Array.mk [Value.slice actsa actsl actsc]) (w3) (fun v7 => (fun w8 =>
          (∃ b9 : Bool, ((v7 = Value.bool b9) ∧ (ifK (!b9)
            (ifK (!Option.isNone p2)
              (Ca Tryz.prog (12) (Array.mk []) (w8) (fun v10 => (fun w11 =>
                (∃ b12 : Bool, ((v10 = Value.bool b12) ∧ (R (Value.bool b12) (w11)))))))
              (R (Value.bool false) (w8)))
            (∃ z13 : Int → World → Prop, (∃ z14 : Int → World → Nat, ((z13 (0) (w8)) ∧ (∀ (_ : Nat → Value), (∀ (x16 : Int), (∀ (w17 : World), ((z13 (x16) (w17)) → (ifK (decide (x16 < (↑actsl : Int)))
              (∃ a18 : Addr, ((actsa = some a18) ∧ (((0 : Int) ≤ x16) ∧ (((x16 : Int) < (↑actsl : Int)) ∧ (∃ x19 : Int, ((World.cell? w17 (Addr.add (Addr.add a18 (Int.toNat x16 * 7)) 0) = some (Value.int IntKind.i64 x19)) ∧ (∃ s20 : ByteArray, ((World.cell? w17 (Addr.add (Addr.add a18 (Int.toNat x16 * 7)) 1) = some (Value.string s20)) ∧ (∃ x21 : Int, ((World.cell? w17 (Addr.add (Addr.add a18 (Int.toNat x16 * 7)) 2) = some (Value.int IntKind.i64 x21)) ∧ (∃ b22 : Bool, ((World.cell? w17 (Addr.add (Addr.add a18 (Int.toNat x16 * 7)) 3) = some (Value.bool b22)) ∧ (∃ s23 : ByteArray, ((World.cell? w17 (Addr.add (Addr.add a18 (Int.toNat x16 * 7)) 4) = some (Value.string s23)) ∧ (∃ s24 : ByteArray, ((World.cell? w17 (Addr.add (Addr.add a18 (Int.toNat x16 * 7)) 5) = some (Value.string s24)) ∧ (∃ s25 : ByteArray, ((World.cell? w17 (Addr.add (Addr.add a18 (Int.toNat x16 * 7)) 6) = some (Value.string s25)) ∧ (atW (World.alloc w17 (Obj.cells (Array.mk [Value.int IntKind.i64 0, Value.string (ByteArray.mk #[]), Value.int IntKind.i64 0, Value.bool false, Value.string (ByteArray.mk #[]), Value.string (ByteArray.mk #[]), Value.string (ByteArray.mk #[])]) 37 (0, 0))) (fun w26 =>
                ((∃ v27 : Value, (World.cell? w26 (Addr.add (Addr.mk (Array.size (World.heap w17)) 0 none) 0) = some v27)) ∧ ((World.frozen? w26 (Addr.add (Addr.mk (Array.size (World.heap w17)) 0 none) 0) = false) ∧ (atW (World.setCell w26 (Addr.add (Addr.mk (Array.size (World.heap w17)) 0 none) 0) (Value.int IntKind.i64 x19)) (fun w28 =>
                  ((∃ v29 : Value, (World.cell? w28 (Addr.add (Addr.mk (Array.size (World.heap w17)) 0 none) 1) = some v29)) ∧ ((World.frozen? w28 (Addr.add (Addr.mk (Array.size (World.heap w17)) 0 none) 1) = false) ∧ (atW (World.setCell w28 (Addr.add (Addr.mk (Array.size (World.heap w17)) 0 none) 1) (Value.string s20)) (fun w30 =>
                    ((∃ v31 : Value, (World.cell? w30 (Addr.add (Addr.mk (Array.size (World.heap w17)) 0 none) 2) = some v31)) ∧ ((World.frozen? w30 (Addr.add (Addr.mk (Array.size (World.heap w17)) 0 none) 2) = false) ∧ (atW (World.setCell w30 (Addr.add (Addr.mk (Array.size (World.heap w17)) 0 none) 2) (Value.int IntKind.i64 x21)) (fun w32 =>
                      ((∃ v33 : Value, (World.cell? w32 (Addr.add (Addr.mk (Array.size (World.heap w17)) 0 none) 3) = some v33)) ∧ ((World.frozen? w32 (Addr.add (Addr.mk (Array.size (World.heap w17)) 0 none) 3) = false) ∧ (atW (World.setCell w32 (Addr.add (Addr.mk (Array.size (World.heap w17)) 0 none) 3) (Value.bool b22)) (fun w34 =>
                        ((∃ v35 : Value, (World.cell? w34 (Addr.add (Addr.mk (Array.size (World.heap w17)) 0 none) 4) = some v35)) ∧ ((World.frozen? w34 (Addr.add (Addr.mk (Array.size (World.heap w17)) 0 none) 4) = false) ∧ (atW (World.setCell w34 (Addr.add (Addr.mk (Array.size (World.heap w17)) 0 none) 4) (Value.string s23)) (fun w36 =>
                          ((∃ v37 : Value, (World.cell? w36 (Addr.add (Addr.mk (Array.size (World.heap w17)) 0 none) 5) = some v37)) ∧ ((World.frozen? w36 (Addr.add (Addr.mk (Array.size (World.heap w17)) 0 none) 5) = false) ∧ (atW (World.setCell w36 (Addr.add (Addr.mk (Array.size (World.heap w17)) 0 none) 5) (Value.string s24)) (fun w38 =>
                            ((∃ v39 : Value, (World.cell? w38 (Addr.add (Addr.mk (Array.size (World.heap w17)) 0 none) 6) = some v39)) ∧ ((World.frozen? w38 (Addr.add (Addr.mk (Array.size (World.heap w17)) 0 none) 6) = false) ∧ (atW (World.setCell w38 (Addr.add (Addr.mk (Array.size (World.heap w17)) 0 none) 6) (Value.string s25)) (fun w40 =>
                              (∃ x41 : Int, ((World.cell? w40 (Addr.add (Addr.mk (Array.size (World.heap w17)) 0 none) 0) = some (Value.int IntKind.i64 x41)) ∧ (∃ s42 : ByteArray, ((World.cell? w40 (Addr.add (Addr.mk (Array.size (World.heap w17)) 0 none) 1) = some (Value.string s42)) ∧ (∃ x43 : Int, ((World.cell? w40 (Addr.add (Addr.mk (Array.size (World.heap w17)) 0 none) 2) = some (Value.int IntKind.i64 x43)) ∧ (∃ b44 : Bool, ((World.cell? w40 (Addr.add (Addr.mk (Array.size (World.heap w17)) 0 none) 3) = some (Value.bool b44)) ∧ (∃ s45 : ByteArray, ((World.cell? w40 (Addr.add (Addr.mk (Array.size (World.heap w17)) 0 none) 4) = some (Value.string s45)) ∧ (∃ s46 : ByteArray, ((World.cell? w40 (Addr.add (Addr.mk (Array.size (World.heap w17)) 0 none) 5) = some (Value.string s46)) ∧ (∃ s47 : ByteArray, ((World.cell? w40 (Addr.add (Addr.mk (Array.size (World.heap w17)) 0 none) 6) = some (Value.string s47)) ∧ (Ca Tryz.prog (13) (Array.mk [Value.pointer p2, Value.pointer (some (Addr.mk (Array.size (World.heap w1)) 0 none)), Value.agg (Array.mk (List.reverse [Value.string s47, Value.string s46, Value.string s45, Value.bool b44, Value.int IntKind.i64 x43, Value.string s42, Value.int IntKind.i64 x41]))]) (w40) (fun v48 => (fun w49 =>
                                (∃ b50 : Bool, ((v48 = Value.bool b50) ∧ (ifK (!b50)
                                  (R (Value.bool false) (w49))
                                  (Ca Tryz.prog (15) (Array.mk [Value.pointer p2]) (w49) (fun v51 => (fun w52 =>
                                    (∃ p53 : Option Addr, (∃ n54 : Nat, (∃ n55 : Nat, ((v51 = Value.slice p53 n54 n55) ∧ (Ca Tryz.prog (16) (Array.mk [Value.pointer p2]) (w52) (fun v56 => (fun w57 =>
                                      (∃ p58 : Option Addr, (∃ n59 : Nat, (∃ n60 : Nat, ((v56 = Value.slice p58 n59 n60) ∧ (Ca Tryz.prog (14) (Array.mk [Value.slice p53 n54 n55, Value.slice p58 n59 n60, Value.pointer (some (Addr.mk (Array.size (World.heap w1)) 0 none))]) (w57) (fun v61 => (fun w62 =>
                                        (∃ b63 : Bool, ((v61 = Value.bool b63) ∧ (ifK (!b63)
                                          (R (Value.bool false) (w62))
                                          ((z13 (IntKind.wrap IntKind.i64 (x16 + 1)) (w62)) ∧ (z14 (IntKind.wrap IntKind.i64 (x16 + 1)) w62 < z14 x16 w17))))))))))))))))))))))))))))))))))))))))))))))))))))))))))))))))))))))))))))))))))))))))))
              (Ca Tryz.prog (12) (Array.mk []) (w17) (fun v64 => (fun w65 =>
                (∃ b66 : Bool, ((v64 = Value.bool b66) ∧ (R (Value.bool b66) (w65)))))))))))))))))))))))))))))
theorem ca3 (actsa : Option Addr) (actsl : Nat) (actsc : Nat) (w : World) (R : Value → World → Prop) (h : W3 actsa actsl actsc w R) : Ca Tryz.prog 3 ⟨[(.slice actsa actsl actsc)]⟩ w R := by
  have h1 : Tryz.prog.follows .mixedOrders = true := by kernel_rfl
  have h2 : Tryz.f3.body = some C3 := by kernel_rfl
  have h3 : (Tryz.f3.name == "runtime.NumGoroutine") = false := by kernel_rfl
  have h6 : Tryz.f3.results.toList = [.tmp 2] := by kernel_rfl
  have h4 : Nat.ble 1 44 = true := by kernel_rfl
  have h5 : okCode 44 pl3 ls3 C3 0 = true := by kernel_rfl
  have e : W3 actsa actsl actsc w R = wpC none Tryz.prog 44 pl3 ls3 C3 0 (endP Tryz.prog [.tmp 2] R) (fr0 [(.slice actsa actsl actsc)]) [] w := by kernel_rfl
  exact ca_of' (P := Tryz.prog) (g := 3) (fn := Tryz.f3) (c := C3) (m := 44) (rs := [.tmp 2]) (args := [(.slice actsa actsl actsc)]) (pl := pl3) (ls := ls3) (w := w) (R := R) h1 Tryz.func3 h2 Tryz.ntmps3 h6 h3 h4 h5 (Eq.mp e h)

/-- staith/staithlaw07.BindHolds -/
noncomputable def C4 : Code := (Tryz.f4.body).getD .skip
def pl4 : Nat → Plan
  | 15 => (.quiet 0 (.quiet 1 (.quiet 2 (.quiet 3 (.quiet 4 (.eff 5 [] (.quiet 6 (.quiet 7 (.quiet 8 (.quiet 9 (.quiet 10 (.quiet 11 (.quiet 12 (.quiet 13 (.quiet 14 (.quiet 15 (.quiet 16 (.quiet 17 (.quiet 18 (.quiet 19 (.quiet 20 (.quiet 21 (.quiet 22 (.quiet 23 (.eff 24 [] (.quiet 25 (.quiet 26 .done)))))))))))))))))))))))))))
  | 22 => (.quiet 0 (.quiet 1 (.quiet 2 (.quiet 3 (.quiet 4 (.quiet 5 (.quiet 6 (.quiet 7 (.quiet 8 (.quiet 9 (.quiet 10 (.quiet 11 (.eff 12 [] (.quiet 13 (.quiet 14 .done)))))))))))))))
  | _ => .done
def ls4 : Nat → List (Nat × LT)
  | 7 => [(34, (.one (.int .i64)))]
  | 19 => [(56, (.one (.int .i64)))]
  | 28 => [(98, (.one (.int .i64)))]
  | _ => []
def W4 (actsa : Option Addr) (actsl : Nat) (actsc : Nat) (w : World) (R : Value → World → Prop) : Prop :=
  (Ca Tryz.prog (10) (Array.mk []) (w) (fun v0 => (fun w1 =>
    (∃ p2 : Option Addr, ((v0 = Value.pointer p2) ∧ (atW (World.alloc w1 (Obj.cells (Array.mk [Value.slice none 0 0, Value.slice none 0 0]) 29 (0, 0))) (fun w3 =>
      (ifK (Option.isNone p2)
        (ifK (!Option.isNone p2)
          (Ca Tryz.prog (12) (Array.mk []) (w3) (fun v4 => (fun w5 =>
            (∃ b6 : Bool, ((v4 = Value.bool b6) ∧ (R (Value.bool b6) (w5)))))))
          (R (Value.bool false) (w3)))
        (Ca Tryz.prog (11) (Array.mk [Value.slice actsa actsl actsc]) (w3) (fun v7 => (fun w8 =>
          (∃ b9 : Bool, ((v7 = Value.bool b9) ∧ (ifK (!b9)
            (ifK (!Option.isNone p2)
              (Ca Tryz.prog (12) (Array.mk []) (w8) (fun v10 => (fun w11 =>
                (∃ b12 : Bool, ((v10 = Value.bool b12) ∧ (R (Value.bool b12) (w11)))))))
              (R (Value.bool false) (w8)))
            (∃ z13 : Int → World → Prop, (∃ z14 : Int → World → Nat, ((z13 (0) (w8)) ∧ (∀ (_ : Nat → Value), (∀ (x16 : Int), (∀ (w17 : World), ((z13 (x16) (w17)) → (ifK (decide (x16 < (↑actsl : Int)))
              (∃ a18 : Addr, ((actsa = some a18) ∧ (((0 : Int) ≤ x16) ∧ (((x16 : Int) < (↑actsl : Int)) ∧ (∃ x19 : Int, ((World.cell? w17 (Addr.add (Addr.add a18 (Int.toNat x16 * 7)) 0) = some (Value.int IntKind.i64 x19)) ∧ (∃ s20 : ByteArray, ((World.cell? w17 (Addr.add (Addr.add a18 (Int.toNat x16 * 7)) 1) = some (Value.string s20)) ∧ (∃ x21 : Int, ((World.cell? w17 (Addr.add (Addr.add a18 (Int.toNat x16 * 7)) 2) = some (Value.int IntKind.i64 x21)) ∧ (∃ b22 : Bool, ((World.cell? w17 (Addr.add (Addr.add a18 (Int.toNat x16 * 7)) 3) = some (Value.bool b22)) ∧ (∃ s23 : ByteArray, ((World.cell? w17 (Addr.add (Addr.add a18 (Int.toNat x16 * 7)) 4) = some (Value.string s23)) ∧ (∃ s24 : ByteArray, ((World.cell? w17 (Addr.add (Addr.add a18 (Int.toNat x16 * 7)) 5) = some (Value.string s24)) ∧ (∃ s25 : ByteArray, ((World.cell? w17 (Addr.add (Addr.add a18 (Int.toNat x16 * 7)) 6) = some (Value.string s25)) ∧ (atW (World.alloc w17 (Obj.cells (Array.mk [Value.int IntKind.i64 0, Value.string (ByteArray.mk #[]), Value.int IntKind.i64 0, Value.bool false, Value.string (ByteArray.mk #[]), Value.string (ByteArray.mk #[]), Value.string (ByteArray.mk #[])]) 37 (0, 0))) (fun w26 =>
                ((∃ v27 : Value, (World.cell? w26 (Addr.add (Addr.mk (Array.size (World.heap w17)) 0 none) 0) = some v27)) ∧ ((World.frozen? w26 (Addr.add (Addr.mk (Array.size (World.heap w17)) 0 none) 0) = false) ∧ (atW (World.setCell w26 (Addr.add (Addr.mk (Array.size (World.heap w17)) 0 none) 0) (Value.int IntKind.i64 x19)) (fun w28 =>
                  ((∃ v29 : Value, (World.cell? w28 (Addr.add (Addr.mk (Array.size (World.heap w17)) 0 none) 1) = some v29)) ∧ ((World.frozen? w28 (Addr.add (Addr.mk (Array.size (World.heap w17)) 0 none) 1) = false) ∧ (atW (World.setCell w28 (Addr.add (Addr.mk (Array.size (World.heap w17)) 0 none) 1) (Value.string s20)) (fun w30 =>
                    ((∃ v31 : Value, (World.cell? w30 (Addr.add (Addr.mk (Array.size (World.heap w17)) 0 none) 2) = some v31)) ∧ ((World.frozen? w30 (Addr.add (Addr.mk (Array.size (World.heap w17)) 0 none) 2) = false) ∧ (atW (World.setCell w30 (Addr.add (Addr.mk (Array.size (World.heap w17)) 0 none) 2) (Value.int IntKind.i64 x21)) (fun w32 =>
                      ((∃ v33 : Value, (World.cell? w32 (Addr.add (Addr.mk (Array.size (World.heap w17)) 0 none) 3) = some v33)) ∧ ((World.frozen? w32 (Addr.add (Addr.mk (Array.size (World.heap w17)) 0 none) 3) = false) ∧ (atW (World.setCell w32 (Addr.add (Addr.mk (Array.size (World.heap w17)) 0 none) 3) (Value.bool b22)) (fun w34 =>
                        ((∃ v35 : Value, (World.cell? w34 (Addr.add (Addr.mk (Array.size (World.heap w17)) 0 none) 4) = some v35)) ∧ ((World.frozen? w34 (Addr.add (Addr.mk (Array.size (World.heap w17)) 0 none) 4) = false) ∧ (atW (World.setCell w34 (Addr.add (Addr.mk (Array.size (World.heap w17)) 0 none) 4) (Value.string s23)) (fun w36 =>
                          ((∃ v37 : Value, (World.cell? w36 (Addr.add (Addr.mk (Array.size (World.heap w17)) 0 none) 5) = some v37)) ∧ ((World.frozen? w36 (Addr.add (Addr.mk (Array.size (World.heap w17)) 0 none) 5) = false) ∧ (atW (World.setCell w36 (Addr.add (Addr.mk (Array.size (World.heap w17)) 0 none) 5) (Value.string s24)) (fun w38 =>
                            ((∃ v39 : Value, (World.cell? w38 (Addr.add (Addr.mk (Array.size (World.heap w17)) 0 none) 6) = some v39)) ∧ ((World.frozen? w38 (Addr.add (Addr.mk (Array.size (World.heap w17)) 0 none) 6) = false) ∧ (atW (World.setCell w38 (Addr.add (Addr.mk (Array.size (World.heap w17)) 0 none) 6) (Value.string s25)) (fun w40 =>
                              (∃ x41 : Int, ((World.cell? w40 (Addr.add (Addr.mk (Array.size (World.heap w17)) 0 none) 0) = some (Value.int IntKind.i64 x41)) ∧ (∃ s42 : ByteArray, ((World.cell? w40 (Addr.add (Addr.mk (Array.size (World.heap w17)) 0 none) 1) = some (Value.string s42)) ∧ (∃ x43 : Int, ((World.cell? w40 (Addr.add (Addr.mk (Array.size (World.heap w17)) 0 none) 2) = some (Value.int IntKind.i64 x43)) ∧ (∃ b44 : Bool, ((World.cell? w40 (Addr.add (Addr.mk (Array.size (World.heap w17)) 0 none) 3) = some (Value.bool b44)) ∧ (∃ s45 : ByteArray, ((World.cell? w40 (Addr.add (Addr.mk (Array.size (World.heap w17)) 0 none) 4) = some (Value.string s45)) ∧ (∃ s46 : ByteArray, ((World.cell? w40 (Addr.add (Addr.mk (Array.size (World.heap w17)) 0 none) 5) = some (Value.string s46)) ∧ (∃ s47 : ByteArray, ((World.cell? w40 (Addr.add (Addr.mk (Array.size (World.heap w17)) 0 none) 6) = some (Value.string s47)) ∧ (Ca Tryz.prog (13) (Array.mk [Value.pointer p2, Value.pointer (some (Addr.mk (Array.size (World.heap w1)) 0 none)), Value.agg (Array.mk (List.reverse [Value.string s47, Value.string s46, Value.string s45, Value.bool b44, Value.int IntKind.i64 x43, Value.string s42, Value.int IntKind.i64 x41]))]) (w40) (fun v48 => (fun w49 =>
                                (∃ b50 : Bool, ((v48 = Value.bool b50) ∧ (Ca Tryz.prog (15) (Array.mk [Value.pointer p2]) (w49) (fun v51 => (fun w52 =>
                                  (∃ p53 : Option Addr, (∃ n54 : Nat, (∃ n55 : Nat, ((v51 = Value.slice p53 n54 n55) ∧ (Ca Tryz.prog (16) (Array.mk [Value.pointer p2]) (w52) (fun v56 => (fun w57 =>
                                    (∃ p58 : Option Addr, (∃ n59 : Nat, (∃ n60 : Nat, ((v56 = Value.slice p58 n59 n60) ∧ (ifK (decide ((↑n54 : Int) > 8))
                                      (R (Value.bool false) (w57))
                                      (ifK (decide ((↑n59 : Int) > 32))
                                        (R (Value.bool false) (w57))
                                        (∃ z61 : Int → World → Prop, (∃ z62 : Int → World → Nat, ((z61 (0) (w57)) ∧ (∀ (_ : Nat → Value), (∀ (x64 : Int), (∀ (w65 : World), ((z61 (x64) (w65)) → (ifK (decide (x64 < (↑n54 : Int)))
                                          (∃ a66 : Addr, ((p53 = some a66) ∧ (((0 : Int) ≤ x64) ∧ (((x64 : Int) < (↑n54 : Int)) ∧ (∃ s67 : ByteArray, ((World.cell? w65 (Addr.add (Addr.add a66 (Int.toNat x64 * 3)) 0) = some (Value.string s67)) ∧ (∃ x68 : Int, ((World.cell? w65 (Addr.add (Addr.add a66 (Int.toNat x64 * 3)) 1) = some (Value.int IntKind.i64 x68)) ∧ (∃ b69 : Bool, ((World.cell? w65 (Addr.add (Addr.add a66 (Int.toNat x64 * 3)) 2) = some (Value.bool b69)) ∧ (atW (World.alloc w65 (Obj.cells (Array.mk [Value.string (ByteArray.mk #[]), Value.int IntKind.i64 0, Value.bool false]) 33 (0, 0))) (fun w70 =>
                                            ((∃ v71 : Value, (World.cell? w70 (Addr.add (Addr.mk (Array.size (World.heap w65)) 0 none) 0) = some v71)) ∧ ((World.frozen? w70 (Addr.add (Addr.mk (Array.size (World.heap w65)) 0 none) 0) = false) ∧ (atW (World.setCell w70 (Addr.add (Addr.mk (Array.size (World.heap w65)) 0 none) 0) (Value.string s67)) (fun w72 =>
                                              ((∃ v73 : Value, (World.cell? w72 (Addr.add (Addr.mk (Array.size (World.heap w65)) 0 none) 1) = some v73)) ∧ ((World.frozen? w72 (Addr.add (Addr.mk (Array.size (World.heap w65)) 0 none) 1) = false) ∧ (atW (World.setCell w72 (Addr.add (Addr.mk (Array.size (World.heap w65)) 0 none) 1) (Value.int IntKind.i64 x68)) (fun w74 =>
                                                ((∃ v75 : Value, (World.cell? w74 (Addr.add (Addr.mk (Array.size (World.heap w65)) 0 none) 2) = some v75)) ∧ ((World.frozen? w74 (Addr.add (Addr.mk (Array.size (World.heap w65)) 0 none) 2) = false) ∧ (atW (World.setCell w74 (Addr.add (Addr.mk (Array.size (World.heap w65)) 0 none) 2) (Value.bool b69)) (fun w76 =>
                                                  (∃ s77 : ByteArray, ((World.cell? w76 (Addr.add (Addr.mk (Array.size (World.heap w65)) 0 none) 0) = some (Value.string s77)) ∧ (Ca Tryz.prog (17) (Array.mk [Value.pointer p2, Value.string s77]) (w76) (fun v78 => (fun w79 =>
                                                    (∃ s80 : ByteArray, (∃ x81 : Int, (∃ b82 : Bool, (∃ b83 : Bool, ((v78 = Value.tuple (Array.mk (List.reverse [Value.bool b83, Value.agg (Array.mk (List.reverse [Value.bool b82, Value.int IntKind.i64 x81, Value.string s80]))]))) ∧ (atW (World.alloc w79 (Obj.cells (Array.mk [Value.string (ByteArray.mk #[]), Value.int IntKind.i64 0, Value.bool false]) 33 (0, 0))) (fun w84 =>
                                                      ((∃ v85 : Value, (World.cell? w84 (Addr.add (Addr.mk (Array.size (World.heap w79)) 0 none) 0) = some v85)) ∧ ((World.frozen? w84 (Addr.add (Addr.mk (Array.size (World.heap w79)) 0 none) 0) = false) ∧ (atW (World.setCell w84 (Addr.add (Addr.mk (Array.size (World.heap w79)) 0 none) 0) (Value.string s80)) (fun w86 =>
                                                        ((∃ v87 : Value, (World.cell? w86 (Addr.add (Addr.mk (Array.size (World.heap w79)) 0 none) 1) = some v87)) ∧ ((World.frozen? w86 (Addr.add (Addr.mk (Array.size (World.heap w79)) 0 none) 1) = false) ∧ (atW (World.setCell w86 (Addr.add (Addr.mk (Array.size (World.heap w79)) 0 none) 1) (Value.int IntKind.i64 x81)) (fun w88 =>
                                                          ((∃ v89 : Value, (World.cell? w88 (Addr.add (Addr.mk (Array.size (World.heap w79)) 0 none) 2) = some v89)) ∧ ((World.frozen? w88 (Addr.add (Addr.mk (Array.size (World.heap w79)) 0 none) 2) = false) ∧ (atW (World.setCell w88 (Addr.add (Addr.mk (Array.size (World.heap w79)) 0 none) 2) (Value.bool b82)) (fun w90 =>
                                                            (atW (World.drew w90) (fun w91 =>
                                                              (ifK (!b83)
                                                                (R (Value.bool false) (w91))
                                                                (∃ s92 : ByteArray, ((World.cell? w91 (Addr.add (Addr.mk (Array.size (World.heap w65)) 0 none) 0) = some (Value.string s92)) ∧ (∃ x93 : Int, ((World.cell? w91 (Addr.add (Addr.mk (Array.size (World.heap w65)) 0 none) 1) = some (Value.int IntKind.i64 x93)) ∧ (∃ b94 : Bool, ((World.cell? w91 (Addr.add (Addr.mk (Array.size (World.heap w65)) 0 none) 2) = some (Value.bool b94)) ∧ (∃ s95 : ByteArray, ((World.cell? w91 (Addr.add (Addr.mk (Array.size (World.heap w79)) 0 none) 0) = some (Value.string s95)) ∧ (∃ x96 : Int, ((World.cell? w91 (Addr.add (Addr.mk (Array.size (World.heap w79)) 0 none) 1) = some (Value.int IntKind.i64 x96)) ∧ (∃ b97 : Bool, ((World.cell? w91 (Addr.add (Addr.mk (Array.size (World.heap w79)) 0 none) 2) = some (Value.bool b97)) ∧ (eqA Tryz.prog 33 (Value.agg (Array.mk (List.reverse [Value.bool b94, Value.int IntKind.i64 x93, Value.string s92]))) (Value.agg (Array.mk (List.reverse [Value.bool b97, Value.int IntKind.i64 x96, Value.string s95]))) (w91) (fun b98 => (fun w99 =>
                                                                  (ifK (!b98)
                                                                    (R (Value.bool false) (w99))
                                                                    (ifK (decide (x64 > 0))
                                                                      (∃ a100 : Addr, ((p53 = some a100) ∧ (((0 : Int) ≤ IntKind.wrap IntKind.i64 (x64 - 1)) ∧ (((IntKind.wrap IntKind.i64 (x64 - 1) : Int) < (↑n54 : Int)) ∧ (∃ s101 : ByteArray, ((World.cell? w99 (Addr.add (Addr.add a100 (Int.toNat (IntKind.wrap IntKind.i64 (x64 - 1)) * 3)) 0) = some (Value.string s101)) ∧ (∃ s102 : ByteArray, ((World.cell? w99 (Addr.add (Addr.mk (Array.size (World.heap w65)) 0 none) 0) = some (Value.string s102)) ∧ (ifK (!Op.bytesLess (ByteArray.toList s101) (ByteArray.toList s102))
                                                                        (R (Value.bool false) (w99))
                                                                        (∃ s103 : ByteArray, ((World.cell? w99 (Addr.add (Addr.mk (Array.size (World.heap w65)) 0 none) 0) = some (Value.string s103)) ∧ (∃ x104 : Int, ((World.cell? w99 (Addr.add (Addr.mk (Array.size (World.heap w65)) 0 none) 1) = some (Value.int IntKind.i64 x104)) ∧ (∃ b105 : Bool, ((World.cell? w99 (Addr.add (Addr.mk (Array.size (World.heap w65)) 0 none) 2) = some (Value.bool b105)) ∧ (Ca Tryz.prog (18) (Array.mk [Value.agg (Array.mk (List.reverse [Value.bool b105, Value.int IntKind.i64 x104, Value.string s103]))]) (w99) (fun v106 => (fun w107 =>
                                                                          (∃ b108 : Bool, ((v106 = Value.bool b108) ∧ (ifK (!b108)
                                                                            (R (Value.bool false) (w107))
                                                                            ((z61 (IntKind.wrap IntKind.i64 (x64 + 1)) (w107)) ∧ (z62 (IntKind.wrap IntKind.i64 (x64 + 1)) w107 < z62 x64 w65)))))))))))))))))))))))
                                                                      (∃ s109 : ByteArray, ((World.cell? w99 (Addr.add (Addr.mk (Array.size (World.heap w65)) 0 none) 0) = some (Value.string s109)) ∧ (∃ x110 : Int, ((World.cell? w99 (Addr.add (Addr.mk (Array.size (World.heap w65)) 0 none) 1) = some (Value.int IntKind.i64 x110)) ∧ (∃ b111 : Bool, ((World.cell? w99 (Addr.add (Addr.mk (Array.size (World.heap w65)) 0 none) 2) = some (Value.bool b111)) ∧ (Ca Tryz.prog (18) (Array.mk [Value.agg (Array.mk (List.reverse [Value.bool b111, Value.int IntKind.i64 x110, Value.string s109]))]) (w99) (fun v112 => (fun w113 =>
                                                                        (∃ b114 : Bool, ((v112 = Value.bool b114) ∧ (ifK (!b114)
                                                                          (R (Value.bool false) (w113))
                                                                          ((z61 (IntKind.wrap IntKind.i64 (x64 + 1)) (w113)) ∧ (z62 (IntKind.wrap IntKind.i64 (x64 + 1)) w113 < z62 x64 w65))))))))))))))))))))))))))))))))))))))))))))))))))))))))))))))))))))))))))))))))))
                                          (∃ z115 : Int → World → Prop, (∃ z116 : Int → World → Nat, ((z115 (0) (w65)) ∧ (∀ (_ : Nat → Value), (∀ (x118 : Int), (∀ (w119 : World), ((z115 (x118) (w119)) → (ifK (decide (x118 < (↑n59 : Int)))
                                            (∃ a120 : Addr, ((p58 = some a120) ∧ (((0 : Int) ≤ x118) ∧ (((x118 : Int) < (↑n59 : Int)) ∧ (∃ s121 : ByteArray, ((World.cell? w119 (Addr.add (Addr.add a120 (Int.toNat x118 * 3)) 0) = some (Value.string s121)) ∧ (∃ s122 : ByteArray, ((World.cell? w119 (Addr.add (Addr.add a120 (Int.toNat x118 * 3)) 1) = some (Value.string s122)) ∧ (∃ s123 : ByteArray, ((World.cell? w119 (Addr.add (Addr.add a120 (Int.toNat x118 * 3)) 2) = some (Value.string s123)) ∧ (atW (World.alloc w119 (Obj.cells (Array.mk [Value.string (ByteArray.mk #[]), Value.string (ByteArray.mk #[]), Value.string (ByteArray.mk #[])]) 35 (0, 0))) (fun w124 =>
                                              ((∃ v125 : Value, (World.cell? w124 (Addr.add (Addr.mk (Array.size (World.heap w119)) 0 none) 0) = some v125)) ∧ ((World.frozen? w124 (Addr.add (Addr.mk (Array.size (World.heap w119)) 0 none) 0) = false) ∧ (atW (World.setCell w124 (Addr.add (Addr.mk (Array.size (World.heap w119)) 0 none) 0) (Value.string s121)) (fun w126 =>
                                                ((∃ v127 : Value, (World.cell? w126 (Addr.add (Addr.mk (Array.size (World.heap w119)) 0 none) 1) = some v127)) ∧ ((World.frozen? w126 (Addr.add (Addr.mk (Array.size (World.heap w119)) 0 none) 1) = false) ∧ (atW (World.setCell w126 (Addr.add (Addr.mk (Array.size (World.heap w119)) 0 none) 1) (Value.string s122)) (fun w128 =>
                                                  ((∃ v129 : Value, (World.cell? w128 (Addr.add (Addr.mk (Array.size (World.heap w119)) 0 none) 2) = some v129)) ∧ ((World.frozen? w128 (Addr.add (Addr.mk (Array.size (World.heap w119)) 0 none) 2) = false) ∧ (atW (World.setCell w128 (Addr.add (Addr.mk (Array.size (World.heap w119)) 0 none) 2) (Value.string s123)) (fun w130 =>
                                                    (∃ s131 : ByteArray, ((World.cell? w130 (Addr.add (Addr.mk (Array.size (World.heap w119)) 0 none) 0) = some (Value.string s131)) ∧ (Ca Tryz.prog (17) (Array.mk [Value.pointer p2, Value.string s131]) (w130) (fun v132 => (fun w133 =>
                                                      (∃ s134 : ByteArray, (∃ x135 : Int, (∃ b136 : Bool, (∃ b137 : Bool, ((v132 = Value.tuple (Array.mk (List.reverse [Value.bool b137, Value.agg (Array.mk (List.reverse [Value.bool b136, Value.int IntKind.i64 x135, Value.string s134]))]))) ∧ (atW (World.alloc w133 (Obj.cells (Array.mk [Value.string (ByteArray.mk #[]), Value.int IntKind.i64 0, Value.bool false]) 33 (0, 0))) (fun w138 =>
                                                        ((∃ v139 : Value, (World.cell? w138 (Addr.add (Addr.mk (Array.size (World.heap w133)) 0 none) 0) = some v139)) ∧ ((World.frozen? w138 (Addr.add (Addr.mk (Array.size (World.heap w133)) 0 none) 0) = false) ∧ (atW (World.setCell w138 (Addr.add (Addr.mk (Array.size (World.heap w133)) 0 none) 0) (Value.string s134)) (fun w140 =>
                                                          ((∃ v141 : Value, (World.cell? w140 (Addr.add (Addr.mk (Array.size (World.heap w133)) 0 none) 1) = some v141)) ∧ ((World.frozen? w140 (Addr.add (Addr.mk (Array.size (World.heap w133)) 0 none) 1) = false) ∧ (atW (World.setCell w140 (Addr.add (Addr.mk (Array.size (World.heap w133)) 0 none) 1) (Value.int IntKind.i64 x135)) (fun w142 =>
                                                            ((∃ v143 : Value, (World.cell? w142 (Addr.add (Addr.mk (Array.size (World.heap w133)) 0 none) 2) = some v143)) ∧ ((World.frozen? w142 (Addr.add (Addr.mk (Array.size (World.heap w133)) 0 none) 2) = false) ∧ (atW (World.setCell w142 (Addr.add (Addr.mk (Array.size (World.heap w133)) 0 none) 2) (Value.bool b136)) (fun w144 =>
                                                              (atW (World.drew w144) (fun w145 =>
                                                                (ifK (!b137)
                                                                  (R (Value.bool false) (w145))
                                                                  (ifK (decide (x118 > 0))
                                                                    (∃ a146 : Addr, ((p58 = some a146) ∧ (((0 : Int) ≤ IntKind.wrap IntKind.i64 (x118 - 1)) ∧ (((IntKind.wrap IntKind.i64 (x118 - 1) : Int) < (↑n59 : Int)) ∧ (∃ s147 : ByteArray, ((World.cell? w145 (Addr.add (Addr.add a146 (Int.toNat (IntKind.wrap IntKind.i64 (x118 - 1)) * 3)) 0) = some (Value.string s147)) ∧ (∃ s148 : ByteArray, ((World.cell? w145 (Addr.add (Addr.add a146 (Int.toNat (IntKind.wrap IntKind.i64 (x118 - 1)) * 3)) 1) = some (Value.string s148)) ∧ (∃ s149 : ByteArray, ((World.cell? w145 (Addr.add (Addr.add a146 (Int.toNat (IntKind.wrap IntKind.i64 (x118 - 1)) * 3)) 2) = some (Value.string s149)) ∧ (∃ s150 : ByteArray, ((World.cell? w145 (Addr.add (Addr.mk (Array.size (World.heap w119)) 0 none) 0) = some (Value.string s150)) ∧ (∃ s151 : ByteArray, ((World.cell? w145 (Addr.add (Addr.mk (Array.size (World.heap w119)) 0 none) 1) = some (Value.string s151)) ∧ (∃ s152 : ByteArray, ((World.cell? w145 (Addr.add (Addr.mk (Array.size (World.heap w119)) 0 none) 2) = some (Value.string s152)) ∧ (eqA Tryz.prog 35 (Value.agg (Array.mk (List.reverse [Value.string s149, Value.string s148, Value.string s147]))) (Value.agg (Array.mk (List.reverse [Value.string s152, Value.string s151, Value.string s150]))) (w145) (fun b153 => (fun w154 =>
                                                                      (ifK (b153)
                                                                        (R (Value.bool false) (w154))
                                                                        ((z115 (IntKind.wrap IntKind.i64 (x118 + 1)) (w154)) ∧ (z116 (IntKind.wrap IntKind.i64 (x118 + 1)) w154 < z116 x118 w119))))))))))))))))))))))
                                                                    ((z115 (IntKind.wrap IntKind.i64 (x118 + 1)) (w145)) ∧ (z116 (IntKind.wrap IntKind.i64 (x118 + 1)) w145 < z116 x118 w119))))))))))))))))))))))))))))))))))))))))))))))))))))))
                                            ((z13 (IntKind.wrap IntKind.i64 (x16 + 1)) (w119)) ∧ (z14 (IntKind.wrap IntKind.i64 (x16 + 1)) w119 < z14 x16 w17)))))))))))))))))))))))))))))))))))))))))))))))))))))))))))))))))))))))))))))))))))))))))))))))))))))
              (Ca Tryz.prog (12) (Array.mk []) (w17) (fun v155 => (fun w156 =>
                (∃ b157 : Bool, ((v155 = Value.bool b157) ∧ (R (Value.bool b157) (w156)))))))))))))))))))))))))))))
theorem ca4 (actsa : Option Addr) (actsl : Nat) (actsc : Nat) (w : World) (R : Value → World → Prop) (h : W4 actsa actsl actsc w R) : Ca Tryz.prog 4 ⟨[(.slice actsa actsl actsc)]⟩ w R := by
  have h1 : Tryz.prog.follows .mixedOrders = true := by kernel_rfl
  have h2 : Tryz.f4.body = some C4 := by kernel_rfl
  have h3 : (Tryz.f4.name == "runtime.NumGoroutine") = false := by kernel_rfl
  have h6 : Tryz.f4.results.toList = [.tmp 2] := by kernel_rfl
  have h4 : Nat.ble 1 128 = true := by kernel_rfl
  have h5 : okCode 128 pl4 ls4 C4 0 = true := by kernel_rfl
  have e : W4 actsa actsl actsc w R = wpC none Tryz.prog 128 pl4 ls4 C4 0 (endP Tryz.prog [.tmp 2] R) (fr0 [(.slice actsa actsl actsc)]) [] w := by kernel_rfl
  exact ca_of' (P := Tryz.prog) (g := 4) (fn := Tryz.f4) (c := C4) (m := 128) (rs := [.tmp 2]) (args := [(.slice actsa actsl actsc)]) (pl := pl4) (ls := ls4) (w := w) (R := R) h1 Tryz.func4 h2 Tryz.ntmps4 h6 h3 h4 h5 (Eq.mp e h)

/-- staith/staithlaw07.BindUndoes -/
noncomputable def C5 : Code := (Tryz.f5.body).getD .skip
def pl5 : Nat → Plan
  | 2 => (.quiet 0 (.quiet 1 (.quiet 2 (.quiet 4 (.quiet 6 (.quiet 7 (.fork (.eff 3 [6] (.fork (.eff 5 [6] (.eff 8 [] (.eff 9 [] (.eff 10 [] (.quiet 11 (.quiet 12 .done)))))) (.eff 8 [] (.eff 5 [6] (.eff 9 [] (.eff 10 [] (.quiet 11 (.quiet 12 .done)))))))) (.eff 8 [] (.eff 3 [6] (.eff 5 [6] (.eff 9 [] (.eff 10 [] (.quiet 11 (.quiet 12 .done))))))))))))))
  | _ => .done
def ls5 : Nat → List (Nat × LT)
  | 7 => [(39, (.one (.int .i64)))]
  | 28 => [(102, (.one (.int .i64)))]
  | _ => []
def W5 (actsa : Option Addr) (actsl : Nat) (actsc : Nat) (b0_ : ByteArray) (b1_ : ByteArray) (b2_ : ByteArray) (w : World) (R : Value → World → Prop) : Prop :=
  (atW (World.alloc w (Obj.cells (Array.mk [Value.string b0_, Value.string b1_, Value.string b2_]) 35 (0, 0))) (fun w0 =>
    (Ca Tryz.prog (10) (Array.mk []) (w0) (fun v1 => (fun w2 =>
      (∃ p3 : Option Addr, ((v1 = Value.pointer p3) ∧ (atW (World.alloc w2 (Obj.cells (Array.mk [Value.slice none 0 0, Value.slice none 0 0]) 29 (0, 0))) (fun w4 =>
        (atW (World.drew w4) (fun w5 =>
          (ifK (Option.isNone p3)
            (((ifK (!Option.isNone p3)
              (Ca Tryz.prog (12) (Array.mk []) (w5) (fun v6 => (fun w7 =>
                (∃ b8 : Bool, ((v6 = Value.bool b8) ∧ (R (Value.bool b8) (w7)))))))
              (R (Value.bool false) (w5))) ∧ (ifK (!Option.isNone p3)
              (Ca Tryz.prog (12) (Array.mk []) (w5) (fun v9 => (fun w10 =>
                (∃ b11 : Bool, ((v9 = Value.bool b11) ∧ (R (Value.bool b11) (w10)))))))
              (R (Value.bool false) (w5)))) ∧ (ifK (!Option.isNone p3)
              (Ca Tryz.prog (12) (Array.mk []) (w5) (fun v12 => (fun w13 =>
                (∃ b14 : Bool, ((v12 = Value.bool b14) ∧ (R (Value.bool b14) (w13)))))))
              (R (Value.bool false) (w5))))
            (∃ s15 : ByteArray, ((World.cell? w5 (Addr.add (Addr.mk (Array.size (World.heap w)) 0 none) 0) = some (Value.string s15)) ∧ (∃ s16 : ByteArray, ((World.cell? w5 (Addr.add (Addr.mk (Array.size (World.heap w)) 0 none) 1) = some (Value.string s16)) ∧ (∃ s17 : ByteArray, ((World.cell? w5 (Addr.add (Addr.mk (Array.size (World.heap w)) 0 none) 2) = some (Value.string s17)) ∧ ((atW (World.alloc w5 (Obj.cells (Array.mk []) 37 (0, 0))) (fun w18 =>
              ((World.cell? w18 (Addr.add (Addr.mk (Array.size (World.heap w)) 0 none) 0) = some (Value.string s15)) ∧ ((World.cell? w18 (Addr.add (Addr.mk (Array.size (World.heap w)) 0 none) 1) = some (Value.string s16)) ∧ ((World.cell? w18 (Addr.add (Addr.mk (Array.size (World.heap w)) 0 none) 2) = some (Value.string s17)) ∧ ((∃ v19 : Value, (∃ w20 : World, ((Sem.run Tryz.prog (Builtin.append_ (Array.mk [22, 22]) 22 (Array.mk [Value.slice (some (Addr.mk (Array.size (World.heap w5)) 0 none)) 0 0, Value.slice actsa actsl actsc])) w18 = Result.ok v19 w20) ∧ (∃ p21 : Option Addr, (∃ n22 : Nat, (∃ n23 : Nat, ((v19 = Value.slice p21 n22 n23) ∧ ((World.cell? w20 (Addr.add (Addr.mk (Array.size (World.heap w)) 0 none) 0) = some (Value.string s15)) ∧ ((World.cell? w20 (Addr.add (Addr.mk (Array.size (World.heap w)) 0 none) 1) = some (Value.string s16)) ∧ ((World.cell? w20 (Addr.add (Addr.mk (Array.size (World.heap w)) 0 none) 2) = some (Value.string s17)) ∧ (atW (World.alloc w20 (Obj.cells (Array.mk [Value.int IntKind.i64 0, Value.string (ByteArray.mk #[]), Value.int IntKind.i64 0, Value.bool false, Value.string s15, Value.string s16, Value.string s17]) 37 (0, 0))) (fun w24 =>
                (∃ v25 : Value, (∃ w26 : World, ((Sem.run Tryz.prog (Builtin.append_ (Array.mk [22, 22]) 22 (Array.mk [Value.slice p21 n22 n23, Value.slice (some (Addr.mk (Array.size (World.heap w20)) 0 none)) 1 1])) w24 = Result.ok v25 w26) ∧ (∃ p27 : Option Addr, (∃ n28 : Nat, (∃ n29 : Nat, ((v25 = Value.slice p27 n28 n29) ∧ (Ca Tryz.prog (11) (Array.mk [Value.slice p27 n28 n29]) (w26) (fun v30 => (fun w31 =>
                  (∃ b32 : Bool, ((v30 = Value.bool b32) ∧ (ifK (!b32)
                    (ifK (!Option.isNone p3)
                      (Ca Tryz.prog (12) (Array.mk []) (w31) (fun v33 => (fun w34 =>
                        (∃ b35 : Bool, ((v33 = Value.bool b35) ∧ (R (Value.bool b35) (w34)))))))
                      (R (Value.bool false) (w31)))
                    (∃ z36 : Int → World → Prop, (∃ z37 : Int → World → Nat, ((z36 (0) (w31)) ∧ (∀ (_ : Nat → Value), (∀ (x39 : Int), (∀ (w40 : World), ((z36 (x39) (w40)) → (ifK (decide (x39 < (↑actsl : Int)))
                      (∃ a41 : Addr, ((actsa = some a41) ∧ (((0 : Int) ≤ x39) ∧ (((x39 : Int) < (↑actsl : Int)) ∧ (∃ x42 : Int, ((World.cell? w40 (Addr.add (Addr.add a41 (Int.toNat x39 * 7)) 0) = some (Value.int IntKind.i64 x42)) ∧ (∃ s43 : ByteArray, ((World.cell? w40 (Addr.add (Addr.add a41 (Int.toNat x39 * 7)) 1) = some (Value.string s43)) ∧ (∃ x44 : Int, ((World.cell? w40 (Addr.add (Addr.add a41 (Int.toNat x39 * 7)) 2) = some (Value.int IntKind.i64 x44)) ∧ (∃ b45 : Bool, ((World.cell? w40 (Addr.add (Addr.add a41 (Int.toNat x39 * 7)) 3) = some (Value.bool b45)) ∧ (∃ s46 : ByteArray, ((World.cell? w40 (Addr.add (Addr.add a41 (Int.toNat x39 * 7)) 4) = some (Value.string s46)) ∧ (∃ s47 : ByteArray, ((World.cell? w40 (Addr.add (Addr.add a41 (Int.toNat x39 * 7)) 5) = some (Value.string s47)) ∧ (∃ s48 : ByteArray, ((World.cell? w40 (Addr.add (Addr.add a41 (Int.toNat x39 * 7)) 6) = some (Value.string s48)) ∧ (atW (World.alloc w40 (Obj.cells (Array.mk [Value.int IntKind.i64 0, Value.string (ByteArray.mk #[]), Value.int IntKind.i64 0, Value.bool false, Value.string (ByteArray.mk #[]), Value.string (ByteArray.mk #[]), Value.string (ByteArray.mk #[])]) 37 (0, 0))) (fun w49 =>
                        ((∃ v50 : Value, (World.cell? w49 (Addr.add (Addr.mk (Array.size (World.heap w40)) 0 none) 0) = some v50)) ∧ ((World.frozen? w49 (Addr.add (Addr.mk (Array.size (World.heap w40)) 0 none) 0) = false) ∧ (atW (World.setCell w49 (Addr.add (Addr.mk (Array.size (World.heap w40)) 0 none) 0) (Value.int IntKind.i64 x42)) (fun w51 =>
                          ((∃ v52 : Value, (World.cell? w51 (Addr.add (Addr.mk (Array.size (World.heap w40)) 0 none) 1) = some v52)) ∧ ((World.frozen? w51 (Addr.add (Addr.mk (Array.size (World.heap w40)) 0 none) 1) = false) ∧ (atW (World.setCell w51 (Addr.add (Addr.mk (Array.size (World.heap w40)) 0 none) 1) (Value.string s43)) (fun w53 =>
                            ((∃ v54 : Value, (World.cell? w53 (Addr.add (Addr.mk (Array.size (World.heap w40)) 0 none) 2) = some v54)) ∧ ((World.frozen? w53 (Addr.add (Addr.mk (Array.size (World.heap w40)) 0 none) 2) = false) ∧ (atW (World.setCell w53 (Addr.add (Addr.mk (Array.size (World.heap w40)) 0 none) 2) (Value.int IntKind.i64 x44)) (fun w55 =>
                              ((∃ v56 : Value, (World.cell? w55 (Addr.add (Addr.mk (Array.size (World.heap w40)) 0 none) 3) = some v56)) ∧ ((World.frozen? w55 (Addr.add (Addr.mk (Array.size (World.heap w40)) 0 none) 3) = false) ∧ (atW (World.setCell w55 (Addr.add (Addr.mk (Array.size (World.heap w40)) 0 none) 3) (Value.bool b45)) (fun w57 =>
                                ((∃ v58 : Value, (World.cell? w57 (Addr.add (Addr.mk (Array.size (World.heap w40)) 0 none) 4) = some v58)) ∧ ((World.frozen? w57 (Addr.add (Addr.mk (Array.size (World.heap w40)) 0 none) 4) = false) ∧ (atW (World.setCell w57 (Addr.add (Addr.mk (Array.size (World.heap w40)) 0 none) 4) (Value.string s46)) (fun w59 =>
                                  ((∃ v60 : Value, (World.cell? w59 (Addr.add (Addr.mk (Array.size (World.heap w40)) 0 none) 5) = some v60)) ∧ ((World.frozen? w59 (Addr.add (Addr.mk (Array.size (World.heap w40)) 0 none) 5) = false) ∧ (atW (World.setCell w59 (Addr.add (Addr.mk (Array.size (World.heap w40)) 0 none) 5) (Value.string s47)) (fun w61 =>
                                    ((∃ v62 : Value, (World.cell? w61 (Addr.add (Addr.mk (Array.size (World.heap w40)) 0 none) 6) = some v62)) ∧ ((World.frozen? w61 (Addr.add (Addr.mk (Array.size (World.heap w40)) 0 none) 6) = false) ∧ (atW (World.setCell w61 (Addr.add (Addr.mk (Array.size (World.heap w40)) 0 none) 6) (Value.string s48)) (fun w63 =>
                                      (∃ x64 : Int, ((World.cell? w63 (Addr.add (Addr.mk (Array.size (World.heap w40)) 0 none) 0) = some (Value.int IntKind.i64 x64)) ∧ (∃ s65 : ByteArray, ((World.cell? w63 (Addr.add (Addr.mk (Array.size (World.heap w40)) 0 none) 1) = some (Value.string s65)) ∧ (∃ x66 : Int, ((World.cell? w63 (Addr.add (Addr.mk (Array.size (World.heap w40)) 0 none) 2) = some (Value.int IntKind.i64 x66)) ∧ (∃ b67 : Bool, ((World.cell? w63 (Addr.add (Addr.mk (Array.size (World.heap w40)) 0 none) 3) = some (Value.bool b67)) ∧ (∃ s68 : ByteArray, ((World.cell? w63 (Addr.add (Addr.mk (Array.size (World.heap w40)) 0 none) 4) = some (Value.string s68)) ∧ (∃ s69 : ByteArray, ((World.cell? w63 (Addr.add (Addr.mk (Array.size (World.heap w40)) 0 none) 5) = some (Value.string s69)) ∧ (∃ s70 : ByteArray, ((World.cell? w63 (Addr.add (Addr.mk (Array.size (World.heap w40)) 0 none) 6) = some (Value.string s70)) ∧ (Ca Tryz.prog (13) (Array.mk [Value.pointer p3, Value.pointer (some (Addr.mk (Array.size (World.heap w2)) 0 none)), Value.agg (Array.mk (List.reverse [Value.string s70, Value.string s69, Value.string s68, Value.bool b67, Value.int IntKind.i64 x66, Value.string s65, Value.int IntKind.i64 x64]))]) (w63) (fun v71 => (fun w72 =>
                                        (∃ b73 : Bool, ((v71 = Value.bool b73) ∧ ((z36 (IntKind.wrap IntKind.i64 (x39 + 1)) (w72)) ∧ (z37 (IntKind.wrap IntKind.i64 (x39 + 1)) w72 < z37 x39 w40)))))))))))))))))))))))))))))))))))))))))))))))))))))))))))))))))))))
                      (Ca Tryz.prog (15) (Array.mk [Value.pointer p3]) (w40) (fun v74 => (fun w75 =>
                        (∃ p76 : Option Addr, (∃ n77 : Nat, (∃ n78 : Nat, ((v74 = Value.slice p76 n77 n78) ∧ (Ca Tryz.prog (16) (Array.mk [Value.pointer p3]) (w75) (fun v79 => (fun w80 =>
                          (∃ p81 : Option Addr, (∃ n82 : Nat, (∃ n83 : Nat, ((v79 = Value.slice p81 n82 n83) ∧ (atW (World.alloc w80 (Obj.cells (Array.mk [Value.slice p76 n77 n78, Value.slice p81 n82 n83]) 29 (0, 0))) (fun w84 =>
                            (Ca Tryz.prog (19) (Array.mk [Value.pointer p3]) (w84) (fun v85 => (fun w86 =>
                              (∃ p87 : Option Addr, ((v85 = Value.pointer p87) ∧ (ifK (Option.isNone p87)
                                (R (Value.bool false) (w86))
                                (Ca Tryz.prog (15) (Array.mk [Value.pointer p87]) (w86) (fun v88 => (fun w89 =>
                                  (∃ p90 : Option Addr, (∃ n91 : Nat, (∃ n92 : Nat, ((v88 = Value.slice p90 n91 n92) ∧ (Ca Tryz.prog (16) (Array.mk [Value.pointer p87]) (w89) (fun v93 => (fun w94 =>
                                    (∃ p95 : Option Addr, (∃ n96 : Nat, (∃ n97 : Nat, ((v93 = Value.slice p95 n96 n97) ∧ (Ca Tryz.prog (14) (Array.mk [Value.slice p90 n91 n92, Value.slice p95 n96 n97, Value.pointer (some (Addr.mk (Array.size (World.heap w80)) 0 none))]) (w94) (fun v98 => (fun w99 =>
                                      (∃ b100 : Bool, ((v98 = Value.bool b100) ∧ (ifK (!b100)
                                        (R (Value.bool false) (w99))
                                        (∃ s101 : ByteArray, ((World.cell? w99 (Addr.add (Addr.mk (Array.size (World.heap w)) 0 none) 0) = some (Value.string s101)) ∧ (∃ s102 : ByteArray, ((World.cell? w99 (Addr.add (Addr.mk (Array.size (World.heap w)) 0 none) 1) = some (Value.string s102)) ∧ (∃ s103 : ByteArray, ((World.cell? w99 (Addr.add (Addr.mk (Array.size (World.heap w)) 0 none) 2) = some (Value.string s103)) ∧ (Ca Tryz.prog (20) (Array.mk [Value.pointer (some (Addr.mk (Array.size (World.heap w80)) 0 none)), Value.agg (Array.mk (List.reverse [Value.string s103, Value.string s102, Value.string s101]))]) (w99) (fun v104 => (fun w105 =>
                                          (∃ b106 : Bool, ((v104 = Value.bool b106) ∧ (∃ s107 : ByteArray, ((World.cell? w105 (Addr.add (Addr.mk (Array.size (World.heap w)) 0 none) 0) = some (Value.string s107)) ∧ (∃ s108 : ByteArray, ((World.cell? w105 (Addr.add (Addr.mk (Array.size (World.heap w)) 0 none) 1) = some (Value.string s108)) ∧ (∃ s109 : ByteArray, ((World.cell? w105 (Addr.add (Addr.mk (Array.size (World.heap w)) 0 none) 2) = some (Value.string s109)) ∧ (Ca Tryz.prog (21) (Array.mk [Value.pointer p87, Value.agg (Array.mk (List.reverse [Value.string s109, Value.string s108, Value.string s107]))]) (w105) (fun v110 => (fun w111 =>
                                            (∃ x112 : Int, ((v110 = Value.int IntKind.i64 x112) ∧ (ifK (x112 == 0)
                                              (Ca Tryz.prog (15) (Array.mk [Value.pointer p3]) (w111) (fun v113 => (fun w114 =>
                                                (∃ p115 : Option Addr, (∃ n116 : Nat, (∃ n117 : Nat, ((v113 = Value.slice p115 n116 n117) ∧ (Ca Tryz.prog (16) (Array.mk [Value.pointer p3]) (w114) (fun v118 => (fun w119 =>
                                                  (∃ p120 : Option Addr, (∃ n121 : Nat, (∃ n122 : Nat, ((v118 = Value.slice p120 n121 n122) ∧ (Ca Tryz.prog (14) (Array.mk [Value.slice p115 n116 n117, Value.slice p120 n121 n122, Value.pointer (some (Addr.mk (Array.size (World.heap w80)) 0 none))]) (w119) (fun v123 => (fun w124 =>
                                                    (∃ b125 : Bool, ((v123 = Value.bool b125) ∧ (ifK (!b125)
                                                      (R (Value.bool false) (w124))
                                                      (∃ s126 : ByteArray, ((World.cell? w124 (Addr.add (Addr.mk (Array.size (World.heap w)) 0 none) 0) = some (Value.string s126)) ∧ (∃ s127 : ByteArray, ((World.cell? w124 (Addr.add (Addr.mk (Array.size (World.heap w)) 0 none) 1) = some (Value.string s127)) ∧ (∃ s128 : ByteArray, ((World.cell? w124 (Addr.add (Addr.mk (Array.size (World.heap w)) 0 none) 2) = some (Value.string s128)) ∧ (Ca Tryz.prog (22) (Array.mk [Value.pointer p87, Value.agg (Array.mk (List.reverse [Value.string s128, Value.string s127, Value.string s126]))]) (w124) (fun v129 => (fun w130 =>
                                                        (∃ x131 : Int, ((v129 = Value.int IntKind.i64 x131) ∧ (ifK (x131 != 0)
                                                          (R (Value.bool false) (w130))
                                                          (ifK (!b106)
                                                            (Ca Tryz.prog (15) (Array.mk [Value.pointer p87]) (w130) (fun v132 => (fun w133 =>
                                                              (∃ p134 : Option Addr, (∃ n135 : Nat, (∃ n136 : Nat, ((v132 = Value.slice p134 n135 n136) ∧ (Ca Tryz.prog (16) (Array.mk [Value.pointer p87]) (w133) (fun v137 => (fun w138 =>
                                                                (∃ p139 : Option Addr, (∃ n140 : Nat, (∃ n141 : Nat, ((v137 = Value.slice p139 n140 n141) ∧ (Ca Tryz.prog (14) (Array.mk [Value.slice p134 n135 n136, Value.slice p139 n140 n141, Value.pointer (some (Addr.mk (Array.size (World.heap w80)) 0 none))]) (w138) (fun v142 => (fun w143 =>
                                                                  (∃ b144 : Bool, ((v142 = Value.bool b144) ∧ (ifK (!b144)
                                                                    (R (Value.bool false) (w143))
                                                                    (∃ z145 : Int → World → Prop, (∃ z146 : Int → World → Nat, ((z145 (0) (w143)) ∧ (∀ (_ : Nat → Value), (∀ (x148 : Int), (∀ (w149 : World), ((z145 (x148) (w149)) → (ifK (decide (x148 < (↑n77 : Int)))
                                                                      (∃ a150 : Addr, ((p76 = some a150) ∧ (((0 : Int) ≤ x148) ∧ (((x148 : Int) < (↑n77 : Int)) ∧ (∃ s151 : ByteArray, ((World.cell? w149 (Addr.add (Addr.add a150 (Int.toNat x148 * 3)) 0) = some (Value.string s151)) ∧ (∃ x152 : Int, ((World.cell? w149 (Addr.add (Addr.add a150 (Int.toNat x148 * 3)) 1) = some (Value.int IntKind.i64 x152)) ∧ (∃ b153 : Bool, ((World.cell? w149 (Addr.add (Addr.add a150 (Int.toNat x148 * 3)) 2) = some (Value.bool b153)) ∧ (atW (World.alloc w149 (Obj.cells (Array.mk [Value.string (ByteArray.mk #[]), Value.int IntKind.i64 0, Value.bool false]) 33 (0, 0))) (fun w154 =>
                                                                        ((∃ v155 : Value, (World.cell? w154 (Addr.add (Addr.mk (Array.size (World.heap w149)) 0 none) 0) = some v155)) ∧ ((World.frozen? w154 (Addr.add (Addr.mk (Array.size (World.heap w149)) 0 none) 0) = false) ∧ (atW (World.setCell w154 (Addr.add (Addr.mk (Array.size (World.heap w149)) 0 none) 0) (Value.string s151)) (fun w156 =>
                                                                          ((∃ v157 : Value, (World.cell? w156 (Addr.add (Addr.mk (Array.size (World.heap w149)) 0 none) 1) = some v157)) ∧ ((World.frozen? w156 (Addr.add (Addr.mk (Array.size (World.heap w149)) 0 none) 1) = false) ∧ (atW (World.setCell w156 (Addr.add (Addr.mk (Array.size (World.heap w149)) 0 none) 1) (Value.int IntKind.i64 x152)) (fun w158 =>
                                                                            ((∃ v159 : Value, (World.cell? w158 (Addr.add (Addr.mk (Array.size (World.heap w149)) 0 none) 2) = some v159)) ∧ ((World.frozen? w158 (Addr.add (Addr.mk (Array.size (World.heap w149)) 0 none) 2) = false) ∧ (atW (World.setCell w158 (Addr.add (Addr.mk (Array.size (World.heap w149)) 0 none) 2) (Value.bool b153)) (fun w160 =>
                                                                              (∃ s161 : ByteArray, ((World.cell? w160 (Addr.add (Addr.mk (Array.size (World.heap w149)) 0 none) 0) = some (Value.string s161)) ∧ (Ca Tryz.prog (23) (Array.mk [Value.pointer p87, Value.string s161]) (w160) (fun v162 => (fun w163 =>
                                                                                (∃ x164 : Int, ((v162 = Value.int IntKind.i64 x164) ∧ ((z145 (IntKind.wrap IntKind.i64 (x148 + 1)) (w163)) ∧ (z146 (IntKind.wrap IntKind.i64 (x148 + 1)) w163 < z146 x148 w149)))))))))))))))))))))))))))))))))
                                                                      (Ca Tryz.prog (15) (Array.mk [Value.pointer p87]) (w149) (fun v165 => (fun w166 =>
                                                                        (∃ p167 : Option Addr, (∃ n168 : Nat, (∃ n169 : Nat, ((v165 = Value.slice p167 n168 n169) ∧ (Ca Tryz.prog (16) (Array.mk [Value.pointer p87]) (w166) (fun v170 => (fun w171 =>
                                                                          (∃ p172 : Option Addr, (∃ n173 : Nat, (∃ n174 : Nat, ((v170 = Value.slice p172 n173 n174) ∧ (ifK (IntKind.wrap IntKind.i64 ((↑n168 : Int) + (↑n173 : Int)) == 0)
                                                                            (Ca Tryz.prog (15) (Array.mk [Value.pointer p3]) (w171) (fun v175 => (fun w176 =>
                                                                              (∃ p177 : Option Addr, (∃ n178 : Nat, (∃ n179 : Nat, ((v175 = Value.slice p177 n178 n179) ∧ (Ca Tryz.prog (16) (Array.mk [Value.pointer p3]) (w176) (fun v180 => (fun w181 =>
                                                                                (∃ p182 : Option Addr, (∃ n183 : Nat, (∃ n184 : Nat, ((v180 = Value.slice p182 n183 n184) ∧ (Ca Tryz.prog (14) (Array.mk [Value.slice p177 n178 n179, Value.slice p182 n183 n184, Value.pointer (some (Addr.mk (Array.size (World.heap w80)) 0 none))]) (w181) (fun v185 => (fun w186 =>
                                                                                  (∃ b187 : Bool, ((v185 = Value.bool b187) ∧ (ifK (b187)
                                                                                    (Ca Tryz.prog (12) (Array.mk []) (w186) (fun v188 => (fun w189 =>
                                                                                      (∃ b190 : Bool, ((v188 = Value.bool b190) ∧ (R (Value.bool b190) (w189)))))))
                                                                                    (R (Value.bool false) (w186))))))))))))))))))))))
                                                                            (R (Value.bool false) (w171)))))))))))))))))))))))))))))))))))))))))))))
                                                            (∃ z191 : Int → World → Prop, (∃ z192 : Int → World → Nat, ((z191 (0) (w130)) ∧ (∀ (_ : Nat → Value), (∀ (x194 : Int), (∀ (w195 : World), ((z191 (x194) (w195)) → (ifK (decide (x194 < (↑n77 : Int)))
                                                              (∃ a196 : Addr, ((p76 = some a196) ∧ (((0 : Int) ≤ x194) ∧ (((x194 : Int) < (↑n77 : Int)) ∧ (∃ s197 : ByteArray, ((World.cell? w195 (Addr.add (Addr.add a196 (Int.toNat x194 * 3)) 0) = some (Value.string s197)) ∧ (∃ x198 : Int, ((World.cell? w195 (Addr.add (Addr.add a196 (Int.toNat x194 * 3)) 1) = some (Value.int IntKind.i64 x198)) ∧ (∃ b199 : Bool, ((World.cell? w195 (Addr.add (Addr.add a196 (Int.toNat x194 * 3)) 2) = some (Value.bool b199)) ∧ (atW (World.alloc w195 (Obj.cells (Array.mk [Value.string (ByteArray.mk #[]), Value.int IntKind.i64 0, Value.bool false]) 33 (0, 0))) (fun w200 =>
                                                                ((∃ v201 : Value, (World.cell? w200 (Addr.add (Addr.mk (Array.size (World.heap w195)) 0 none) 0) = some v201)) ∧ ((World.frozen? w200 (Addr.add (Addr.mk (Array.size (World.heap w195)) 0 none) 0) = false) ∧ (atW (World.setCell w200 (Addr.add (Addr.mk (Array.size (World.heap w195)) 0 none) 0) (Value.string s197)) (fun w202 =>
                                                                  ((∃ v203 : Value, (World.cell? w202 (Addr.add (Addr.mk (Array.size (World.heap w195)) 0 none) 1) = some v203)) ∧ ((World.frozen? w202 (Addr.add (Addr.mk (Array.size (World.heap w195)) 0 none) 1) = false) ∧ (atW (World.setCell w202 (Addr.add (Addr.mk (Array.size (World.heap w195)) 0 none) 1) (Value.int IntKind.i64 x198)) (fun w204 =>
                                                                    ((∃ v205 : Value, (World.cell? w204 (Addr.add (Addr.mk (Array.size (World.heap w195)) 0 none) 2) = some v205)) ∧ ((World.frozen? w204 (Addr.add (Addr.mk (Array.size (World.heap w195)) 0 none) 2) = false) ∧ (atW (World.setCell w204 (Addr.add (Addr.mk (Array.size (World.heap w195)) 0 none) 2) (Value.bool b199)) (fun w206 =>
                                                                      (∃ s207 : ByteArray, ((World.cell? w206 (Addr.add (Addr.mk (Array.size (World.heap w195)) 0 none) 0) = some (Value.string s207)) ∧ (Ca Tryz.prog (23) (Array.mk [Value.pointer p87, Value.string s207]) (w206) (fun v208 => (fun w209 =>
                                                                        (∃ x210 : Int, ((v208 = Value.int IntKind.i64 x210) ∧ ((z191 (IntKind.wrap IntKind.i64 (x194 + 1)) (w209)) ∧ (z192 (IntKind.wrap IntKind.i64 (x194 + 1)) w209 < z192 x194 w195)))))))))))))))))))))))))))))))))
                                                              (Ca Tryz.prog (15) (Array.mk [Value.pointer p87]) (w195) (fun v211 => (fun w212 =>
                                                                (∃ p213 : Option Addr, (∃ n214 : Nat, (∃ n215 : Nat, ((v211 = Value.slice p213 n214 n215) ∧ (Ca Tryz.prog (16) (Array.mk [Value.pointer p87]) (w212) (fun v216 => (fun w217 =>
                                                                  (∃ p218 : Option Addr, (∃ n219 : Nat, (∃ n220 : Nat, ((v216 = Value.slice p218 n219 n220) ∧ (ifK (IntKind.wrap IntKind.i64 ((↑n214 : Int) + (↑n219 : Int)) == 0)
                                                                    (Ca Tryz.prog (15) (Array.mk [Value.pointer p3]) (w217) (fun v221 => (fun w222 =>
                                                                      (∃ p223 : Option Addr, (∃ n224 : Nat, (∃ n225 : Nat, ((v221 = Value.slice p223 n224 n225) ∧ (Ca Tryz.prog (16) (Array.mk [Value.pointer p3]) (w222) (fun v226 => (fun w227 =>
                                                                        (∃ p228 : Option Addr, (∃ n229 : Nat, (∃ n230 : Nat, ((v226 = Value.slice p228 n229 n230) ∧ (Ca Tryz.prog (14) (Array.mk [Value.slice p223 n224 n225, Value.slice p228 n229 n230, Value.pointer (some (Addr.mk (Array.size (World.heap w80)) 0 none))]) (w227) (fun v231 => (fun w232 =>
                                                                          (∃ b233 : Bool, ((v231 = Value.bool b233) ∧ (ifK (b233)
                                                                            (Ca Tryz.prog (12) (Array.mk []) (w232) (fun v234 => (fun w235 =>
                                                                              (∃ b236 : Bool, ((v234 = Value.bool b236) ∧ (R (Value.bool b236) (w235)))))))
                                                                            (R (Value.bool false) (w232))))))))))))))))))))))
                                                                    (R (Value.bool false) (w217))))))))))))))))))))))))))))))))))))))))))))))))))))))))))
                                              (∃ z237 : Int → World → Prop, (∃ z238 : Int → World → Nat, ((z237 (0) (w111)) ∧ (∀ (_ : Nat → Value), (∀ (x240 : Int), (∀ (w241 : World), ((z237 (x240) (w241)) → (ifK (decide (x240 < (↑n77 : Int)))
                                                (∃ a242 : Addr, ((p76 = some a242) ∧ (((0 : Int) ≤ x240) ∧ (((x240 : Int) < (↑n77 : Int)) ∧ (∃ s243 : ByteArray, ((World.cell? w241 (Addr.add (Addr.add a242 (Int.toNat x240 * 3)) 0) = some (Value.string s243)) ∧ (∃ x244 : Int, ((World.cell? w241 (Addr.add (Addr.add a242 (Int.toNat x240 * 3)) 1) = some (Value.int IntKind.i64 x244)) ∧ (∃ b245 : Bool, ((World.cell? w241 (Addr.add (Addr.add a242 (Int.toNat x240 * 3)) 2) = some (Value.bool b245)) ∧ (atW (World.alloc w241 (Obj.cells (Array.mk [Value.string (ByteArray.mk #[]), Value.int IntKind.i64 0, Value.bool false]) 33 (0, 0))) (fun w246 =>
                                                  ((∃ v247 : Value, (World.cell? w246 (Addr.add (Addr.mk (Array.size (World.heap w241)) 0 none) 0) = some v247)) ∧ ((World.frozen? w246 (Addr.add (Addr.mk (Array.size (World.heap w241)) 0 none) 0) = false) ∧ (atW (World.setCell w246 (Addr.add (Addr.mk (Array.size (World.heap w241)) 0 none) 0) (Value.string s243)) (fun w248 =>
                                                    ((∃ v249 : Value, (World.cell? w248 (Addr.add (Addr.mk (Array.size (World.heap w241)) 0 none) 1) = some v249)) ∧ ((World.frozen? w248 (Addr.add (Addr.mk (Array.size (World.heap w241)) 0 none) 1) = false) ∧ (atW (World.setCell w248 (Addr.add (Addr.mk (Array.size (World.heap w241)) 0 none) 1) (Value.int IntKind.i64 x244)) (fun w250 =>
                                                      ((∃ v251 : Value, (World.cell? w250 (Addr.add (Addr.mk (Array.size (World.heap w241)) 0 none) 2) = some v251)) ∧ ((World.frozen? w250 (Addr.add (Addr.mk (Array.size (World.heap w241)) 0 none) 2) = false) ∧ (atW (World.setCell w250 (Addr.add (Addr.mk (Array.size (World.heap w241)) 0 none) 2) (Value.bool b245)) (fun w252 =>
                                                        (∃ s253 : ByteArray, ((World.cell? w252 (Addr.add (Addr.mk (Array.size (World.heap w241)) 0 none) 0) = some (Value.string s253)) ∧ (Ca Tryz.prog (23) (Array.mk [Value.pointer p87, Value.string s253]) (w252) (fun v254 => (fun w255 =>
                                                          (∃ x256 : Int, ((v254 = Value.int IntKind.i64 x256) ∧ ((z237 (IntKind.wrap IntKind.i64 (x240 + 1)) (w255)) ∧ (z238 (IntKind.wrap IntKind.i64 (x240 + 1)) w255 < z238 x240 w241)))))))))))))))))))))))))))))))))
                                                (Ca Tryz.prog (15) (Array.mk [Value.pointer p87]) (w241) (fun v257 => (fun w258 =>
                                                  (∃ p259 : Option Addr, (∃ n260 : Nat, (∃ n261 : Nat, ((v257 = Value.slice p259 n260 n261) ∧ (Ca Tryz.prog (16) (Array.mk [Value.pointer p87]) (w258) (fun v262 => (fun w263 =>
                                                    (∃ p264 : Option Addr, (∃ n265 : Nat, (∃ n266 : Nat, ((v262 = Value.slice p264 n265 n266) ∧ (ifK (IntKind.wrap IntKind.i64 ((↑n260 : Int) + (↑n265 : Int)) == 0)
                                                      (Ca Tryz.prog (15) (Array.mk [Value.pointer p3]) (w263) (fun v267 => (fun w268 =>
                                                        (∃ p269 : Option Addr, (∃ n270 : Nat, (∃ n271 : Nat, ((v267 = Value.slice p269 n270 n271) ∧ (Ca Tryz.prog (16) (Array.mk [Value.pointer p3]) (w268) (fun v272 => (fun w273 =>
                                                          (∃ p274 : Option Addr, (∃ n275 : Nat, (∃ n276 : Nat, ((v272 = Value.slice p274 n275 n276) ∧ (Ca Tryz.prog (14) (Array.mk [Value.slice p269 n270 n271, Value.slice p274 n275 n276, Value.pointer (some (Addr.mk (Array.size (World.heap w80)) 0 none))]) (w273) (fun v277 => (fun w278 =>
                                                            (∃ b279 : Bool, ((v277 = Value.bool b279) ∧ (ifK (b279)
                                                              (Ca Tryz.prog (12) (Array.mk []) (w278) (fun v280 => (fun w281 =>
                                                                (∃ b282 : Bool, ((v280 = Value.bool b282) ∧ (R (Value.bool b282) (w281)))))))
                                                              (R (Value.bool false) (w278))))))))))))))))))))))
                                                      (R (Value.bool false) (w263))))))))))))))))))))))))))))))))))))))))))))))))))))))))))))))))))))))))))))))))))))))))))))))))))))))))))))))))))))))))))) ∧ (atW (World.alloc w18 (Obj.cells (Array.mk [Value.int IntKind.i64 0, Value.string (ByteArray.mk #[]), Value.int IntKind.i64 0, Value.bool false, Value.string s15, Value.string s16, Value.string s17]) 37 (0, 0))) (fun w283 =>
                (∃ v284 : Value, (∃ w285 : World, ((Sem.run Tryz.prog (Builtin.append_ (Array.mk [22, 22]) 22 (Array.mk [Value.slice (some (Addr.mk (Array.size (World.heap w5)) 0 none)) 0 0, Value.slice actsa actsl actsc])) w283 = Result.ok v284 w285) ∧ (∃ p286 : Option Addr, (∃ n287 : Nat, (∃ n288 : Nat, ((v284 = Value.slice p286 n287 n288) ∧ ((World.cell? w285 (Addr.add (Addr.mk (Array.size (World.heap w)) 0 none) 0) = some (Value.string s15)) ∧ ((World.cell? w285 (Addr.add (Addr.mk (Array.size (World.heap w)) 0 none) 1) = some (Value.string s16)) ∧ ((World.cell? w285 (Addr.add (Addr.mk (Array.size (World.heap w)) 0 none) 2) = some (Value.string s17)) ∧ (∃ v289 : Value, (∃ w290 : World, ((Sem.run Tryz.prog (Builtin.append_ (Array.mk [22, 22]) 22 (Array.mk [Value.slice p286 n287 n288, Value.slice (some (Addr.mk (Array.size (World.heap w18)) 0 none)) 1 1])) w285 = Result.ok v289 w290) ∧ (∃ p291 : Option Addr, (∃ n292 : Nat, (∃ n293 : Nat, ((v289 = Value.slice p291 n292 n293) ∧ (Ca Tryz.prog (11) (Array.mk [Value.slice p291 n292 n293]) (w290) (fun v294 => (fun w295 =>
                  (∃ b296 : Bool, ((v294 = Value.bool b296) ∧ (ifK (!b296)
                    (ifK (!Option.isNone p3)
                      (Ca Tryz.prog (12) (Array.mk []) (w295) (fun v297 => (fun w298 =>
                        (∃ b299 : Bool, ((v297 = Value.bool b299) ∧ (R (Value.bool b299) (w298)))))))
                      (R (Value.bool false) (w295)))
                    (∃ z300 : Int → World → Prop, (∃ z301 : Int → World → Nat, ((z300 (0) (w295)) ∧ (∀ (_ : Nat → Value), (∀ (x303 : Int), (∀ (w304 : World), ((z300 (x303) (w304)) → (ifK (decide (x303 < (↑actsl : Int)))
                      (∃ a305 : Addr, ((actsa = some a305) ∧ (((0 : Int) ≤ x303) ∧ (((x303 : Int) < (↑actsl : Int)) ∧ (∃ x306 : Int, ((World.cell? w304 (Addr.add (Addr.add a305 (Int.toNat x303 * 7)) 0) = some (Value.int IntKind.i64 x306)) ∧ (∃ s307 : ByteArray, ((World.cell? w304 (Addr.add (Addr.add a305 (Int.toNat x303 * 7)) 1) = some (Value.string s307)) ∧ (∃ x308 : Int, ((World.cell? w304 (Addr.add (Addr.add a305 (Int.toNat x303 * 7)) 2) = some (Value.int IntKind.i64 x308)) ∧ (∃ b309 : Bool, ((World.cell? w304 (Addr.add (Addr.add a305 (Int.toNat x303 * 7)) 3) = some (Value.bool b309)) ∧ (∃ s310 : ByteArray, ((World.cell? w304 (Addr.add (Addr.add a305 (Int.toNat x303 * 7)) 4) = some (Value.string s310)) ∧ (∃ s311 : ByteArray, ((World.cell? w304 (Addr.add (Addr.add a305 (Int.toNat x303 * 7)) 5) = some (Value.string s311)) ∧ (∃ s312 : ByteArray, ((World.cell? w304 (Addr.add (Addr.add a305 (Int.toNat x303 * 7)) 6) = some (Value.string s312)) ∧ (atW (World.alloc w304 (Obj.cells (Array.mk [Value.int IntKind.i64 0, Value.string (ByteArray.mk #[]), Value.int IntKind.i64 0, Value.bool false, Value.string (ByteArray.mk #[]), Value.string (ByteArray.mk #[]), Value.string (ByteArray.mk #[])]) 37 (0, 0))) (fun w313 =>
                        ((∃ v314 : Value, (World.cell? w313 (Addr.add (Addr.mk (Array.size (World.heap w304)) 0 none) 0) = some v314)) ∧ ((World.frozen? w313 (Addr.add (Addr.mk (Array.size (World.heap w304)) 0 none) 0) = false) ∧ (atW (World.setCell w313 (Addr.add (Addr.mk (Array.size (World.heap w304)) 0 none) 0) (Value.int IntKind.i64 x306)) (fun w315 =>
                          ((∃ v316 : Value, (World.cell? w315 (Addr.add (Addr.mk (Array.size (World.heap w304)) 0 none) 1) = some v316)) ∧ ((World.frozen? w315 (Addr.add (Addr.mk (Array.size (World.heap w304)) 0 none) 1) = false) ∧ (atW (World.setCell w315 (Addr.add (Addr.mk (Array.size (World.heap w304)) 0 none) 1) (Value.string s307)) (fun w317 =>
                            ((∃ v318 : Value, (World.cell? w317 (Addr.add (Addr.mk (Array.size (World.heap w304)) 0 none) 2) = some v318)) ∧ ((World.frozen? w317 (Addr.add (Addr.mk (Array.size (World.heap w304)) 0 none) 2) = false) ∧ (atW (World.setCell w317 (Addr.add (Addr.mk (Array.size (World.heap w304)) 0 none) 2) (Value.int IntKind.i64 x308)) (fun w319 =>
                              ((∃ v320 : Value, (World.cell? w319 (Addr.add (Addr.mk (Array.size (World.heap w304)) 0 none) 3) = some v320)) ∧ ((World.frozen? w319 (Addr.add (Addr.mk (Array.size (World.heap w304)) 0 none) 3) = false) ∧ (atW (World.setCell w319 (Addr.add (Addr.mk (Array.size (World.heap w304)) 0 none) 3) (Value.bool b309)) (fun w321 =>
                                ((∃ v322 : Value, (World.cell? w321 (Addr.add (Addr.mk (Array.size (World.heap w304)) 0 none) 4) = some v322)) ∧ ((World.frozen? w321 (Addr.add (Addr.mk (Array.size (World.heap w304)) 0 none) 4) = false) ∧ (atW (World.setCell w321 (Addr.add (Addr.mk (Array.size (World.heap w304)) 0 none) 4) (Value.string s310)) (fun w323 =>
                                  ((∃ v324 : Value, (World.cell? w323 (Addr.add (Addr.mk (Array.size (World.heap w304)) 0 none) 5) = some v324)) ∧ ((World.frozen? w323 (Addr.add (Addr.mk (Array.size (World.heap w304)) 0 none) 5) = false) ∧ (atW (World.setCell w323 (Addr.add (Addr.mk (Array.size (World.heap w304)) 0 none) 5) (Value.string s311)) (fun w325 =>
                                    ((∃ v326 : Value, (World.cell? w325 (Addr.add (Addr.mk (Array.size (World.heap w304)) 0 none) 6) = some v326)) ∧ ((World.frozen? w325 (Addr.add (Addr.mk (Array.size (World.heap w304)) 0 none) 6) = false) ∧ (atW (World.setCell w325 (Addr.add (Addr.mk (Array.size (World.heap w304)) 0 none) 6) (Value.string s312)) (fun w327 =>
                                      (∃ x328 : Int, ((World.cell? w327 (Addr.add (Addr.mk (Array.size (World.heap w304)) 0 none) 0) = some (Value.int IntKind.i64 x328)) ∧ (∃ s329 : ByteArray, ((World.cell? w327 (Addr.add (Addr.mk (Array.size (World.heap w304)) 0 none) 1) = some (Value.string s329)) ∧ (∃ x330 : Int, ((World.cell? w327 (Addr.add (Addr.mk (Array.size (World.heap w304)) 0 none) 2) = some (Value.int IntKind.i64 x330)) ∧ (∃ b331 : Bool, ((World.cell? w327 (Addr.add (Addr.mk (Array.size (World.heap w304)) 0 none) 3) = some (Value.bool b331)) ∧ (∃ s332 : ByteArray, ((World.cell? w327 (Addr.add (Addr.mk (Array.size (World.heap w304)) 0 none) 4) = some (Value.string s332)) ∧ (∃ s333 : ByteArray, ((World.cell? w327 (Addr.add (Addr.mk (Array.size (World.heap w304)) 0 none) 5) = some (Value.string s333)) ∧ (∃ s334 : ByteArray, ((World.cell? w327 (Addr.add (Addr.mk (Array.size (World.heap w304)) 0 none) 6) = some (Value.string s334)) ∧ (Ca Tryz.prog (13) (Array.mk [Value.pointer p3, Value.pointer (some (Addr.mk (Array.size (World.heap w2)) 0 none)), Value.agg (Array.mk (List.reverse [Value.string s334, Value.string s333, Value.string s332, Value.bool b331, Value.int IntKind.i64 x330, Value.string s329, Value.int IntKind.i64 x328]))]) (w327) (fun v335 => (fun w336 =>
                                        (∃ b337 : Bool, ((v335 = Value.bool b337) ∧ ((z300 (IntKind.wrap IntKind.i64 (x303 + 1)) (w336)) ∧ (z301 (IntKind.wrap IntKind.i64 (x303 + 1)) w336 < z301 x303 w304)))))))))))))))))))))))))))))))))))))))))))))))))))))))))))))))))))))
                      (Ca Tryz.prog (15) (Array.mk [Value.pointer p3]) (w304) (fun v338 => (fun w339 =>
                        (∃ p340 : Option Addr, (∃ n341 : Nat, (∃ n342 : Nat, ((v338 = Value.slice p340 n341 n342) ∧ (Ca Tryz.prog (16) (Array.mk [Value.pointer p3]) (w339) (fun v343 => (fun w344 =>
                          (∃ p345 : Option Addr, (∃ n346 : Nat, (∃ n347 : Nat, ((v343 = Value.slice p345 n346 n347) ∧ (atW (World.alloc w344 (Obj.cells (Array.mk [Value.slice p340 n341 n342, Value.slice p345 n346 n347]) 29 (0, 0))) (fun w348 =>
                            (Ca Tryz.prog (19) (Array.mk [Value.pointer p3]) (w348) (fun v349 => (fun w350 =>
                              (∃ p351 : Option Addr, ((v349 = Value.pointer p351) ∧ (ifK (Option.isNone p351)
                                (R (Value.bool false) (w350))
                                (Ca Tryz.prog (15) (Array.mk [Value.pointer p351]) (w350) (fun v352 => (fun w353 =>
                                  (∃ p354 : Option Addr, (∃ n355 : Nat, (∃ n356 : Nat, ((v352 = Value.slice p354 n355 n356) ∧ (Ca Tryz.prog (16) (Array.mk [Value.pointer p351]) (w353) (fun v357 => (fun w358 =>
                                    (∃ p359 : Option Addr, (∃ n360 : Nat, (∃ n361 : Nat, ((v357 = Value.slice p359 n360 n361) ∧ (Ca Tryz.prog (14) (Array.mk [Value.slice p354 n355 n356, Value.slice p359 n360 n361, Value.pointer (some (Addr.mk (Array.size (World.heap w344)) 0 none))]) (w358) (fun v362 => (fun w363 =>
                                      (∃ b364 : Bool, ((v362 = Value.bool b364) ∧ (ifK (!b364)
                                        (R (Value.bool false) (w363))
                                        (∃ s365 : ByteArray, ((World.cell? w363 (Addr.add (Addr.mk (Array.size (World.heap w)) 0 none) 0) = some (Value.string s365)) ∧ (∃ s366 : ByteArray, ((World.cell? w363 (Addr.add (Addr.mk (Array.size (World.heap w)) 0 none) 1) = some (Value.string s366)) ∧ (∃ s367 : ByteArray, ((World.cell? w363 (Addr.add (Addr.mk (Array.size (World.heap w)) 0 none) 2) = some (Value.string s367)) ∧ (Ca Tryz.prog (20) (Array.mk [Value.pointer (some (Addr.mk (Array.size (World.heap w344)) 0 none)), Value.agg (Array.mk (List.reverse [Value.string s367, Value.string s366, Value.string s365]))]) (w363) (fun v368 => (fun w369 =>
                                          (∃ b370 : Bool, ((v368 = Value.bool b370) ∧ (∃ s371 : ByteArray, ((World.cell? w369 (Addr.add (Addr.mk (Array.size (World.heap w)) 0 none) 0) = some (Value.string s371)) ∧ (∃ s372 : ByteArray, ((World.cell? w369 (Addr.add (Addr.mk (Array.size (World.heap w)) 0 none) 1) = some (Value.string s372)) ∧ (∃ s373 : ByteArray, ((World.cell? w369 (Addr.add (Addr.mk (Array.size (World.heap w)) 0 none) 2) = some (Value.string s373)) ∧ (Ca Tryz.prog (21) (Array.mk [Value.pointer p351, Value.agg (Array.mk (List.reverse [Value.string s373, Value.string s372, Value.string s371]))]) (w369) (fun v374 => (fun w375 =>
                                            (∃ x376 : Int, ((v374 = Value.int IntKind.i64 x376) ∧ (ifK (x376 == 0)
                                              (Ca Tryz.prog (15) (Array.mk [Value.pointer p3]) (w375) (fun v377 => (fun w378 =>
                                                (∃ p379 : Option Addr, (∃ n380 : Nat, (∃ n381 : Nat, ((v377 = Value.slice p379 n380 n381) ∧ (Ca Tryz.prog (16) (Array.mk [Value.pointer p3]) (w378) (fun v382 => (fun w383 =>
                                                  (∃ p384 : Option Addr, (∃ n385 : Nat, (∃ n386 : Nat, ((v382 = Value.slice p384 n385 n386) ∧ (Ca Tryz.prog (14) (Array.mk [Value.slice p379 n380 n381, Value.slice p384 n385 n386, Value.pointer (some (Addr.mk (Array.size (World.heap w344)) 0 none))]) (w383) (fun v387 => (fun w388 =>
                                                    (∃ b389 : Bool, ((v387 = Value.bool b389) ∧ (ifK (!b389)
                                                      (R (Value.bool false) (w388))
                                                      (∃ s390 : ByteArray, ((World.cell? w388 (Addr.add (Addr.mk (Array.size (World.heap w)) 0 none) 0) = some (Value.string s390)) ∧ (∃ s391 : ByteArray, ((World.cell? w388 (Addr.add (Addr.mk (Array.size (World.heap w)) 0 none) 1) = some (Value.string s391)) ∧ (∃ s392 : ByteArray, ((World.cell? w388 (Addr.add (Addr.mk (Array.size (World.heap w)) 0 none) 2) = some (Value.string s392)) ∧ (Ca Tryz.prog (22) (Array.mk [Value.pointer p351, Value.agg (Array.mk (List.reverse [Value.string s392, Value.string s391, Value.string s390]))]) (w388) (fun v393 => (fun w394 =>
                                                        (∃ x395 : Int, ((v393 = Value.int IntKind.i64 x395) ∧ (ifK (x395 != 0)
                                                          (R (Value.bool false) (w394))
                                                          (ifK (!b370)
                                                            (Ca Tryz.prog (15) (Array.mk [Value.pointer p351]) (w394) (fun v396 => (fun w397 =>
                                                              (∃ p398 : Option Addr, (∃ n399 : Nat, (∃ n400 : Nat, ((v396 = Value.slice p398 n399 n400) ∧ (Ca Tryz.prog (16) (Array.mk [Value.pointer p351]) (w397) (fun v401 => (fun w402 =>
                                                                (∃ p403 : Option Addr, (∃ n404 : Nat, (∃ n405 : Nat, ((v401 = Value.slice p403 n404 n405) ∧ (Ca Tryz.prog (14) (Array.mk [Value.slice p398 n399 n400, Value.slice p403 n404 n405, Value.pointer (some (Addr.mk (Array.size (World.heap w344)) 0 none))]) (w402) (fun v406 => (fun w407 =>
                                                                  (∃ b408 : Bool, ((v406 = Value.bool b408) ∧ (ifK (!b408)
                                                                    (R (Value.bool false) (w407))
                                                                    (∃ z409 : Int → World → Prop, (∃ z410 : Int → World → Nat, ((z409 (0) (w407)) ∧ (∀ (_ : Nat → Value), (∀ (x412 : Int), (∀ (w413 : World), ((z409 (x412) (w413)) → (ifK (decide (x412 < (↑n341 : Int)))
                                                                      (∃ a414 : Addr, ((p340 = some a414) ∧ (((0 : Int) ≤ x412) ∧ (((x412 : Int) < (↑n341 : Int)) ∧ (∃ s415 : ByteArray, ((World.cell? w413 (Addr.add (Addr.add a414 (Int.toNat x412 * 3)) 0) = some (Value.string s415)) ∧ (∃ x416 : Int, ((World.cell? w413 (Addr.add (Addr.add a414 (Int.toNat x412 * 3)) 1) = some (Value.int IntKind.i64 x416)) ∧ (∃ b417 : Bool, ((World.cell? w413 (Addr.add (Addr.add a414 (Int.toNat x412 * 3)) 2) = some (Value.bool b417)) ∧ (atW (World.alloc w413 (Obj.cells (Array.mk [Value.string (ByteArray.mk #[]), Value.int IntKind.i64 0, Value.bool false]) 33 (0, 0))) (fun w418 =>
                                                                        ((∃ v419 : Value, (World.cell? w418 (Addr.add (Addr.mk (Array.size (World.heap w413)) 0 none) 0) = some v419)) ∧ ((World.frozen? w418 (Addr.add (Addr.mk (Array.size (World.heap w413)) 0 none) 0) = false) ∧ (atW (World.setCell w418 (Addr.add (Addr.mk (Array.size (World.heap w413)) 0 none) 0) (Value.string s415)) (fun w420 =>
                                                                          ((∃ v421 : Value, (World.cell? w420 (Addr.add (Addr.mk (Array.size (World.heap w413)) 0 none) 1) = some v421)) ∧ ((World.frozen? w420 (Addr.add (Addr.mk (Array.size (World.heap w413)) 0 none) 1) = false) ∧ (atW (World.setCell w420 (Addr.add (Addr.mk (Array.size (World.heap w413)) 0 none) 1) (Value.int IntKind.i64 x416)) (fun w422 =>
                                                                            ((∃ v423 : Value, (World.cell? w422 (Addr.add (Addr.mk (Array.size (World.heap w413)) 0 none) 2) = some v423)) ∧ ((World.frozen? w422 (Addr.add (Addr.mk (Array.size (World.heap w413)) 0 none) 2) = false) ∧ (atW (World.setCell w422 (Addr.add (Addr.mk (Array.size (World.heap w413)) 0 none) 2) (Value.bool b417)) (fun w424 =>
                                                                              (∃ s425 : ByteArray, ((World.cell? w424 (Addr.add (Addr.mk (Array.size (World.heap w413)) 0 none) 0) = some (Value.string s425)) ∧ (Ca Tryz.prog (23) (Array.mk [Value.pointer p351, Value.string s425]) (w424) (fun v426 => (fun w427 =>
                                                                                (∃ x428 : Int, ((v426 = Value.int IntKind.i64 x428) ∧ ((z409 (IntKind.wrap IntKind.i64 (x412 + 1)) (w427)) ∧ (z410 (IntKind.wrap IntKind.i64 (x412 + 1)) w427 < z410 x412 w413)))))))))))))))))))))))))))))))))
                                                                      (Ca Tryz.prog (15) (Array.mk [Value.pointer p351]) (w413) (fun v429 => (fun w430 =>
                                                                        (∃ p431 : Option Addr, (∃ n432 : Nat, (∃ n433 : Nat, ((v429 = Value.slice p431 n432 n433) ∧ (Ca Tryz.prog (16) (Array.mk [Value.pointer p351]) (w430) (fun v434 => (fun w435 =>
                                                                          (∃ p436 : Option Addr, (∃ n437 : Nat, (∃ n438 : Nat, ((v434 = Value.slice p436 n437 n438) ∧ (ifK (IntKind.wrap IntKind.i64 ((↑n432 : Int) + (↑n437 : Int)) == 0)
                                                                            (Ca Tryz.prog (15) (Array.mk [Value.pointer p3]) (w435) (fun v439 => (fun w440 =>
                                                                              (∃ p441 : Option Addr, (∃ n442 : Nat, (∃ n443 : Nat, ((v439 = Value.slice p441 n442 n443) ∧ (Ca Tryz.prog (16) (Array.mk [Value.pointer p3]) (w440) (fun v444 => (fun w445 =>
                                                                                (∃ p446 : Option Addr, (∃ n447 : Nat, (∃ n448 : Nat, ((v444 = Value.slice p446 n447 n448) ∧ (Ca Tryz.prog (14) (Array.mk [Value.slice p441 n442 n443, Value.slice p446 n447 n448, Value.pointer (some (Addr.mk (Array.size (World.heap w344)) 0 none))]) (w445) (fun v449 => (fun w450 =>
                                                                                  (∃ b451 : Bool, ((v449 = Value.bool b451) ∧ (ifK (b451)
                                                                                    (Ca Tryz.prog (12) (Array.mk []) (w450) (fun v452 => (fun w453 =>
                                                                                      (∃ b454 : Bool, ((v452 = Value.bool b454) ∧ (R (Value.bool b454) (w453)))))))
                                                                                    (R (Value.bool false) (w450))))))))))))))))))))))
                                                                            (R (Value.bool false) (w435)))))))))))))))))))))))))))))))))))))))))))))
                                                            (∃ z455 : Int → World → Prop, (∃ z456 : Int → World → Nat, ((z455 (0) (w394)) ∧ (∀ (_ : Nat → Value), (∀ (x458 : Int), (∀ (w459 : World), ((z455 (x458) (w459)) → (ifK (decide (x458 < (↑n341 : Int)))
                                                              (∃ a460 : Addr, ((p340 = some a460) ∧ (((0 : Int) ≤ x458) ∧ (((x458 : Int) < (↑n341 : Int)) ∧ (∃ s461 : ByteArray, ((World.cell? w459 (Addr.add (Addr.add a460 (Int.toNat x458 * 3)) 0) = some (Value.string s461)) ∧ (∃ x462 : Int, ((World.cell? w459 (Addr.add (Addr.add a460 (Int.toNat x458 * 3)) 1) = some (Value.int IntKind.i64 x462)) ∧ (∃ b463 : Bool, ((World.cell? w459 (Addr.add (Addr.add a460 (Int.toNat x458 * 3)) 2) = some (Value.bool b463)) ∧ (atW (World.alloc w459 (Obj.cells (Array.mk [Value.string (ByteArray.mk #[]), Value.int IntKind.i64 0, Value.bool false]) 33 (0, 0))) (fun w464 =>
                                                                ((∃ v465 : Value, (World.cell? w464 (Addr.add (Addr.mk (Array.size (World.heap w459)) 0 none) 0) = some v465)) ∧ ((World.frozen? w464 (Addr.add (Addr.mk (Array.size (World.heap w459)) 0 none) 0) = false) ∧ (atW (World.setCell w464 (Addr.add (Addr.mk (Array.size (World.heap w459)) 0 none) 0) (Value.string s461)) (fun w466 =>
                                                                  ((∃ v467 : Value, (World.cell? w466 (Addr.add (Addr.mk (Array.size (World.heap w459)) 0 none) 1) = some v467)) ∧ ((World.frozen? w466 (Addr.add (Addr.mk (Array.size (World.heap w459)) 0 none) 1) = false) ∧ (atW (World.setCell w466 (Addr.add (Addr.mk (Array.size (World.heap w459)) 0 none) 1) (Value.int IntKind.i64 x462)) (fun w468 =>
                                                                    ((∃ v469 : Value, (World.cell? w468 (Addr.add (Addr.mk (Array.size (World.heap w459)) 0 none) 2) = some v469)) ∧ ((World.frozen? w468 (Addr.add (Addr.mk (Array.size (World.heap w459)) 0 none) 2) = false) ∧ (atW (World.setCell w468 (Addr.add (Addr.mk (Array.size (World.heap w459)) 0 none) 2) (Value.bool b463)) (fun w470 =>
                                                                      (∃ s471 : ByteArray, ((World.cell? w470 (Addr.add (Addr.mk (Array.size (World.heap w459)) 0 none) 0) = some (Value.string s471)) ∧ (Ca Tryz.prog (23) (Array.mk [Value.pointer p351, Value.string s471]) (w470) (fun v472 => (fun w473 =>
                                                                        (∃ x474 : Int, ((v472 = Value.int IntKind.i64 x474) ∧ ((z455 (IntKind.wrap IntKind.i64 (x458 + 1)) (w473)) ∧ (z456 (IntKind.wrap IntKind.i64 (x458 + 1)) w473 < z456 x458 w459)))))))))))))))))))))))))))))))))
                                                              (Ca Tryz.prog (15) (Array.mk [Value.pointer p351]) (w459) (fun v475 => (fun w476 =>
                                                                (∃ p477 : Option Addr, (∃ n478 : Nat, (∃ n479 : Nat, ((v475 = Value.slice p477 n478 n479) ∧ (Ca Tryz.prog (16) (Array.mk [Value.pointer p351]) (w476) (fun v480 => (fun w481 =>
                                                                  (∃ p482 : Option Addr, (∃ n483 : Nat, (∃ n484 : Nat, ((v480 = Value.slice p482 n483 n484) ∧ (ifK (IntKind.wrap IntKind.i64 ((↑n478 : Int) + (↑n483 : Int)) == 0)
                                                                    (Ca Tryz.prog (15) (Array.mk [Value.pointer p3]) (w481) (fun v485 => (fun w486 =>
                                                                      (∃ p487 : Option Addr, (∃ n488 : Nat, (∃ n489 : Nat, ((v485 = Value.slice p487 n488 n489) ∧ (Ca Tryz.prog (16) (Array.mk [Value.pointer p3]) (w486) (fun v490 => (fun w491 =>
                                                                        (∃ p492 : Option Addr, (∃ n493 : Nat, (∃ n494 : Nat, ((v490 = Value.slice p492 n493 n494) ∧ (Ca Tryz.prog (14) (Array.mk [Value.slice p487 n488 n489, Value.slice p492 n493 n494, Value.pointer (some (Addr.mk (Array.size (World.heap w344)) 0 none))]) (w491) (fun v495 => (fun w496 =>
                                                                          (∃ b497 : Bool, ((v495 = Value.bool b497) ∧ (ifK (b497)
                                                                            (Ca Tryz.prog (12) (Array.mk []) (w496) (fun v498 => (fun w499 =>
                                                                              (∃ b500 : Bool, ((v498 = Value.bool b500) ∧ (R (Value.bool b500) (w499)))))))
                                                                            (R (Value.bool false) (w496))))))))))))))))))))))
                                                                    (R (Value.bool false) (w481))))))))))))))))))))))))))))))))))))))))))))))))))))))))))
                                              (∃ z501 : Int → World → Prop, (∃ z502 : Int → World → Nat, ((z501 (0) (w375)) ∧ (∀ (_ : Nat → Value), (∀ (x504 : Int), (∀ (w505 : World), ((z501 (x504) (w505)) → (ifK (decide (x504 < (↑n341 : Int)))
                                                (∃ a506 : Addr, ((p340 = some a506) ∧ (((0 : Int) ≤ x504) ∧ (((x504 : Int) < (↑n341 : Int)) ∧ (∃ s507 : ByteArray, ((World.cell? w505 (Addr.add (Addr.add a506 (Int.toNat x504 * 3)) 0) = some (Value.string s507)) ∧ (∃ x508 : Int, ((World.cell? w505 (Addr.add (Addr.add a506 (Int.toNat x504 * 3)) 1) = some (Value.int IntKind.i64 x508)) ∧ (∃ b509 : Bool, ((World.cell? w505 (Addr.add (Addr.add a506 (Int.toNat x504 * 3)) 2) = some (Value.bool b509)) ∧ (atW (World.alloc w505 (Obj.cells (Array.mk [Value.string (ByteArray.mk #[]), Value.int IntKind.i64 0, Value.bool false]) 33 (0, 0))) (fun w510 =>
                                                  ((∃ v511 : Value, (World.cell? w510 (Addr.add (Addr.mk (Array.size (World.heap w505)) 0 none) 0) = some v511)) ∧ ((World.frozen? w510 (Addr.add (Addr.mk (Array.size (World.heap w505)) 0 none) 0) = false) ∧ (atW (World.setCell w510 (Addr.add (Addr.mk (Array.size (World.heap w505)) 0 none) 0) (Value.string s507)) (fun w512 =>
                                                    ((∃ v513 : Value, (World.cell? w512 (Addr.add (Addr.mk (Array.size (World.heap w505)) 0 none) 1) = some v513)) ∧ ((World.frozen? w512 (Addr.add (Addr.mk (Array.size (World.heap w505)) 0 none) 1) = false) ∧ (atW (World.setCell w512 (Addr.add (Addr.mk (Array.size (World.heap w505)) 0 none) 1) (Value.int IntKind.i64 x508)) (fun w514 =>
                                                      ((∃ v515 : Value, (World.cell? w514 (Addr.add (Addr.mk (Array.size (World.heap w505)) 0 none) 2) = some v515)) ∧ ((World.frozen? w514 (Addr.add (Addr.mk (Array.size (World.heap w505)) 0 none) 2) = false) ∧ (atW (World.setCell w514 (Addr.add (Addr.mk (Array.size (World.heap w505)) 0 none) 2) (Value.bool b509)) (fun w516 =>
                                                        (∃ s517 : ByteArray, ((World.cell? w516 (Addr.add (Addr.mk (Array.size (World.heap w505)) 0 none) 0) = some (Value.string s517)) ∧ (Ca Tryz.prog (23) (Array.mk [Value.pointer p351, Value.string s517]) (w516) (fun v518 => (fun w519 =>
                                                          (∃ x520 : Int, ((v518 = Value.int IntKind.i64 x520) ∧ ((z501 (IntKind.wrap IntKind.i64 (x504 + 1)) (w519)) ∧ (z502 (IntKind.wrap IntKind.i64 (x504 + 1)) w519 < z502 x504 w505)))))))))))))))))))))))))))))))))
                                                (Ca Tryz.prog (15) (Array.mk [Value.pointer p351]) (w505) (fun v521 => (fun w522 =>
                                                  (∃ p523 : Option Addr, (∃ n524 : Nat, (∃ n525 : Nat, ((v521 = Value.slice p523 n524 n525) ∧ (Ca Tryz.prog (16) (Array.mk [Value.pointer p351]) (w522) (fun v526 => (fun w527 =>
                                                    (∃ p528 : Option Addr, (∃ n529 : Nat, (∃ n530 : Nat, ((v526 = Value.slice p528 n529 n530) ∧ (ifK (IntKind.wrap IntKind.i64 ((↑n524 : Int) + (↑n529 : Int)) == 0)
                                                      (Ca Tryz.prog (15) (Array.mk [Value.pointer p3]) (w527) (fun v531 => (fun w532 =>
                                                        (∃ p533 : Option Addr, (∃ n534 : Nat, (∃ n535 : Nat, ((v531 = Value.slice p533 n534 n535) ∧ (Ca Tryz.prog (16) (Array.mk [Value.pointer p3]) (w532) (fun v536 => (fun w537 =>
                                                          (∃ p538 : Option Addr, (∃ n539 : Nat, (∃ n540 : Nat, ((v536 = Value.slice p538 n539 n540) ∧ (Ca Tryz.prog (14) (Array.mk [Value.slice p533 n534 n535, Value.slice p538 n539 n540, Value.pointer (some (Addr.mk (Array.size (World.heap w344)) 0 none))]) (w537) (fun v541 => (fun w542 =>
                                                            (∃ b543 : Bool, ((v541 = Value.bool b543) ∧ (ifK (b543)
                                                              (Ca Tryz.prog (12) (Array.mk []) (w542) (fun v544 => (fun w545 =>
                                                                (∃ b546 : Bool, ((v544 = Value.bool b546) ∧ (R (Value.bool b546) (w545)))))))
                                                              (R (Value.bool false) (w542))))))))))))))))))))))
                                                      (R (Value.bool false) (w527))))))))))))))))))))))))))))))))))))))))))))))))))))))))))))))))))))))))))))))))))))))))))))))))))))))))))))))))))))))))))))))))) ∧ (atW (World.alloc w5 (Obj.cells (Array.mk [Value.int IntKind.i64 0, Value.string (ByteArray.mk #[]), Value.int IntKind.i64 0, Value.bool false, Value.string s15, Value.string s16, Value.string s17]) 37 (0, 0))) (fun w547 =>
              (atW (World.alloc w547 (Obj.cells (Array.mk []) 37 (0, 0))) (fun w548 =>
                ((World.cell? w548 (Addr.add (Addr.mk (Array.size (World.heap w)) 0 none) 0) = some (Value.string s15)) ∧ ((World.cell? w548 (Addr.add (Addr.mk (Array.size (World.heap w)) 0 none) 1) = some (Value.string s16)) ∧ ((World.cell? w548 (Addr.add (Addr.mk (Array.size (World.heap w)) 0 none) 2) = some (Value.string s17)) ∧ (∃ v549 : Value, (∃ w550 : World, ((Sem.run Tryz.prog (Builtin.append_ (Array.mk [22, 22]) 22 (Array.mk [Value.slice (some (Addr.mk (Array.size (World.heap w547)) 0 none)) 0 0, Value.slice actsa actsl actsc])) w548 = Result.ok v549 w550) ∧ (∃ p551 : Option Addr, (∃ n552 : Nat, (∃ n553 : Nat, ((v549 = Value.slice p551 n552 n553) ∧ ((World.cell? w550 (Addr.add (Addr.mk (Array.size (World.heap w)) 0 none) 0) = some (Value.string s15)) ∧ ((World.cell? w550 (Addr.add (Addr.mk (Array.size (World.heap w)) 0 none) 1) = some (Value.string s16)) ∧ ((World.cell? w550 (Addr.add (Addr.mk (Array.size (World.heap w)) 0 none) 2) = some (Value.string s17)) ∧ (∃ v554 : Value, (∃ w555 : World, ((Sem.run Tryz.prog (Builtin.append_ (Array.mk [22, 22]) 22 (Array.mk [Value.slice p551 n552 n553, Value.slice (some (Addr.mk (Array.size (World.heap w5)) 0 none)) 1 1])) w550 = Result.ok v554 w555) ∧ (∃ p556 : Option Addr, (∃ n557 : Nat, (∃ n558 : Nat, ((v554 = Value.slice p556 n557 n558) ∧ (Ca Tryz.prog (11) (Array.mk [Value.slice p556 n557 n558]) (w555) (fun v559 => (fun w560 =>
                  (∃ b561 : Bool, ((v559 = Value.bool b561) ∧ (ifK (!b561)
                    (ifK (!Option.isNone p3)
                      (Ca Tryz.prog (12) (Array.mk []) (w560) (fun v562 => (fun w563 =>
                        (∃ b564 : Bool, ((v562 = Value.bool b564) ∧ (R (Value.bool b564) (w563)))))))
                      (R (Value.bool false) (w560)))
                    (∃ z565 : Int → World → Prop, (∃ z566 : Int → World → Nat, ((z565 (0) (w560)) ∧ (∀ (_ : Nat → Value), (∀ (x568 : Int), (∀ (w569 : World), ((z565 (x568) (w569)) → (ifK (decide (x568 < (↑actsl : Int)))
                      (∃ a570 : Addr, ((actsa = some a570) ∧ (((0 : Int) ≤ x568) ∧ (((x568 : Int) < (↑actsl : Int)) ∧ (∃ x571 : Int, ((World.cell? w569 (Addr.add (Addr.add a570 (Int.toNat x568 * 7)) 0) = some (Value.int IntKind.i64 x571)) ∧ (∃ s572 : ByteArray, ((World.cell? w569 (Addr.add (Addr.add a570 (Int.toNat x568 * 7)) 1) = some (Value.string s572)) ∧ (∃ x573 : Int, ((World.cell? w569 (Addr.add (Addr.add a570 (Int.toNat x568 * 7)) 2) = some (Value.int IntKind.i64 x573)) ∧ (∃ b574 : Bool, ((World.cell? w569 (Addr.add (Addr.add a570 (Int.toNat x568 * 7)) 3) = some (Value.bool b574)) ∧ (∃ s575 : ByteArray, ((World.cell? w569 (Addr.add (Addr.add a570 (Int.toNat x568 * 7)) 4) = some (Value.string s575)) ∧ (∃ s576 : ByteArray, ((World.cell? w569 (Addr.add (Addr.add a570 (Int.toNat x568 * 7)) 5) = some (Value.string s576)) ∧ (∃ s577 : ByteArray, ((World.cell? w569 (Addr.add (Addr.add a570 (Int.toNat x568 * 7)) 6) = some (Value.string s577)) ∧ (atW (World.alloc w569 (Obj.cells (Array.mk [Value.int IntKind.i64 0, Value.string (ByteArray.mk #[]), Value.int IntKind.i64 0, Value.bool false, Value.string (ByteArray.mk #[]), Value.string (ByteArray.mk #[]), Value.string (ByteArray.mk #[])]) 37 (0, 0))) (fun w578 =>
                        ((∃ v579 : Value, (World.cell? w578 (Addr.add (Addr.mk (Array.size (World.heap w569)) 0 none) 0) = some v579)) ∧ ((World.frozen? w578 (Addr.add (Addr.mk (Array.size (World.heap w569)) 0 none) 0) = false) ∧ (atW (World.setCell w578 (Addr.add (Addr.mk (Array.size (World.heap w569)) 0 none) 0) (Value.int IntKind.i64 x571)) (fun w580 =>
                          ((∃ v581 : Value, (World.cell? w580 (Addr.add (Addr.mk (Array.size (World.heap w569)) 0 none) 1) = some v581)) ∧ ((World.frozen? w580 (Addr.add (Addr.mk (Array.size (World.heap w569)) 0 none) 1) = false) ∧ (atW (World.setCell w580 (Addr.add (Addr.mk (Array.size (World.heap w569)) 0 none) 1) (Value.string s572)) (fun w582 =>
                            ((∃ v583 : Value, (World.cell? w582 (Addr.add (Addr.mk (Array.size (World.heap w569)) 0 none) 2) = some v583)) ∧ ((World.frozen? w582 (Addr.add (Addr.mk (Array.size (World.heap w569)) 0 none) 2) = false) ∧ (atW (World.setCell w582 (Addr.add (Addr.mk (Array.size (World.heap w569)) 0 none) 2) (Value.int IntKind.i64 x573)) (fun w584 =>
                              ((∃ v585 : Value, (World.cell? w584 (Addr.add (Addr.mk (Array.size (World.heap w569)) 0 none) 3) = some v585)) ∧ ((World.frozen? w584 (Addr.add (Addr.mk (Array.size (World.heap w569)) 0 none) 3) = false) ∧ (atW (World.setCell w584 (Addr.add (Addr.mk (Array.size (World.heap w569)) 0 none) 3) (Value.bool b574)) (fun w586 =>
                                ((∃ v587 : Value, (World.cell? w586 (Addr.add (Addr.mk (Array.size (World.heap w569)) 0 none) 4) = some v587)) ∧ ((World.frozen? w586 (Addr.add (Addr.mk (Array.size (World.heap w569)) 0 none) 4) = false) ∧ (atW (World.setCell w586 (Addr.add (Addr.mk (Array.size (World.heap w569)) 0 none) 4) (Value.string s575)) (fun w588 =>
                                  ((∃ v589 : Value, (World.cell? w588 (Addr.add (Addr.mk (Array.size (World.heap w569)) 0 none) 5) = some v589)) ∧ ((World.frozen? w588 (Addr.add (Addr.mk (Array.size (World.heap w569)) 0 none) 5) = false) ∧ (atW (World.setCell w588 (Addr.add (Addr.mk (Array.size (World.heap w569)) 0 none) 5) (Value.string s576)) (fun w590 =>
                                    ((∃ v591 : Value, (World.cell? w590 (Addr.add (Addr.mk (Array.size (World.heap w569)) 0 none) 6) = some v591)) ∧ ((World.frozen? w590 (Addr.add (Addr.mk (Array.size (World.heap w569)) 0 none) 6) = false) ∧ (atW (World.setCell w590 (Addr.add (Addr.mk (Array.size (World.heap w569)) 0 none) 6) (Value.string s577)) (fun w592 =>
                                      (∃ x593 : Int, ((World.cell? w592 (Addr.add (Addr.mk (Array.size (World.heap w569)) 0 none) 0) = some (Value.int IntKind.i64 x593)) ∧ (∃ s594 : ByteArray, ((World.cell? w592 (Addr.add (Addr.mk (Array.size (World.heap w569)) 0 none) 1) = some (Value.string s594)) ∧ (∃ x595 : Int, ((World.cell? w592 (Addr.add (Addr.mk (Array.size (World.heap w569)) 0 none) 2) = some (Value.int IntKind.i64 x595)) ∧ (∃ b596 : Bool, ((World.cell? w592 (Addr.add (Addr.mk (Array.size (World.heap w569)) 0 none) 3) = some (Value.bool b596)) ∧ (∃ s597 : ByteArray, ((World.cell? w592 (Addr.add (Addr.mk (Array.size (World.heap w569)) 0 none) 4) = some (Value.string s597)) ∧ (∃ s598 : ByteArray, ((World.cell? w592 (Addr.add (Addr.mk (Array.size (World.heap w569)) 0 none) 5) = some (Value.string s598)) ∧ (∃ s599 : ByteArray, ((World.cell? w592 (Addr.add (Addr.mk (Array.size (World.heap w569)) 0 none) 6) = some (Value.string s599)) ∧ (Ca Tryz.prog (13) (Array.mk [Value.pointer p3, Value.pointer (some (Addr.mk (Array.size (World.heap w2)) 0 none)), Value.agg (Array.mk (List.reverse [Value.string s599, Value.string s598, Value.string s597, Value.bool b596, Value.int IntKind.i64 x595, Value.string s594, Value.int IntKind.i64 x593]))]) (w592) (fun v600 => (fun w601 =>
                                        (∃ b602 : Bool, ((v600 = Value.bool b602) ∧ ((z565 (IntKind.wrap IntKind.i64 (x568 + 1)) (w601)) ∧ (z566 (IntKind.wrap IntKind.i64 (x568 + 1)) w601 < z566 x568 w569)))))))))))))))))))))))))))))))))))))))))))))))))))))))))))))))))))))
                      (Ca Tryz.prog (15) (Array.mk [Value.pointer p3]) (w569) (fun v603 => (fun w604 =>
                        (∃ p605 : Option Addr, (∃ n606 : Nat, (∃ n607 : Nat, ((v603 = Value.slice p605 n606 n607) ∧ (Ca Tryz.prog (16) (Array.mk [Value.pointer p3]) (w604) (fun v608 => (fun w609 =>
                          (∃ p610 : Option Addr, (∃ n611 : Nat, (∃ n612 : Nat, ((v608 = Value.slice p610 n611 n612) ∧ (atW (World.alloc w609 (Obj.cells (Array.mk [Value.slice p605 n606 n607, Value.slice p610 n611 n612]) 29 (0, 0))) (fun w613 =>
                            (Ca Tryz.prog (19) (Array.mk [Value.pointer p3]) (w613) (fun v614 => (fun w615 =>
                              (∃ p616 : Option Addr, ((v614 = Value.pointer p616) ∧ (ifK (Option.isNone p616)
                                (R (Value.bool false) (w615))
                                (Ca Tryz.prog (15) (Array.mk [Value.pointer p616]) (w615) (fun v617 => (fun w618 =>
                                  (∃ p619 : Option Addr, (∃ n620 : Nat, (∃ n621 : Nat, ((v617 = Value.slice p619 n620 n621) ∧ (Ca Tryz.prog (16) (Array.mk [Value.pointer p616]) (w618) (fun v622 => (fun w623 =>
                                    (∃ p624 : Option Addr, (∃ n625 : Nat, (∃ n626 : Nat, ((v622 = Value.slice p624 n625 n626) ∧ (Ca Tryz.prog (14) (Array.mk [Value.slice p619 n620 n621, Value.slice p624 n625 n626, Value.pointer (some (Addr.mk (Array.size (World.heap w609)) 0 none))]) (w623) (fun v627 => (fun w628 =>
                                      (∃ b629 : Bool, ((v627 = Value.bool b629) ∧ (ifK (!b629)
                                        (R (Value.bool false) (w628))
                                        (∃ s630 : ByteArray, ((World.cell? w628 (Addr.add (Addr.mk (Array.size (World.heap w)) 0 none) 0) = some (Value.string s630)) ∧ (∃ s631 : ByteArray, ((World.cell? w628 (Addr.add (Addr.mk (Array.size (World.heap w)) 0 none) 1) = some (Value.string s631)) ∧ (∃ s632 : ByteArray, ((World.cell? w628 (Addr.add (Addr.mk (Array.size (World.heap w)) 0 none) 2) = some (Value.string s632)) ∧ (Ca Tryz.prog (20) (Array.mk [Value.pointer (some (Addr.mk (Array.size (World.heap w609)) 0 none)), Value.agg (Array.mk (List.reverse [Value.string s632, Value.string s631, Value.string s630]))]) (w628) (fun v633 => (fun w634 =>
                                          (∃ b635 : Bool, ((v633 = Value.bool b635) ∧ (∃ s636 : ByteArray, ((World.cell? w634 (Addr.add (Addr.mk (Array.size (World.heap w)) 0 none) 0) = some (Value.string s636)) ∧ (∃ s637 : ByteArray, ((World.cell? w634 (Addr.add (Addr.mk (Array.size (World.heap w)) 0 none) 1) = some (Value.string s637)) ∧ (∃ s638 : ByteArray, ((World.cell? w634 (Addr.add (Addr.mk (Array.size (World.heap w)) 0 none) 2) = some (Value.string s638)) ∧ (Ca Tryz.prog (21) (Array.mk [Value.pointer p616, Value.agg (Array.mk (List.reverse [Value.string s638, Value.string s637, Value.string s636]))]) (w634) (fun v639 => (fun w640 =>
                                            (∃ x641 : Int, ((v639 = Value.int IntKind.i64 x641) ∧ (ifK (x641 == 0)
                                              (Ca Tryz.prog (15) (Array.mk [Value.pointer p3]) (w640) (fun v642 => (fun w643 =>
                                                (∃ p644 : Option Addr, (∃ n645 : Nat, (∃ n646 : Nat, ((v642 = Value.slice p644 n645 n646) ∧ (Ca Tryz.prog (16) (Array.mk [Value.pointer p3]) (w643) (fun v647 => (fun w648 =>
                                                  (∃ p649 : Option Addr, (∃ n650 : Nat, (∃ n651 : Nat, ((v647 = Value.slice p649 n650 n651) ∧ (Ca Tryz.prog (14) (Array.mk [Value.slice p644 n645 n646, Value.slice p649 n650 n651, Value.pointer (some (Addr.mk (Array.size (World.heap w609)) 0 none))]) (w648) (fun v652 => (fun w653 =>
                                                    (∃ b654 : Bool, ((v652 = Value.bool b654) ∧ (ifK (!b654)
                                                      (R (Value.bool false) (w653))
                                                      (∃ s655 : ByteArray, ((World.cell? w653 (Addr.add (Addr.mk (Array.size (World.heap w)) 0 none) 0) = some (Value.string s655)) ∧ (∃ s656 : ByteArray, ((World.cell? w653 (Addr.add (Addr.mk (Array.size (World.heap w)) 0 none) 1) = some (Value.string s656)) ∧ (∃ s657 : ByteArray, ((World.cell? w653 (Addr.add (Addr.mk (Array.size (World.heap w)) 0 none) 2) = some (Value.string s657)) ∧ (Ca Tryz.prog (22) (Array.mk [Value.pointer p616, Value.agg (Array.mk (List.reverse [Value.string s657, Value.string s656, Value.string s655]))]) (w653) (fun v658 => (fun w659 =>
                                                        (∃ x660 : Int, ((v658 = Value.int IntKind.i64 x660) ∧ (ifK (x660 != 0)
                                                          (R (Value.bool false) (w659))
                                                          (ifK (!b635)
                                                            (Ca Tryz.prog (15) (Array.mk [Value.pointer p616]) (w659) (fun v661 => (fun w662 =>
                                                              (∃ p663 : Option Addr, (∃ n664 : Nat, (∃ n665 : Nat, ((v661 = Value.slice p663 n664 n665) ∧ (Ca Tryz.prog (16) (Array.mk [Value.pointer p616]) (w662) (fun v666 => (fun w667 =>
                                                                (∃ p668 : Option Addr, (∃ n669 : Nat, (∃ n670 : Nat, ((v666 = Value.slice p668 n669 n670) ∧ (Ca Tryz.prog (14) (Array.mk [Value.slice p663 n664 n665, Value.slice p668 n669 n670, Value.pointer (some (Addr.mk (Array.size (World.heap w609)) 0 none))]) (w667) (fun v671 => (fun w672 =>
                                                                  (∃ b673 : Bool, ((v671 = Value.bool b673) ∧ (ifK (!b673)
                                                                    (R (Value.bool false) (w672))
                                                                    (∃ z674 : Int → World → Prop, (∃ z675 : Int → World → Nat, ((z674 (0) (w672)) ∧ (∀ (_ : Nat → Value), (∀ (x677 : Int), (∀ (w678 : World), ((z674 (x677) (w678)) → (ifK (decide (x677 < (↑n606 : Int)))
                                                                      (∃ a679 : Addr, ((p605 = some a679) ∧ (((0 : Int) ≤ x677) ∧ (((x677 : Int) < (↑n606 : Int)) ∧ (∃ s680 : ByteArray, ((World.cell? w678 (Addr.add (Addr.add a679 (Int.toNat x677 * 3)) 0) = some (Value.string s680)) ∧ (∃ x681 : Int, ((World.cell? w678 (Addr.add (Addr.add a679 (Int.toNat x677 * 3)) 1) = some (Value.int IntKind.i64 x681)) ∧ (∃ b682 : Bool, ((World.cell? w678 (Addr.add (Addr.add a679 (Int.toNat x677 * 3)) 2) = some (Value.bool b682)) ∧ (atW (World.alloc w678 (Obj.cells (Array.mk [Value.string (ByteArray.mk #[]), Value.int IntKind.i64 0, Value.bool false]) 33 (0, 0))) (fun w683 =>
                                                                        ((∃ v684 : Value, (World.cell? w683 (Addr.add (Addr.mk (Array.size (World.heap w678)) 0 none) 0) = some v684)) ∧ ((World.frozen? w683 (Addr.add (Addr.mk (Array.size (World.heap w678)) 0 none) 0) = false) ∧ (atW (World.setCell w683 (Addr.add (Addr.mk (Array.size (World.heap w678)) 0 none) 0) (Value.string s680)) (fun w685 =>
                                                                          ((∃ v686 : Value, (World.cell? w685 (Addr.add (Addr.mk (Array.size (World.heap w678)) 0 none) 1) = some v686)) ∧ ((World.frozen? w685 (Addr.add (Addr.mk (Array.size (World.heap w678)) 0 none) 1) = false) ∧ (atW (World.setCell w685 (Addr.add (Addr.mk (Array.size (World.heap w678)) 0 none) 1) (Value.int IntKind.i64 x681)) (fun w687 =>
                                                                            ((∃ v688 : Value, (World.cell? w687 (Addr.add (Addr.mk (Array.size (World.heap w678)) 0 none) 2) = some v688)) ∧ ((World.frozen? w687 (Addr.add (Addr.mk (Array.size (World.heap w678)) 0 none) 2) = false) ∧ (atW (World.setCell w687 (Addr.add (Addr.mk (Array.size (World.heap w678)) 0 none) 2) (Value.bool b682)) (fun w689 =>
                                                                              (∃ s690 : ByteArray, ((World.cell? w689 (Addr.add (Addr.mk (Array.size (World.heap w678)) 0 none) 0) = some (Value.string s690)) ∧ (Ca Tryz.prog (23) (Array.mk [Value.pointer p616, Value.string s690]) (w689) (fun v691 => (fun w692 =>
                                                                                (∃ x693 : Int, ((v691 = Value.int IntKind.i64 x693) ∧ ((z674 (IntKind.wrap IntKind.i64 (x677 + 1)) (w692)) ∧ (z675 (IntKind.wrap IntKind.i64 (x677 + 1)) w692 < z675 x677 w678)))))))))))))))))))))))))))))))))
                                                                      (Ca Tryz.prog (15) (Array.mk [Value.pointer p616]) (w678) (fun v694 => (fun w695 =>
                                                                        (∃ p696 : Option Addr, (∃ n697 : Nat, (∃ n698 : Nat, ((v694 = Value.slice p696 n697 n698) ∧ (Ca Tryz.prog (16) (Array.mk [Value.pointer p616]) (w695) (fun v699 => (fun w700 =>
                                                                          (∃ p701 : Option Addr, (∃ n702 : Nat, (∃ n703 : Nat, ((v699 = Value.slice p701 n702 n703) ∧ (ifK (IntKind.wrap IntKind.i64 ((↑n697 : Int) + (↑n702 : Int)) == 0)
                                                                            (Ca Tryz.prog (15) (Array.mk [Value.pointer p3]) (w700) (fun v704 => (fun w705 =>
                                                                              (∃ p706 : Option Addr, (∃ n707 : Nat, (∃ n708 : Nat, ((v704 = Value.slice p706 n707 n708) ∧ (Ca Tryz.prog (16) (Array.mk [Value.pointer p3]) (w705) (fun v709 => (fun w710 =>
                                                                                (∃ p711 : Option Addr, (∃ n712 : Nat, (∃ n713 : Nat, ((v709 = Value.slice p711 n712 n713) ∧ (Ca Tryz.prog (14) (Array.mk [Value.slice p706 n707 n708, Value.slice p711 n712 n713, Value.pointer (some (Addr.mk (Array.size (World.heap w609)) 0 none))]) (w710) (fun v714 => (fun w715 =>
                                                                                  (∃ b716 : Bool, ((v714 = Value.bool b716) ∧ (ifK (b716)
                                                                                    (Ca Tryz.prog (12) (Array.mk []) (w715) (fun v717 => (fun w718 =>
                                                                                      (∃ b719 : Bool, ((v717 = Value.bool b719) ∧ (R (Value.bool b719) (w718)))))))
                                                                                    (R (Value.bool false) (w715))))))))))))))))))))))
                                                                            (R (Value.bool false) (w700)))))))))))))))))))))))))))))))))))))))))))))
                                                            (∃ z720 : Int → World → Prop, (∃ z721 : Int → World → Nat, ((z720 (0) (w659)) ∧ (∀ (_ : Nat → Value), (∀ (x723 : Int), (∀ (w724 : World), ((z720 (x723) (w724)) → (ifK (decide (x723 < (↑n606 : Int)))
                                                              (∃ a725 : Addr, ((p605 = some a725) ∧ (((0 : Int) ≤ x723) ∧ (((x723 : Int) < (↑n606 : Int)) ∧ (∃ s726 : ByteArray, ((World.cell? w724 (Addr.add (Addr.add a725 (Int.toNat x723 * 3)) 0) = some (Value.string s726)) ∧ (∃ x727 : Int, ((World.cell? w724 (Addr.add (Addr.add a725 (Int.toNat x723 * 3)) 1) = some (Value.int IntKind.i64 x727)) ∧ (∃ b728 : Bool, ((World.cell? w724 (Addr.add (Addr.add a725 (Int.toNat x723 * 3)) 2) = some (Value.bool b728)) ∧ (atW (World.alloc w724 (Obj.cells (Array.mk [Value.string (ByteArray.mk #[]), Value.int IntKind.i64 0, Value.bool false]) 33 (0, 0))) (fun w729 =>
                                                                ((∃ v730 : Value, (World.cell? w729 (Addr.add (Addr.mk (Array.size (World.heap w724)) 0 none) 0) = some v730)) ∧ ((World.frozen? w729 (Addr.add (Addr.mk (Array.size (World.heap w724)) 0 none) 0) = false) ∧ (atW (World.setCell w729 (Addr.add (Addr.mk (Array.size (World.heap w724)) 0 none) 0) (Value.string s726)) (fun w731 =>
                                                                  ((∃ v732 : Value, (World.cell? w731 (Addr.add (Addr.mk (Array.size (World.heap w724)) 0 none) 1) = some v732)) ∧ ((World.frozen? w731 (Addr.add (Addr.mk (Array.size (World.heap w724)) 0 none) 1) = false) ∧ (atW (World.setCell w731 (Addr.add (Addr.mk (Array.size (World.heap w724)) 0 none) 1) (Value.int IntKind.i64 x727)) (fun w733 =>
                                                                    ((∃ v734 : Value, (World.cell? w733 (Addr.add (Addr.mk (Array.size (World.heap w724)) 0 none) 2) = some v734)) ∧ ((World.frozen? w733 (Addr.add (Addr.mk (Array.size (World.heap w724)) 0 none) 2) = false) ∧ (atW (World.setCell w733 (Addr.add (Addr.mk (Array.size (World.heap w724)) 0 none) 2) (Value.bool b728)) (fun w735 =>
                                                                      (∃ s736 : ByteArray, ((World.cell? w735 (Addr.add (Addr.mk (Array.size (World.heap w724)) 0 none) 0) = some (Value.string s736)) ∧ (Ca Tryz.prog (23) (Array.mk [Value.pointer p616, Value.string s736]) (w735) (fun v737 => (fun w738 =>
                                                                        (∃ x739 : Int, ((v737 = Value.int IntKind.i64 x739) ∧ ((z720 (IntKind.wrap IntKind.i64 (x723 + 1)) (w738)) ∧ (z721 (IntKind.wrap IntKind.i64 (x723 + 1)) w738 < z721 x723 w724)))))))))))))))))))))))))))))))))
                                                              (Ca Tryz.prog (15) (Array.mk [Value.pointer p616]) (w724) (fun v740 => (fun w741 =>
                                                                (∃ p742 : Option Addr, (∃ n743 : Nat, (∃ n744 : Nat, ((v740 = Value.slice p742 n743 n744) ∧ (Ca Tryz.prog (16) (Array.mk [Value.pointer p616]) (w741) (fun v745 => (fun w746 =>
                                                                  (∃ p747 : Option Addr, (∃ n748 : Nat, (∃ n749 : Nat, ((v745 = Value.slice p747 n748 n749) ∧ (ifK (IntKind.wrap IntKind.i64 ((↑n743 : Int) + (↑n748 : Int)) == 0)
                                                                    (Ca Tryz.prog (15) (Array.mk [Value.pointer p3]) (w746) (fun v750 => (fun w751 =>
                                                                      (∃ p752 : Option Addr, (∃ n753 : Nat, (∃ n754 : Nat, ((v750 = Value.slice p752 n753 n754) ∧ (Ca Tryz.prog (16) (Array.mk [Value.pointer p3]) (w751) (fun v755 => (fun w756 =>
                                                                        (∃ p757 : Option Addr, (∃ n758 : Nat, (∃ n759 : Nat, ((v755 = Value.slice p757 n758 n759) ∧ (Ca Tryz.prog (14) (Array.mk [Value.slice p752 n753 n754, Value.slice p757 n758 n759, Value.pointer (some (Addr.mk (Array.size (World.heap w609)) 0 none))]) (w756) (fun v760 => (fun w761 =>
                                                                          (∃ b762 : Bool, ((v760 = Value.bool b762) ∧ (ifK (b762)
                                                                            (Ca Tryz.prog (12) (Array.mk []) (w761) (fun v763 => (fun w764 =>
                                                                              (∃ b765 : Bool, ((v763 = Value.bool b765) ∧ (R (Value.bool b765) (w764)))))))
                                                                            (R (Value.bool false) (w761))))))))))))))))))))))
                                                                    (R (Value.bool false) (w746))))))))))))))))))))))))))))))))))))))))))))))))))))))))))
                                              (∃ z766 : Int → World → Prop, (∃ z767 : Int → World → Nat, ((z766 (0) (w640)) ∧ (∀ (_ : Nat → Value), (∀ (x769 : Int), (∀ (w770 : World), ((z766 (x769) (w770)) → (ifK (decide (x769 < (↑n606 : Int)))
                                                (∃ a771 : Addr, ((p605 = some a771) ∧ (((0 : Int) ≤ x769) ∧ (((x769 : Int) < (↑n606 : Int)) ∧ (∃ s772 : ByteArray, ((World.cell? w770 (Addr.add (Addr.add a771 (Int.toNat x769 * 3)) 0) = some (Value.string s772)) ∧ (∃ x773 : Int, ((World.cell? w770 (Addr.add (Addr.add a771 (Int.toNat x769 * 3)) 1) = some (Value.int IntKind.i64 x773)) ∧ (∃ b774 : Bool, ((World.cell? w770 (Addr.add (Addr.add a771 (Int.toNat x769 * 3)) 2) = some (Value.bool b774)) ∧ (atW (World.alloc w770 (Obj.cells (Array.mk [Value.string (ByteArray.mk #[]), Value.int IntKind.i64 0, Value.bool false]) 33 (0, 0))) (fun w775 =>
                                                  ((∃ v776 : Value, (World.cell? w775 (Addr.add (Addr.mk (Array.size (World.heap w770)) 0 none) 0) = some v776)) ∧ ((World.frozen? w775 (Addr.add (Addr.mk (Array.size (World.heap w770)) 0 none) 0) = false) ∧ (atW (World.setCell w775 (Addr.add (Addr.mk (Array.size (World.heap w770)) 0 none) 0) (Value.string s772)) (fun w777 =>
                                                    ((∃ v778 : Value, (World.cell? w777 (Addr.add (Addr.mk (Array.size (World.heap w770)) 0 none) 1) = some v778)) ∧ ((World.frozen? w777 (Addr.add (Addr.mk (Array.size (World.heap w770)) 0 none) 1) = false) ∧ (atW (World.setCell w777 (Addr.add (Addr.mk (Array.size (World.heap w770)) 0 none) 1) (Value.int IntKind.i64 x773)) (fun w779 =>
                                                      ((∃ v780 : Value, (World.cell? w779 (Addr.add (Addr.mk (Array.size (World.heap w770)) 0 none) 2) = some v780)) ∧ ((World.frozen? w779 (Addr.add (Addr.mk (Array.size (World.heap w770)) 0 none) 2) = false) ∧ (atW (World.setCell w779 (Addr.add (Addr.mk (Array.size (World.heap w770)) 0 none) 2) (Value.bool b774)) (fun w781 =>
                                                        (∃ s782 : ByteArray, ((World.cell? w781 (Addr.add (Addr.mk (Array.size (World.heap w770)) 0 none) 0) = some (Value.string s782)) ∧ (Ca Tryz.prog (23) (Array.mk [Value.pointer p616, Value.string s782]) (w781) (fun v783 => (fun w784 =>
                                                          (∃ x785 : Int, ((v783 = Value.int IntKind.i64 x785) ∧ ((z766 (IntKind.wrap IntKind.i64 (x769 + 1)) (w784)) ∧ (z767 (IntKind.wrap IntKind.i64 (x769 + 1)) w784 < z767 x769 w770)))))))))))))))))))))))))))))))))
                                                (Ca Tryz.prog (15) (Array.mk [Value.pointer p616]) (w770) (fun v786 => (fun w787 =>
                                                  (∃ p788 : Option Addr, (∃ n789 : Nat, (∃ n790 : Nat, ((v786 = Value.slice p788 n789 n790) ∧ (Ca Tryz.prog (16) (Array.mk [Value.pointer p616]) (w787) (fun v791 => (fun w792 =>
                                                    (∃ p793 : Option Addr, (∃ n794 : Nat, (∃ n795 : Nat, ((v791 = Value.slice p793 n794 n795) ∧ (ifK (IntKind.wrap IntKind.i64 ((↑n789 : Int) + (↑n794 : Int)) == 0)
                                                      (Ca Tryz.prog (15) (Array.mk [Value.pointer p3]) (w792) (fun v796 => (fun w797 =>
                                                        (∃ p798 : Option Addr, (∃ n799 : Nat, (∃ n800 : Nat, ((v796 = Value.slice p798 n799 n800) ∧ (Ca Tryz.prog (16) (Array.mk [Value.pointer p3]) (w797) (fun v801 => (fun w802 =>
                                                          (∃ p803 : Option Addr, (∃ n804 : Nat, (∃ n805 : Nat, ((v801 = Value.slice p803 n804 n805) ∧ (Ca Tryz.prog (14) (Array.mk [Value.slice p798 n799 n800, Value.slice p803 n804 n805, Value.pointer (some (Addr.mk (Array.size (World.heap w609)) 0 none))]) (w802) (fun v806 => (fun w807 =>
                                                            (∃ b808 : Bool, ((v806 = Value.bool b808) ∧ (ifK (b808)
                                                              (Ca Tryz.prog (12) (Array.mk []) (w807) (fun v809 => (fun w810 =>
                                                                (∃ b811 : Bool, ((v809 = Value.bool b811) ∧ (R (Value.bool b811) (w810)))))))
                                                              (R (Value.bool false) (w807))))))))))))))))))))))
                                                      (R (Value.bool false) (w792)))))))))))))))))))))))))))))))))))))))))))))))))))))))))))))))))))))))))))))))))))))))))))))))))))))))))))))))))))))))))))))))))))))))))))))))))))
theorem ca5 (actsa : Option Addr) (actsl : Nat) (actsc : Nat) (b0_ : ByteArray) (b1_ : ByteArray) (b2_ : ByteArray) (w : World) (R : Value → World → Prop) (h : W5 actsa actsl actsc b0_ b1_ b2_ w R) : Ca Tryz.prog 5 ⟨[(.slice actsa actsl actsc), (.agg ⟨[(.string b0_), (.string b1_), (.string b2_)]⟩)]⟩ w R := by
  have h1 : Tryz.prog.follows .mixedOrders = true := by kernel_rfl
  have h2 : Tryz.f5.body = some C5 := by kernel_rfl
  have h3 : (Tryz.f5.name == "runtime.NumGoroutine") = false := by kernel_rfl
  have h6 : Tryz.f5.results.toList = [.tmp 4] := by kernel_rfl
  have h4 : Nat.ble 2 130 = true := by kernel_rfl
  have h5 : okCode 130 pl5 ls5 C5 0 = true := by kernel_rfl
  have e : W5 actsa actsl actsc b0_ b1_ b2_ w R = wpC none Tryz.prog 130 pl5 ls5 C5 0 (endP Tryz.prog [.tmp 4] R) (fr0 [(.slice actsa actsl actsc), (.agg ⟨[(.string b0_), (.string b1_), (.string b2_)]⟩)]) [] w := by kernel_rfl
  exact ca_of' (P := Tryz.prog) (g := 5) (fn := Tryz.f5) (c := C5) (m := 130) (rs := [.tmp 4]) (args := [(.slice actsa actsl actsc), (.agg ⟨[(.string b0_), (.string b1_), (.string b2_)]⟩)]) (pl := pl5) (ls := ls5) (w := w) (R := R) h1 Tryz.func5 h2 Tryz.ntmps5 h6 h3 h4 h5 (Eq.mp e h)
end Go.Proofs.YtehhhkcemmfjpaaGreatDoor

/- The reference's Bind. -/
namespace Go.Proofs.YtehhhkcemmfjpaaGreatDoor
open Go Go.Proofs.YtehhhkcemmfjpaaGreatDoor Go.Proofs.YtehhhkcemmfjpaaGreatDoor.St

def AddedB (b : Bnd) (X : List Exc) (C C' : List Bnd) : Prop := if nameB b.q = true ∧ hx b.x X = true ∧ mayB (fx b.x X) b.p = true ∧ b ∉ C ∧ C.length < 32 then Inb b C C' else C' = C
theorem bindRef_ok {w : World} {r : Nat} {X : List Exc} {B : List Bnd} (hR : RTb w r X B) (x : Bnd) (hlx : X.length < 1000000000) (hl : B.length < 1000000000) (hkind : hx x.x X = true → (fx x.x X).k = 1 ∨ (fx x.x X).k = 2 ∨ (fx x.x X).k = 3) (R : Value → World → Prop)
    (h : ∀ w' C', AddedB x X B C' → RTb w' r X C' → Mod (on r) w w' → R (.int .i64 (bindR x X B)) w') :
    Ca Tryz.prog 39 #[.pointer (some ⟨r, 0, none⟩), .agg ⟨x.cs⟩] w R := by
  refine (ca39 (some ⟨r, 0, none⟩) x.x x.q x.p w R ?_ : Ca _ _ _ _ _)
  intro w0 e0
  have m0 : Mod no w w0 := by subst e0; exact Mod.alloc _ _
  have b0 : Bc w0 w.heap.size x := by subst e0; exact new_at _ _
  clear e0
  have same : ∀ w', Mod no w w' → ¬ (nameB x.q = true ∧ hx x.x X = true ∧ mayB (fx x.x X) x.p = true ∧ x ∉ B ∧ B.length < 32) → R (.int .i64 (bindR x X B)) w' := fun w' m hc => h w' B (by rw [AddedB, if_neg hc]) (hR.no m) m.of_no
  refine ⟨_, by rw [cl1 b0]; rfl, nameR_ok _ _ _ ⟨_, rfl, ifK_of (fun hn => ?_) (fun hn => ?_)⟩⟩
  · have hn : nameB x.q = false := by simpa using hn
    have h' := same w0 m0 (fun hc => by rw [hn] at hc; cases hc.1)
    rw [bindR, if_pos hn] at h'
    exact h'
  have hn : nameB x.q = true := by simpa using hn
  have hR0 := hR.no m0
  refine ⟨fun p b w' => ∃ k, p = some ⟨k, 0, none⟩ ∧ Xc w' k (fx x.x X) ∧ b = hx x.x X ∧ Mod no w w' ∧ Bc w' w.heap.size x, ?_, ?_⟩
  · refine ⟨_, by rw [cl1 b0]; rfl, findR_ok hR0 x.x hlx _ fun w10 m10 => ⟨_, _, _, _, rfl, ?_⟩⟩
    intro w15 e0
    have m15 : Mod no w10 w15 := by subst e0; exact Mod.alloc _ _
    have b15 : Xc w15 w10.heap.size exc0 := by subst e0; exact new_at _ _
    clear e0
    refine put3 b15 fun w21 m21 b21 => ⟨_, rfl, b21, rfl, ?_⟩
    have m1021 : Mod no w10 w21 := m15.new m21 fun k hk => by cases hk; exact Nat.le_refl _
    exact ⟨(m0.trans m10).trans m1021, m1021.at' (m10.at' b0)⟩
  rintro _ _ _ w23 ⟨k, rfl, bk, rfl, m23, b23⟩
  refine ⟨fun w' => nameB x.q = true ∧ hx x.x X = true ∧ mayB (fx x.x X) x.p = true ∧ x ∉ B ∧ B.length < 32 ∧ Mod no w w' ∧ Bc w' w.heap.size x, ?_, ?_⟩
  · refine ifK_of (fun hh => ?_) (fun hh => ?_)
    · have hh : hx x.x X = false := by simpa using hh
      have h' := same w23 m23 (fun hc => by rw [hh] at hc; cases hc.2.1)
      rw [bindR, if_neg (by rw [hn]; decide), if_pos hh] at h'
      exact h'
    have hh : hx x.x X = true := by simpa using hh
    refine ⟨_, by rw [cl1 bk]; rfl, _, by rw [cl1 b23]; rfl, mayR_ok (fx x.x X) (hkind hh) x.p w23 _ fun w29 m29 => ⟨_, rfl, ifK_of (fun hm => ?_) (fun hm => ?_)⟩⟩
    · have hm : mayB (fx x.x X) x.p = false := by simpa using hm
      have h' := same w29 (m23.trans m29) (fun hc => by rw [hm] at hc; cases hc.2.2.1)
      rw [bindR, if_neg (by rw [hn]; decide), if_neg (by rw [hh]; decide), if_pos hm] at h'
      exact h'
    have hm : mayB (fx x.x X) x.p = true := by simpa using hm
    have b29 := m29.at' b23
    have m029 := m23.trans m29
    refine ⟨_, by rw [cl1 b29]; rfl, _, by rw [cl1 b29]; rfl, _, by rw [cl1 b29]; rfl, (hasR_ok (hR.no m029) x hl _ fun w35 m35 => ⟨_, rfl, ?_⟩ : Ca _ _ _ _ _)⟩
    have m035 := m029.trans m35
    refine ifK_dec (fun hb => ?_) (fun hb => ?_)
    · have h' := same w35 m035 (fun hc => hc.2.2.2.1 hb)
      rw [bindR, if_neg (by rw [hn]; decide), if_neg (by rw [hh]; decide), if_neg (by rw [hm]; decide), if_pos hb] at h'
      exact h'
    obtain ⟨a, l, c, a', l', c', h1, h2, h3, h4, h5⟩ := (hR.no m035).ex
    have hxl := h3.len.1
    refine ⟨a', l', c', by rw [cl1 h1]; rfl, ifK_dec (fun hge => ?_) (fun hlt => ⟨hn, hh, hm, hb, by omega, m035, m35.at' b29⟩)⟩
    have h' := same w35 m035 (fun hc => by omega)
    rw [bindR, if_neg (by rw [hn]; decide), if_neg (by rw [hh]; decide), if_neg (by rw [hm]; decide), if_neg hb, if_pos (by omega)] at h'
    exact h'
  rintro _ w25 ⟨_, hh, hm, hb, hlt, m25, b25⟩
  have hR25 := hR.no m25
  obtain ⟨a', l', c', a, l, c, h1, h3, h2, h5, h4⟩ := hR25.ex
  have hxl := h2.len.1
  have hrlt : r < w.heap.size := by obtain ⟨_, _, _, _, _, _, hh, _⟩ := hR.ex; exact lt_of_heap hh
  have g0 := m25.size
  have hok : laidOk Tryz.prog 27 35 bndL.s = true := by kernel_rfl
  refine ⟨fun p q s w' => Rx bndL 35 w' p q s (B ++ [x]) ∧ Mod no w25 w' ∧ (∀ k, rowB p k → w25.heap.size ≤ k), ?_, ?_⟩
  · intro w40 e0
    have m40 : Mod no w25 w40 := by subst e0; exact Mod.drew _
    clear e0
    have b40 := m40.at' b25
    have h1 := m40.at' h1
    have h40 := h1
    have g1 := m40.size
    have h2 := h2.no m40
    refine ⟨a, l, c, by rw [cl1 h1]; rfl, _, by rw [cl1 b40]; rfl, _, by rw [cl1 b40]; rfl, _, by rw [cl1 b40]; rfl, ⟨?_, ?_⟩⟩
    · intro w48 e0
      have m48 : Mod no w40 w48 := by subst e0; exact Mod.alloc _ _
      have e48 : w48.heap[w40.heap.size]? = some (.cells #[] 35 (0, 0)) := by subst e0; exact new_at _ _
      clear e0
      have h1 := m48.at' h1
      have b48 := m48.at' b40
      have g2 := m48.size
      have h2 := h2.no m48
      have l48 := lt_of_heap e48
      refine ⟨by rw [cl2 h1]; rfl, by rw [cl1 b48]; rfl, by rw [cl1 b48]; rfl, by rw [cl1 b48]; rfl, ⟨?_, ?_⟩⟩
      · obtain ⟨p, c2, w50, hr, x50, m50, n50⟩ := copyRow (L := bndL) (P := Tryz.prog) (ty := 27) hok e48 h2 (by omega)
        have n4050 : Mod no w40 w50 := m48.new m50 fun k hk => by cases hk; exact Nat.le_refl _
        have b50 := n4050.at' b40
        have g3 := m50.size
        refine ⟨_, w50, hr, _, _, _, rfl, by rw [cl1 b50]; rfl, by rw [cl1 b50]; rfl, by rw [cl1 b50]; rfl, ?_⟩
        intro w54 e0
        have m54 : Mod no w50 w54 := by subst e0; exact Mod.alloc _ _
        have b54 : Bc w54 w50.heap.size x := by subst e0; exact new_at _ _
        clear e0
        have h1 := (n4050.trans m54).at' h40
        obtain ⟨p2, c3, w56, hr, x56, m56, n56⟩ := pushB (Rx.no x50 m54) b54 (by omega)
        have g4 := m54.size
        refine ⟨by rw [cl2 h1]; rfl, _, w56, hr, _, _, _, rfl, x56, ?_, ?_⟩
        · exact ((m40.trans n4050).trans m54).new m56 fun k hk => by have := n50 k hk; omega
        · intro k hk
          rcases n56 k hk with hk | hk
          · have := n50 k hk; omega
          · omega
      · intro w60 e0
        have m60 : Mod no w48 w60 := by subst e0; exact Mod.alloc _ _
        have b60 : Bc w60 w48.heap.size x := by subst e0; exact new_at _ _
        clear e0
        have h1 := m60.at' h1
        have g3 := m60.size
        obtain ⟨p, c2, w62, hr, x62, m62, n62⟩ := copyRow (L := bndL) (P := Tryz.prog) (ty := 27) hok (m60.at' e48) (h2.no m60) (by omega)
        have n4062 : Mod no w40 w62 := (m48.trans m60).new m62 fun k hk => by cases hk; exact Nat.le_refl _
        have b62 := n4062.at' b40
        have g4 := m62.size
        have x' := m62.at b60 (fun hS => by have : w48.heap.size = w40.heap.size := hS; omega)
        obtain ⟨p2, c3, w67, hr2, x67, m67, n67⟩ := pushB x62 x' (by omega)
        refine ⟨by rw [cl2 h1]; rfl, _, w62, hr, _, _, _, rfl, by rw [cl1 b62]; rfl, by rw [cl1 b62]; rfl, by rw [cl1 b62]; rfl, _, w67, hr2, _, _, _, rfl, x67, ?_, ?_⟩
        · exact (m40.trans n4062).new m67 fun k hk => by have := n62 k hk; omega
        · intro k hk
          rcases n67 k hk with hk | hk
          · have := n62 k hk; omega
          · omega
    · intro w71 e0
      have m71 : Mod no w40 w71 := by subst e0; exact Mod.alloc _ _
      have b71 : Bc w71 w40.heap.size x := by subst e0; exact new_at _ _
      clear e0
      have h1 := m71.at' h1
      refine ⟨by rw [cl2 h1]; rfl, ?_⟩
      intro w72 e0
      have m72 : Mod no w71 w72 := by subst e0; exact Mod.alloc _ _
      have e72 : w72.heap[w71.heap.size]? = some (.cells #[] 35 (0, 0)) := by subst e0; exact new_at _ _
      clear e0
      have h1 := m72.at' h1
      have m4072 := m71.trans m72
      have b72 := m4072.at' b40
      have g2 := m71.size
      have g3 := m72.size
      have l71 := lt_of_heap b71
      obtain ⟨p, c2, w74, hr, x74, m74, n74⟩ := copyRow (L := bndL) (P := Tryz.prog) (ty := 27) hok e72 (h2.no m4072) (by omega)
      have n4074 : Mod no w40 w74 := m4072.new m74 fun k hk => by cases hk; exact g2
      have b74 := n4074.at' b40
      have g4 := m74.size
      have x' := m74.at (m72.at' b71) (fun hS => by have : w40.heap.size = w71.heap.size := hS; omega)
      obtain ⟨p2, c3, w79, hr2, x79, m79, n79⟩ := pushB x74 x' (by omega)
      refine ⟨by rw [cl2 h1]; rfl, by rw [cl1 b72]; rfl, by rw [cl1 b72]; rfl, by rw [cl1 b72]; rfl, _, w74, hr, _, _, _, rfl, by rw [cl1 b74]; rfl, by rw [cl1 b74]; rfl, by rw [cl1 b74]; rfl, _, w79, hr2, _, _, _, rfl, x79, ?_, ?_⟩
      · exact (m40.trans n4074).new m79 fun k hk => by have := n74 k hk; omega
      · intro k hk
        rcases n79 k hk with hk | hk
        · have := n74 k hk; omega
        · omega
  rintro _ p q s w87 ⟨x87, m87, n87⟩
  have hql := x87.len.1
  rw [List.length_append, List.length_singleton, hxl] at hql
  subst hql
  obtain ⟨g, rfl, _⟩ := Row.get x87 (i := 0) (by simp)
  have hgn := n87 g rfl
  have hcl : IntKind.i64.wrap (((l + 1 : Nat) : Int) - 1) = (l : Int) := by rw [wrap64 (by omega) (by omega)]; omega
  rw [hcl]
  clear hcl
  refine ⟨fun y w' => ∃ i : Nat, y = i ∧ i ≤ l ∧ Rx bndL 35 w' (some ⟨g, 0, none⟩) (l + 1) s (B.take i ++ x :: B.drop i) ∧ Mod no w25 w' ∧ ∀ y ∈ B.drop i, x < y, fun y _ => y.toNat,
    ⟨l, rfl, Nat.le_refl _, by rw [List.take_of_length_le (by omega), List.drop_eq_nil_of_le (by omega)]; exact x87, m87, fun y hy => by rw [← hxl, List.drop_length] at hy; cases hy⟩, ?_⟩
  rintro _ _ w92 ⟨i, rfl, hi, x92, m92, hgt⟩
  intro w93 e0
  have m93 : Mod no w92 w93 := by subst e0; exact Mod.drew _
  clear e0
  have x93 := x92.no m93
  have m93' := m92.trans m93
  have done : ∀ w94, Mod no w93 w94 → (∀ j y, j + 1 = i → B[j]? = some y → ¬ x < y) → ∃ v122 : Value, w94.cell? (Addr.add (Addr.add ⟨r, 0, none⟩ 1) 0) = some v122 := fun w94 m94 _ => ⟨_, by rw [cl2 ((m93'.trans m94).at' h1)]; rfl⟩
  have fin : ∀ w94, Mod no w93 w94 → (∀ j y, j + 1 = i → B[j]? = some y → ¬ x < y) → ∀ w', w' = w94.setCell (Addr.add (Addr.add ⟨r, 0, none⟩ 1) 0) (.slice (some ⟨g, 0, none⟩) (l + 1) s) → R (.int .i64 0) w' := by
    intro w94 m94 hmin w' e0
    have m94' := m93'.trans m94
    have x94 := x93.no m94
    have h1' := m94'.at' h1
    have mr : Mod (on r) w94 w' := by subst e0; exact Mod.set2 _ _ _ _ _
    have br : w'.heap[r]? = some (.cells #[.slice a' l' c', .slice (some ⟨g, 0, none⟩) (l + 1) s] 29 (0, 0)) := by subst e0; rw [set2 h1']; rfl
    clear e0
    have h' := h w' (B.take i ++ x :: B.drop i) (by
      rw [AddedB, if_pos ⟨hn, hh, hm, hb, hlt⟩]
      exact ⟨i, by omega, rfl, hgt, hmin⟩)
      ⟨a', l', c', _, _, _, br, (h3.no m94').mod mr (fun k hk hS => by cases hS; exact h5 hk), x94.mod mr (fun k hk hS => by have e1 := rowB_eq hk; have e2 : k = r := hS; omega), h5, fun hk => by have e1 := rowB_eq hk; omega⟩ ((m25.trans m94').no_trans mr)
    rw [bindR, if_neg (by rw [hn]; decide), if_neg (by rw [hh]; decide), if_neg (by rw [hm]; decide), if_neg hb, if_neg (by omega)] at h'
    exact h'
  have fz : ∀ w94, Mod no w93 w94 → w94.frozen? (Addr.add (Addr.add ⟨r, 0, none⟩ 1) 0) = false := fun w94 m94 => fz2 ((m93'.trans m94).at' h1) _ _
  refine ifK_dec (fun hpos => ?_) (fun hz => ?_)
  · obtain ⟨j, rfl⟩ : ∃ j, i = j + 1 := ⟨i - 1, by omega⟩
    have ej : IntKind.i64.wrap (((j + 1 : Nat) : Int) - 1) = (j : Int) := by rw [wrap64 (by omega) (by omega)]; omega
    rw [ej]
    clear ej
    have hjX : j < B.length := by omega
    have hst := ins_step (x := x) (X := B) (i := j) (by omega)
    rw [hst] at x93
    have hP : (B.take j).length = j := by rw [List.length_take]; omega
    have a1 : at0 (B.take j ++ B[j] :: x :: B.drop (j + 1)) j = B[j] := at0_mid _ _ _ hP
    have a2 : at0 (B.take j ++ B[j] :: x :: B.drop (j + 1)) (j + 1) = x := at0_mid1 _ _ _ _ (by omega)
    refine x93.cellB (by omega) (x93.cellB (by omega) ?_)
    rw [a1, a2]
    refine (ahead_ok x B[j] w93 _ fun w94 m94 => ?_ : Ca _ _ _ _ _)
    refine ⟨_, rfl, ?_⟩
    have x94 := x93.no m94
    have m94' := m93'.trans m94
    refine ifK_dec (fun hlt => ?_) (fun hc => ?_)
    · intro w98 e0
      have m98 : Mod no w94 w98 := by subst e0; exact Mod.drew _
      clear e0
      have x98 := x94.no m98
      refine x98.cellB (by omega) (x98.cellB (by omega) ?_)
      rw [a1, a2]
      refine ⟨_, rfl, by omega, by omega, ?_⟩
      rw [Int.toNat_natCast]
      refine putAt x98 rfl (by omega) x rfl fun w113 m113 x113 => ?_
      refine ⟨_, rfl, by omega, by omega, ?_⟩
      rw [Int.toNat_natCast]
      refine putAt x113 rfl (by omega) B[j] rfl fun w120 m120 x120 => ?_
      have hsw : ((B.take j ++ B[j] :: x :: B.drop (j + 1)).set j x).set (j + 1) B[j] = B.take j ++ x :: B.drop j := by
        have := swap_mid (B.take j) B[j] x (B.drop (j + 1))
        rw [hP] at this
        rw [this, ← List.drop_eq_getElem_cons hjX]
      rw [hsw] at x120
      refine ⟨⟨j, rfl, by omega, x120, (m94'.trans m98).new (m113.trans m120) fun k hk => by cases hk; exact hgn, fun y hy => ?_⟩, by simp only; omega⟩
      rw [List.drop_eq_getElem_cons hjX] at hy
      rcases List.mem_cons.1 hy with rfl | hy
      · exact hlt
      · exact hgt y hy
    · have hmin : ∀ j' y, j' + 1 = j + 1 → B[j']? = some y → ¬ x < y := by
        intro j' y he hy
        obtain rfl : j' = j := by omega
        rw [List.getElem?_eq_getElem hjX] at hy
        cases hy
        exact hc
      exact ⟨done _ m94 hmin, fz _ m94, fin _ m94 hmin⟩
  · have hmin : ∀ j y, j + 1 = i → B[j]? = some y → ¬ x < y := fun j y he => by omega
    exact ⟨done _ (Mod.refl _ _) hmin, fz _ (Mod.refl _ _), fin _ (Mod.refl _ _) hmin⟩
end Go.Proofs.YtehhhkcemmfjpaaGreatDoor

/- Both tables say the same: what each step does to them. -/
namespace Go.Proofs.YtehhhkcemmfjpaaGreatDoor
open Go Go.Proofs.YtehhhkcemmfjpaaGreatDoor Go.Proofs.YtehhhkcemmfjpaaGreatDoor.St

theorem findX_iff {n : ByteArray} {D : List Exc} (hD : (D.map (·.n)).Nodup) (e : Exc) : findX n D = some e ↔ e ∈ D ∧ e.n = n := by
  constructor
  · intro h
    have h1 := List.find?_some h
    exact ⟨List.mem_of_find?_eq_some h, (eq_of_beq h1).symm⟩
  · rintro ⟨hm, rfl⟩
    induction D with
    | nil => cases hm
    | cons y D ih =>
      rw [List.map_cons, List.nodup_cons] at hD
      rw [findX, List.find?_cons]
      rcases List.mem_cons.1 hm with rfl | hm
      · rw [beq_self_eq_true]
      · have : (e.n == y.n) = false := beq_false_of_ne fun h => hD.1 (h ▸ List.mem_map_of_mem hm)
        rw [this]
        exact ih hD.2 hm
theorem findX_perm {n : ByteArray} {D X : List Exc} (hD : (D.map (·.n)).Nodup) (hp : X.Perm D) : findX n X = findX n D := by
  apply Option.ext
  intro e
  rw [findX_iff hD, findX_iff ((hp.map (·.n)).nodup_iff.2 hD), hp.mem_iff]
theorem hx_iff {n : ByteArray} {D : List Exc} : hx n D = true ↔ ∃ e ∈ D, e.n = n := by
  rw [hx, findX, List.find?_isSome]
  exact ⟨fun ⟨e, h1, h2⟩ => ⟨e, h1, (eq_of_beq h2).symm⟩, fun ⟨e, h1, h2⟩ => ⟨e, h1, by rw [h2]; exact beq_self_eq_true _⟩⟩

/-- The reference's rows are the table's, sorted. -/
structure Sy (D X : List Exc) (B C : List Bnd) : Prop where
  xp : X.Perm D
  bp : C.Perm B
  xs : X.Pairwise (· < ·)
  bs : C.Pairwise (· < ·)
theorem sy_nil : Sy [] [] [] [] := ⟨.refl _, .refl _, .nil, .nil⟩
theorem exc_tr (a b c : Exc) (h1 : a < b) (h2 : b < c) : a < c := str_tr h1 h2
theorem exc_le (a b : Exc) (h : a < b) : a ≤ b := str_asym h
theorem bnd_le (a b : Bnd) (h : a < b) : a ≤ b := fun h' => bnd_irr a (bnd_tr h h')
theorem nodup_eq {D : List Exc} (hD : (D.map (·.n)).Nodup) {a b : Exc} (ha : a ∈ D) (hb : b ∈ D) (h : a.n = b.n) : a = b := by
  have h1 := (findX_iff hD a).2 ⟨ha, h⟩
  have h2 := (findX_iff hD b).2 ⟨hb, rfl⟩
  rw [h1] at h2
  injection h2
section
variable {D X : List Exc} {B C : List Bnd} (h : Sy D X B C)
include h
theorem Sy.xlen : X.length = D.length := h.xp.length_eq
theorem Sy.blen : C.length = B.length := h.bp.length_eq
theorem Sy.find (hD : (D.map (·.n)).Nodup) (n : ByteArray) : findX n X = findX n D := findX_perm hD h.xp
theorem Sy.exs (hD : (D.map (·.n)).Nodup) {xs : List Exc} (hp : xs.Perm D) (hs : Srt xs 0 xs.length) : xs = X :=
  rising_unique exc_le (fun a b ha hb hab hba => nodup_eq ((h.xp.map (·.n)).nodup_iff.2 hD) ha hb (str_total hba hab)) (hp.trans h.xp.symm) hs h.xs
theorem Sy.bnds {bs : List Bnd} (hp : bs.Perm B) (hs : Srt bs 0 bs.length) : bs = C :=
  rising_unique bnd_le (fun _ _ _ _ hab hba => bnd_total hba hab) (hp.trans h.bp.symm) hs h.bs
theorem Sy.filt (p : Exc → Bool) (q : Bnd → Bool) : Sy (D.filter p) (X.filter p) (B.filter q) (C.filter q) := ⟨h.xp.filter p, h.bp.filter q, h.xs.filter p, h.bs.filter q⟩
theorem Sy.filtB (q : Bnd → Bool) : Sy D X (B.filter q) (C.filter q) := ⟨h.xp, h.bp.filter q, h.xs, h.bs.filter q⟩
theorem Sy.insX {x : Exc} {X' : List Exc} (hn : findX x.n D = none) (hi : Inb x X X') : Sy (D ++ [x]) X' B C := by
  refine ⟨hi.perm.trans (h.xp.append_right _), h.bp, hi.rises exc_tr h.xs fun y hy => ?_, h.bs⟩
  have hy' : y.n ≠ x.n := fun e => findX_none.1 hn (e ▸ List.mem_map_of_mem (h.xp.mem_iff.1 hy))
  by_cases h1 : x.n < y.n
  · exact .inl h1
  · exact .inr (Classical.byContradiction fun h2 => hy' (str_total h2 h1))
theorem Sy.insB {b : Bnd} {C' : List Bnd} (hn : b ∉ B) (hi : Inb b C C') : Sy D X (B ++ [b]) C' := by
  refine ⟨h.xp, hi.perm.trans (h.bp.append_right _), h.xs, hi.rises (fun _ _ _ => bnd_tr) h.bs fun y hy => ?_⟩
  have hy' : y ≠ b := fun e => hn (e ▸ h.bp.mem_iff.1 hy)
  by_cases h1 : b < y
  · exact .inl h1
  · exact .inr (Classical.byContradiction fun h2 => hy' (bnd_total h2 h1))
end

/-- What is so of each table that calls made. -/
structure Ok7 (D : List Exc) (B : List Bnd) : Prop where
  xl : D.length ≤ 8
  bl : B.length ≤ 32
  good : ∀ e ∈ D, goodX e = true
  from_ : ∀ b ∈ B, hx b.x D = true
theorem ok7_nil : Ok7 [] [] := ⟨by simp, by simp, by simp, by simp⟩
section
variable {D : List Exc} {B : List Bnd} (h : Ok7 D B)
include h
theorem Ok7.filtB (q : Bnd → Bool) : Ok7 D (B.filter q) := ⟨h.xl, Nat.le_trans (List.length_filter_le _ _) h.bl, h.good, fun b hb => h.from_ b (List.mem_filter.1 hb).1⟩
theorem Ok7.decl (x : Exc) : Ok7 (declD x D) B := by
  unfold declD
  split
  · rename_i hc
    simp only [Bool.and_eq_true, decide_eq_true_eq] at hc
    refine ⟨by simp; omega, h.bl, fun e he => ?_, fun b hb => ?_⟩
    · rcases List.mem_append.1 he with he | he
      · exact h.good e he
      · rw [List.mem_singleton.1 he]; exact hc.1.1
    · obtain ⟨e, h1, h2⟩ := hx_iff.1 (h.from_ b hb)
      exact hx_iff.2 ⟨e, List.mem_append_left _ h1, h2⟩
  · exact h
theorem Ok7.drop (n : ByteArray) : Ok7 (D.filter fun e => !(e.n == n)) (B.filter fun b => !decide (b.x = n)) := by
  refine ⟨Nat.le_trans (List.length_filter_le _ _) h.xl, Nat.le_trans (List.length_filter_le _ _) h.bl, fun e he => h.good e (List.mem_filter.1 he).1, fun b hb => ?_⟩
  obtain ⟨hb, hn⟩ := List.mem_filter.1 hb
  obtain ⟨e, h1, h2⟩ := hx_iff.1 (h.from_ b hb)
  refine hx_iff.2 ⟨e, List.mem_filter.2 ⟨h1, ?_⟩, h2⟩
  rw [h2]
  simpa using hn
theorem Ok7.bind (b : Bnd) : Ok7 D (bindB b D B) := by
  unfold bindB
  split
  · rename_i hc
    refine ⟨h.xl, by simp; omega, h.good, fun y hy => ?_⟩
    rcases List.mem_append.1 hy with hy | hy
    · exact h.from_ y hy
    · rw [List.mem_singleton.1 hy]; exact hc.2.1
  · exact h
theorem Ok7.kind {n : ByteArray} (hn : hx n D = true) : (fx n D).k = 1 ∨ (fx n D).k = 2 ∨ (fx n D).k = 3 := by
  obtain ⟨e, he⟩ := Option.isSome_iff_exists.1 hn
  have hm := List.mem_of_find?_eq_some he
  have hg := h.good e hm
  rw [fx, he]
  simp only [Option.getD_some]
  rw [goodX, Bool.and_eq_true] at hg
  simpa [or_assoc] using hg.2
end
end Go.Proofs.YtehhhkcemmfjpaaGreatDoor

/- Arguments that are structs, opened field by field. It names no program. -/
namespace Go.Proofs.YtehhhkcemmfjpaaGreatDoor.St
open Go Go.ChangeShapes Go.WideShapes Go.Deep

section
variable {H : Type} {enc : TypeId × Value → H} {P : Program} {w : World} {base : Nat} {spare : Nat → Bool} {held : Bool}
theorem open_agg {r : Reach} {b0 : Nat} {t : TypeId} {fs : Array Field} {v : Value} {d : DataW H} {p : List MemPlace} (hs : P.underlying t = some (.struct fs)) (hone : oneCellFields P fs = true) (hC : P.cellsOf t = fs.size)
    (hv : Value.okWide P w r b0 t v) (h : DataW.Trod enc P w base spare held t v d p) :
    ∃ (cs : Array Value) (ys : List (DataW H × List MemPlace)) (n : Nat), v = .agg cs ∧ cs.size = fs.size ∧ d = .agg (ys.map (·.1)) ∧ ys.length = fs.size ∧
      ∀ (j : Nat) (f : Field), fs[j]? = some f → ∃ c y, cs[j]? = some c ∧ ys[j]? = some y ∧ DataW.trod enc P w base spare held n f.type [c] = some y := by
  obtain ⟨cs, rfl, hsz⟩ := okWide_struct hs hv
  obtain ⟨fuel, hf⟩ := h
  obtain ⟨ys, n, _, hy, _, hlen, hg⟩ := DataW.trod_struct hs hf
  simp only [Prod.mk.injEq] at hy
  refine ⟨cs, ys, n, rfl, hsz.trans hC, hy.1, hlen, fun j f hj => ?_⟩
  obtain ⟨ho, hk⟩ := hone_of hone j f hj
  have hjl : j < fs.size := (Array.getElem?_eq_some_iff.1 hj).1
  have hjc : j < cs.size := by rw [hsz, hC]; exact hjl
  have hg := hg j f hj
  rw [ho, hk] at hg
  have hone' : ((Value.agg cs).cells.toList.drop j).take 1 = [cs[j]] := by
    show (cs.toList.drop j).take 1 = _
    rw [List.drop_eq_getElem_cons (by simpa using hjc)]
    simp
  rw [hone'] at hg
  have hys : ys[j]? = some (ys[j]'(by omega)) := List.getElem?_eq_getElem (by omega)
  exact ⟨cs[j], _, Array.getElem?_eq_getElem hjc, hys, hg.trans hys⟩
theorem agg_weights {t : TypeId} {fs : Array Field} {ys : List (DataW H × List MemPlace)} (hs : P.underlying t = some (.struct fs)) {j : Nat} {f : Field} (hj : fs[j]? = some f) {y : DataW H × List MemPlace} (hy : ys[j]? = some y)
    {B : Nat} (h : ∀ n ∈ (DataW.agg (ys.map (·.1))).weights P t, n ≤ B) : ∀ n ∈ y.1.weights P f.type, n ≤ B := by
  intro n hn
  refine h n ?_
  rw [DataW.weights, hs]
  refine DataW.weights_mem_each (j := j) (t := f.type) (d := y.1) ?_ ?_ n hn
  · rw [List.getElem?_map, Array.getElem?_toList, hj]; rfl
  · rw [List.getElem?_map, hy]; rfl
theorem slice_weights {t e : TypeId} {elems spare' : List (DataW H)} (hs : P.underlying t = some (.slice e)) {x : DataW H} (hx : x ∈ elems ++ spare') {B : Nat} (h : ∀ n ∈ (DataW.slice elems spare').weights P t, n ≤ B) : ∀ n ∈ x.weights P e, n ≤ B := by
  have all : ∀ (l : List (DataW H)), x ∈ l → ∀ n ∈ x.weights P e, n ∈ DataW.weightsAll P e l := by
    intro l
    induction l with
    | nil => intro h; cases h
    | cons y r ih =>
      intro h n hn
      rw [DataW.weightsAll, List.mem_append]
      rcases List.mem_cons.1 h with rfl | h
      · exact .inl hn
      · exact .inr (ih h n hn)
  intro n hn
  refine h n ?_
  rw [DataW.weights, hs]
  rcases List.mem_append.1 hx with hx | hx
  · exact List.mem_cons_of_mem _ (List.mem_append_left _ (all _ hx n hn))
  · exact List.mem_cons_of_mem _ (List.mem_append_right _ (all _ hx n hn))
theorem slice_size {t e : TypeId} {elems spare' : List (DataW H)} (hs : P.underlying t = some (.slice e)) {B : Nat} (h : ∀ n ∈ (DataW.slice elems spare').weights P t, n ≤ B) : (elems.length + spare'.length) * P.bytesOf e ≤ B := by
  refine h _ ?_
  rw [DataW.weights, hs]
  exact List.mem_cons_self
end
end Go.Proofs.YtehhhkcemmfjpaaGreatDoor.St

/- Arguments that are rows of structs: they are read, never written. It names no program. -/
namespace Go.Proofs.YtehhhkcemmfjpaaGreatDoor.St
open Go Go.ChangeShapes Go.WideShapes Go.Deep

/-- An argument's row. -/
structure ArgRow {α : Type} (L : Lay α) (w : World) (a : Option Addr) (l c : Nat) (xs : List α) : Prop where
  len : xs.length = l
  lc : l ≤ c
  cm : c ≤ 9223372036854775807
  blk : ∀ ad, a = some ad → 0 < l → ad.block < w.heap.size
  get : ∀ (i : Nat) (h : i < xs.length), ∃ ad, a = some ad ∧ ∀ j v, (L.cs xs[i])[j]? = some v → w.cell? (Addr.add (Addr.add ad (i * L.s)) j) = some v
theorem cell_no {w w' : World} (h : Mod no w w') {ad : Addr} (hb : ad.block < w.heap.size) : w'.cell? ad = w.cell? ad := by
  have := h.keep ad.block hb id
  unfold World.cell?
  rw [this]
theorem add_block (ad : Addr) (n : Nat) : (Addr.add ad n).block = ad.block := by unfold Addr.add; split <;> rfl
theorem ArgRow.no {α : Type} {L : Lay α} {w w' : World} {a : Option Addr} {l c : Nat} {xs : List α} (h : ArgRow L w a l c xs) (hm : Mod no w w') : ArgRow L w' a l c xs := by
  refine ⟨h.len, h.lc, h.cm, fun ad had hl => Nat.lt_of_lt_of_le (h.blk ad had hl) hm.size, fun i hi => ?_⟩
  obtain ⟨ad, had, hg⟩ := h.get i hi
  refine ⟨ad, had, fun j v hj => ?_⟩
  rw [cell_no hm (by rw [add_block, add_block]; exact h.blk ad had (by have := h.len; omega))]
  exact hg j v hj
theorem cell_lt {w : World} {ad : Addr} {v : Value} (h : w.cell? ad = some v) : ad.block < w.heap.size := by
  unfold World.cell? at h
  cases hh : w.heap[ad.block]? with
  | none => rw [hh] at h; cases h
  | some o => exact lt_of_heap hh

section
variable {H : Type} {enc : TypeId × Value → H} {P : Program} {w : World} {base : Nat} {spare : Nat → Bool} {held : Bool}
theorem open_slice_fields {t e : TypeId} {fs : Array Field} {fuel : Nat} {cs : List Value} {x : DataW H × List MemPlace} (ht : P.underlying t = some (.slice e)) (he : P.underlying e = some (.struct fs))
    (hone : oneCellFields P fs = true) (hC : P.cellsOf e = fs.size) (h : DataW.trod enc P w base spare held fuel t cs = some x) :
    (cs = [.slice none 0 0] ∧ x = (.nil, [])) ∨
    ∃ (a : Addr) (len cap m : Nat) (D : Nat → DataW H) (Pl : Nat → List MemPlace), cs = [.slice (some a) len cap] ∧ base ≤ a.block ∧ len ≤ cap ∧ cap ≤ maxLen ∧ m = (if spare a.block then cap else len) ∧
      x = (.slice ((List.range len).map D) ((List.range (m - len)).map fun j => D (len + j)), MemPlace.row a (m * fs.size) ++ (List.range m).flatMap Pl) ∧
      ∀ i, i < m → ∃ (ys : List (DataW H × List MemPlace)) (n : Nat), D i = .agg (ys.map (·.1)) ∧ Pl i = ys.flatMap (·.2) ∧ ys.length = fs.size ∧
        ∀ (j : Nat) (f : Field), fs[j]? = some f → ∃ (v : Value) (y : DataW H × List MemPlace), w.cell? (a.add (i * fs.size + j)) = some v ∧ ys[j]? = some y ∧ DataW.trod enc P w base spare held n f.type [v] = some y := by
  rcases open_slice ht h with h0 | ⟨a, len, cap, m, n, D, Pl, hcs, hb, hl, hm, hmm, hx, hi⟩
  · exact .inl h0
  · refine .inr ⟨a, len, cap, m, D, Pl, hcs, hb, hl, hm, hmm, by rw [hC] at hx; exact hx, fun i him => ?_⟩
    obtain ⟨cs', hc, ht'⟩ := hi i him
    rw [hC] at hc
    obtain ⟨ys, n', hn', hy, hlen, hyl, hf⟩ := DataW.trod_struct he ht'
    obtain ⟨_, hcl, hat⟩ := World.cells?_some hc
    simp only [Prod.mk.injEq] at hy
    refine ⟨ys, n', hy.1, hy.2, hyl, fun j f hj => ?_⟩
    obtain ⟨ho, hk⟩ := hone_of hone j f hj
    have hjl : j < fs.size := (Array.getElem?_eq_some_iff.1 hj).1
    have hcell := hat j hjl
    have hv : cs'[j]? = some (cs'[j]'(by omega)) := List.getElem?_eq_getElem (by omega)
    have h1 := hf j f hj
    rw [ho, hk] at h1
    have hone' : (cs'.drop j).take 1 = [cs'[j]'(by omega)] := by
      rw [List.drop_eq_getElem_cons (by omega)]
      rfl
    rw [hone'] at h1
    have hys : ys[j]? = some (ys[j]'(by omega)) := List.getElem?_eq_getElem (by omega)
    refine ⟨_, _, ?_, hys, h1.trans hys⟩
    rw [← Go.Deep.add_add, hcell, hv]
end

/-- An argument of a slice type whose elements are such structs: each is read as Q says. -/
theorem args_row {H : Type} {enc : TypeId × Value → H} {P : Program} {w : World} {v : Value} {d : DataW H} {p : List MemPlace} {base : Nat} {r : Reach} {b0 : Nat} {t e : TypeId} {fs : Array Field} {α : Type} [Inhabited α] {L : Lay α} (Q : α → Prop) {B : Nat}
    (ht : P.underlying t = some (.slice e)) (he : P.underlying e = some (.struct fs)) (hone : oneCellFields P fs = true) (hC : P.cellsOf e = fs.size) (hs : L.s = fs.size)
    (hv : Value.okWide P w r b0 t v) (h : DataW.Trod enc P w base (fun _ => true) true t v d p) (hz : ∀ n ∈ d.weights P t, n ≤ B)
    (hx : ∀ (ys : List (DataW H × List MemPlace)) (n : Nat) (V : Nat → Value), (∀ (j : Nat) (f : Field), fs[j]? = some f → ∃ y, ys[j]? = some y ∧ DataW.trod enc P w base (fun _ => true) true n f.type [V j] = some y ∧ ∀ m ∈ y.1.weights P f.type, m ≤ B) →
      ∃ x : α, (∀ j u, (L.cs x)[j]? = some u → V j = u) ∧ Q x) :
    ∃ a l c xs, v = .slice a l c ∧ ArgRow L w a l c xs ∧ (∀ x ∈ xs, Q x) ∧ c * P.bytesOf e ≤ B := by
  obtain ⟨a, l, c, rfl⟩ := okWide_slice ht hv
  obtain ⟨fuel, hf⟩ := h
  rcases open_slice_fields ht he hone hC hf with ⟨hcs, _⟩ | ⟨ad, len, cap, m, D, Pl, hcs, _, hl, hm, hmm, hxx, hi⟩
  · simp only [Value.cells, List.cons.injEq, and_true] at hcs
    injection hcs with h1 h2 h3
    subst h1; subst h2; subst h3
    exact ⟨none, 0, 0, [], rfl, ⟨rfl, Nat.le_refl _, by decide, fun ad h => (by cases h), fun i h => (by simp at h)⟩, fun x h => (by cases h), by rw [Nat.zero_mul]; exact Nat.zero_le _⟩
  · simp only [Value.cells, List.cons.injEq, and_true] at hcs
    injection hcs with h1 h2 h3
    subst h1; subst h2; subst h3
    have hmc : m = c := by rw [hmm]; rfl
    have hd : d = .slice ((List.range l).map D) ((List.range (m - l)).map fun j => D (l + j)) := congrArg Prod.fst hxx
    have hone : ∀ i, i < l → ∃ x : α, (∀ j u, (L.cs x)[j]? = some u → w.cell? (Addr.add ad (i * L.s + j)) = some u) ∧ Q x := by
      intro i hil
      obtain ⟨ys, n, hD, _, _, hg⟩ := hi i (by omega)
      have hDz : ∀ n ∈ (D i).weights P e, n ≤ B := by
        rw [hd] at hz
        exact slice_weights ht (List.mem_append_left _ (List.mem_map.2 ⟨i, List.mem_range.2 hil, rfl⟩)) hz
      have hch : ∀ j, ∃ v : Value, ∀ f, fs[j]? = some f → w.cell? (ad.add (i * fs.size + j)) = some v ∧ ∃ y, ys[j]? = some y ∧ DataW.trod enc P w base (fun _ => true) true n f.type [v] = some y := by
        intro j
        cases hj : fs[j]? with
        | none => exact ⟨.tuple #[], fun f hf => by cases hf⟩
        | some f =>
          obtain ⟨v, y, q1, q2, q3⟩ := hg j f hj
          exact ⟨v, fun f' hf' => by cases hf'; exact ⟨q1, y, q2, q3⟩⟩
      obtain ⟨V, hV⟩ := Classical.axiomOfChoice hch
      obtain ⟨x, hx1, hx2⟩ := hx ys n V fun j f hj => by
        obtain ⟨_, y, q2, q3⟩ := hV j f hj
        rw [hD] at hDz
        exact ⟨y, q2, q3, agg_weights he hj q2 hDz⟩
      refine ⟨x, fun j u hj => ?_, hx2⟩
      have hjs : j < fs.size := by
        have := (List.getElem?_eq_some_iff.1 hj).1
        rw [L.len] at this
        omega
      have := (hV j _ (Array.getElem?_eq_getElem hjs)).1
      rw [hs, this, hx1 j u hj]
    have hall : ∀ i, ∃ x : α, i < l → (∀ j u, (L.cs x)[j]? = some u → w.cell? (Addr.add ad (i * L.s + j)) = some u) ∧ Q x := by
      intro i
      by_cases h : i < l
      · obtain ⟨x, hx⟩ := hone i h
        exact ⟨x, fun _ => hx⟩
      · exact ⟨default, fun h' => absurd h' h⟩
    obtain ⟨f, hf⟩ := Classical.axiomOfChoice hall
    refine ⟨some ad, l, c, (List.range l).map f, rfl, ⟨by simp, hl, by simpa [maxLen] using hm, fun ad' had hl0 => ?_, fun i h => ?_⟩, fun x hx => ?_, ?_⟩
    · cases had
      have hp := (hf 0 hl0).1 0 ((L.cs (f 0))[0]'(by rw [L.len]; exact L.pos)) (List.getElem?_eq_getElem _)
      have := cell_lt hp
      rwa [add_block] at this
    · refine ⟨ad, rfl, fun j v hj => ?_⟩
      rw [List.getElem_map, List.getElem_range] at hj
      have := (hf i (by simpa using h)).1 j v hj
      rwa [← Go.Deep.add_add] at this
    · obtain ⟨i, hi, rfl⟩ := List.mem_map.1 hx
      exact (hf i (List.mem_range.1 hi)).2
    · rw [hd] at hz
      have := slice_size ht hz
      rw [List.length_map, List.length_map, List.length_range, List.length_range, show l + (m - l) = c by omega] at this
      exact this
end Go.Proofs.YtehhhkcemmfjpaaGreatDoor.St

/- Arguments, whatever they are made of, told by their leaves. It names no program. -/
namespace Go.Proofs.YtehhhkcemmfjpaaGreatDoor.St
open Go Go.ChangeShapes Go.WideShapes Go.Deep

/-- These cells are a value of type t, as far as n steps go. -/
def Leaf (P : Program) (w : World) (B : Nat) : Nat → TypeId → List Value → Prop
  | 0, _, _ => True
  | n + 1, t, cs => match P.underlying t with
    | some (.struct fs) => cs.length = P.cellsOf t ∧ ∀ (i : Nat) (f : Field), fs[i]? = some f → Leaf P w B n f.type ((cs.drop f.offset).take (P.cellsOf f.type))
    | some (.int k) => ∃ x, cs = [.int k x] ∧ (Lit.int k x).wf = true
    | some .string => ∃ s : ByteArray, cs = [.string s] ∧ s.size ≤ B
    | some .bool => ∃ b, cs = [.bool b]
    | some (.slice e) => ∃ (a : Option Addr) (l c : Nat), cs = [.slice a l c] ∧ l ≤ c ∧ c ≤ 9223372036854775807 ∧ c * P.bytesOf e ≤ B ∧
        ∀ i, i < l → ∃ ad, a = some ad ∧ ∃ cs', cs'.length = P.cellsOf e ∧ (∀ j v, cs'[j]? = some v → w.cell? (Addr.add (Addr.add ad (i * P.cellsOf e)) j) = some v) ∧ Leaf P w B n e cs'
    | _ => True
section
variable {H : Type} {enc : TypeId × Value → H} {P : Program} {w : World} {base : Nat} {B : Nat}
theorem leaf_of : ∀ (m : Nat) {t : TypeId} {cs : List Value} {x : DataW H × List MemPlace} {fuel : Nat}, DataW.trod enc P w base (fun _ => true) true fuel t cs = some x → (∀ n ∈ x.1.weights P t, n ≤ B) → Leaf P w B m t cs
  | 0, _, _, _, _, _, _ => trivial
  | m + 1, t, cs, x, fuel, h, hz => by
    unfold Leaf
    split
    · rename_i fs ht
      obtain ⟨ys, n, _, rfl, hl, hlen, hf⟩ := DataW.trod_struct ht h
      refine ⟨hl, fun i f hi => ?_⟩
      have h1 := hf i f hi
      have hil : i < fs.size := (Array.getElem?_eq_some_iff.1 hi).1
      have hys : ys[i]? = some (ys[i]'(by omega)) := List.getElem?_eq_getElem (by omega)
      rw [hys] at h1
      exact leaf_of m h1 (agg_weights ht hi hys hz)
    · rename_i k ht
      obtain ⟨n, h1, _, h2⟩ := DataW.trod_int ht h
      exact ⟨n, h1, h2⟩
    · rename_i ht
      obtain ⟨s, h1, rfl, _⟩ := DataW.trod_string ht h
      exact ⟨s, h1, hz _ (by simp [DataW.weights])⟩
    · rename_i ht
      obtain ⟨b, h1, _⟩ := DataW.trod_bool ht h
      exact ⟨b, h1⟩
    · rename_i e ht
      rcases DataW.trod_slice ht h with ⟨h1, _⟩ | ⟨a, len, cap, elems, rest, n, _, h1, rfl, _, hl, hm, hel, hget, hsp, _⟩
      · exact ⟨none, 0, 0, h1, Nat.le_refl _, by decide, by rw [Nat.zero_mul]; exact Nat.zero_le _, fun i hi => by omega⟩
      · refine ⟨some a, len, cap, h1, hl, by simpa [maxLen] using hm, ?_, fun i hi => ⟨a, rfl, ?_⟩⟩
        · have := slice_size ht hz
          rw [List.length_map, List.length_map, hel, (hsp rfl).1, show len + (cap - len) = cap by omega] at this
          exact this
        · have h2 := hget i hi
          have hys : elems[i]? = some (elems[i]'(by omega)) := List.getElem?_eq_getElem (by omega)
          rw [hys] at h2
          obtain ⟨cs', h3, h4⟩ := Option.bind_eq_some_iff.1 h2
          obtain ⟨_, hcl, hat⟩ := World.cells?_some h3
          refine ⟨cs', hcl, fun j v hj => ?_, leaf_of m h4 ?_⟩
          · have hjl : j < P.cellsOf e := by have := (List.getElem?_eq_some_iff.1 hj).1; omega
            rw [hat j hjl, hj]
          · exact slice_weights ht (List.mem_append_left _ (List.mem_map.2 ⟨_, List.getElem_mem (by omega), rfl⟩)) hz
    · trivial
/-- A row whose elements are told by their leaves. -/
theorem leaf_row {α : Type} [Inhabited α] {L : Lay α} (Q : α → Prop) {e : TypeId} {a : Option Addr} {l c n : Nat} (hs : L.s = P.cellsOf e) (hx : ∀ cs, cs.length = L.s → Leaf P w B n e cs → ∃ x, L.cs x = cs ∧ Q x) (hl : l ≤ c) (hc : c ≤ 9223372036854775807)
    (h : ∀ i, i < l → ∃ ad, a = some ad ∧ ∃ cs', cs'.length = P.cellsOf e ∧ (∀ j v, cs'[j]? = some v → w.cell? (Addr.add (Addr.add ad (i * P.cellsOf e)) j) = some v) ∧ Leaf P w B n e cs') : ∃ xs, ArgRow L w a l c xs ∧ ∀ x ∈ xs, Q x := by
  have hall : ∀ i, ∃ x : α, i < l → (∃ ad, a = some ad ∧ ∀ j u, (L.cs x)[j]? = some u → w.cell? (Addr.add (Addr.add ad (i * L.s)) j) = some u) ∧ Q x := by
    intro i
    by_cases hi : i < l
    · obtain ⟨ad, had, cs', h1, h2, h3⟩ := h i hi
      obtain ⟨x, rfl, hq⟩ := hx cs' (by rw [h1, hs]) h3
      exact ⟨x, fun _ => ⟨⟨ad, had, fun j u hj => by rw [hs]; exact h2 j u hj⟩, hq⟩⟩
    · exact ⟨default, fun h' => absurd h' hi⟩
  obtain ⟨f, hf⟩ := Classical.axiomOfChoice hall
  refine ⟨(List.range l).map f, ⟨by simp, hl, hc, fun ad had hl0 => ?_, fun i hi => ?_⟩, fun x hx => ?_⟩
  · obtain ⟨⟨ad', had', hg⟩, _⟩ := hf 0 hl0
    rw [had] at had'
    cases had'
    have := cell_lt (hg 0 ((L.cs (f 0))[0]'(by rw [L.len]; exact L.pos)) (List.getElem?_eq_getElem _))
    rwa [add_block, add_block] at this
  · rw [List.length_map, List.length_range] at hi
    obtain ⟨⟨ad, had, hg⟩, _⟩ := hf i hi
    refine ⟨ad, had, fun j v hj => ?_⟩
    rw [List.getElem_map, List.getElem_range] at hj
    exact hg j v hj
  · obtain ⟨i, hi, rfl⟩ := List.mem_map.1 hx
    exact (hf i (List.mem_range.1 hi)).2
end
end Go.Proofs.YtehhhkcemmfjpaaGreatDoor.St

/- The laws of chapter 07: an act on both tables; a list of acts that is light; lives. -/
namespace Go.Proofs.YtehhhkcemmfjpaaGreatDoor
open Go Go.ChangeShapes Go.WideShapes Go.Deep Go.Proofs.YtehhhkcemmfjpaaGreatDoor Go.Proofs.YtehhhkcemmfjpaaGreatDoor.St

theorem cl3 {w : World} {k : Nat} {cs : Array Value} {e : TypeId} {fz : Nat × Nat} (h : w.heap[k]? = some (.cells cs e fz)) (i j l : Nat) : w.cell? (Addr.add (Addr.add (Addr.add ⟨k, 0, none⟩ i) j) l) = cs[i + j + l]? := by
  rw [add_lit, add_lit, add_lit, cl h, Nat.zero_add]
structure Ac where
  k : Int
  e : Exc
  b : Bnd
instance acInh : Inhabited Ac := ⟨⟨0, default, default⟩⟩
def acL : Lay Ac where
  cs x := [.int .i64 x.k, .string x.e.n, .int .i64 x.e.k, .bool x.e.f, .string x.b.x, .string x.b.q, .string x.b.p]
  s := 7
  pos := by decide
  len _ := rfl
  one x v hv := by simp at hv; rcases hv with rfl | rfl | rfl | rfl | rfl | rfl | rfl <;> rfl

/-! ### Both tables at once -/
structure TB7 (w : World) (t m1 m2 r : Nat) (D X : List Exc) (B C : List Bnd) : Prop where
  tb : Tbl w t m1 m2 D B
  rt : RTb w r X C
  sy : Sy D X B C
  ok : Ok7 D B
theorem TB7.no {w w' : World} {t m1 m2 r : Nat} {D X : List Exc} {B C : List Bnd} (h : TB7 w t m1 m2 r D X B C) (hm : Mod no w w') : TB7 w' t m1 m2 r D X B C := ⟨h.tb.no hm, h.rt.no hm, h.sy, h.ok⟩
/-- A reference's table stays as it is where only maps change. -/
theorem RTb.modM {S : Nat → Prop} {w w' : World} {r : Nat} {X : List Exc} {C : List Bnd} (h : RTb w r X C) (hm : Mod S w w') (hS : ∀ k, S k → ∃ es c, w.heap[k]? = some (.map es c)) : RTb w' r X C := by
  obtain ⟨a, l, c, a', l', c', h1, h2, h3, h4, h5⟩ := h.ex
  have hrow : ∀ {α : Type} {L : Lay α} {e : TypeId} {a : Option Addr} {l c : Nat} {xs : List α}, Row L e w a l c xs → ∀ k, rowB a k → ¬ S k := by
    intro α L e a l c xs hr k hk hs
    rcases hr.block with ⟨rfl, _⟩ | ⟨g, cur, rfl, hg, _⟩
    · cases hk
    · have e1 := rowB_eq hk
      obtain ⟨es, cc, he⟩ := hS k hs
      rw [e1, he] at hg
      cases hg
  exact ⟨a, l, c, a', l', c', hm.at h1 (fun hs => by obtain ⟨es, cc, he⟩ := hS r hs; rw [he] at h1; cases h1), Row.mod h2 hm (hrow h2), Row.mod h3 hm (hrow h3), h4, h5⟩
theorem Tbl.maps {w : World} {t m1 m2 : Nat} {D : List Exc} {B : List Bnd} (h : Tbl w t m1 m2 D B) : ∀ k, of2 m1 m2 k → ∃ es c, w.heap[k]? = some (.map es c) := by
  rintro k (rfl | rfl)
  · obtain ⟨es, c, he, _⟩ := h.x; exact ⟨es, c, he⟩
  · obtain ⟨es, c, he, _⟩ := h.b; exact ⟨es, c, he⟩
/-- A table stays as it is where only a reference's changes. -/
theorem Tbl.modR {w w' : World} {t m1 m2 r : Nat} {D X : List Exc} {B C : List Bnd} (h : Tbl w t m1 m2 D B) (hr : RTb w r X C) (hm : Mod (on r) w w') : Tbl w' t m1 m2 D B := by
  obtain ⟨a, l, c, a', l', c', h1, _⟩ := hr.ex
  refine h.mod hm ?_ ?_ ?_
  · intro hS
    have hS : t = r := hS
    have := h.cell
    rw [hS, h1] at this
    cases this
  · intro hS
    have hS : m1 = r := hS
    obtain ⟨es, c, he, _⟩ := h.x
    rw [hS, h1] at he
    cases he
  · intro hS
    have hS : m2 = r := hS
    obtain ⟨es, c, he, _⟩ := h.b
    rw [hS, h1] at he
    cases he
abbrev of3 (m1 m2 r : Nat) : Nat → Prop := fun k => k = m1 ∨ k = m2 ∨ k = r

theorem mayA_perm {D X : List Exc} {B C : List Bnd} (hD : (D.map (·.n)).Nodup) (h : Sy D X B C) (n : ByteArray) : fx n X = fx n D ∧ hx n X = hx n D := by
  rw [fx, fx, hx, hx, h.find hD]; exact ⟨rfl, rfl⟩
theorem declR_perm {D X : List Exc} {B C : List Bnd} (hD : (D.map (·.n)).Nodup) (h : Sy D X B C) (x : Exc) : declR x X = declR x D := by
  rw [declR, declR, h.find hD, h.xlen]
theorem bindR_perm {D X : List Exc} {B C : List Bnd} (hD : (D.map (·.n)).Nodup) (h : Sy D X B C) (b : Bnd) : bindR b X C = bindR b D B := by
  have hb : (b ∈ C) = (b ∈ B) := propext (h.bp.mem_iff)
  obtain ⟨h1, h2⟩ := mayA_perm hD h b.x
  rw [bindR, bindR, h1, h2, h.blen]
  simp only [hb]
theorem decl_sy {D X X' : List Exc} {B C : List Bnd} (hD : (D.map (·.n)).Nodup) (h : Sy D X B C) (x : Exc) (hx : AddedX x X X') : Sy (declD x D) X' B C := by
  rw [AddedX, h.find hD, h.xlen] at hx
  rw [declD]
  split
  · rename_i hc
    rw [if_pos hc] at hx
    simp only [Bool.and_eq_true] at hc
    exact h.insX (by simpa using hc.1.2) hx
  · rename_i hc
    rw [if_neg hc] at hx
    rw [hx]; exact h
theorem bind_sy {D X : List Exc} {B C C' : List Bnd} (hD : (D.map (·.n)).Nodup) (h : Sy D X B C) (b : Bnd) (hb : AddedB b X C C') : Sy D X (bindB b D B) C' := by
  have he : (b ∈ C) = (b ∈ B) := propext h.bp.mem_iff
  obtain ⟨h1, h2⟩ := mayA_perm hD h b.x
  rw [AddedB, h1, h2, h.blen] at hb
  simp only [he] at hb
  rw [bindB]
  split
  · rename_i hc
    rw [if_pos hc] at hb
    exact h.insB hc.2.2.2.1 hb
  · rename_i hc
    rw [if_neg hc] at hb
    rw [hb]; exact h

section
variable {w : World} {t m1 m2 r : Nat} {D X : List Exc} {B C : List Bnd} (h : TB7 w t m1 m2 r D X B C)
include h
theorem TB7.bl : B.length < 1099511627776 := by have := h.ok.bl; omega
theorem TB7.cl : C.length < 1000000000 := by have := h.ok.bl; have := h.sy.blen; omega
theorem TB7.xl : X.length < 1000000000 := by have := h.ok.xl; have := h.sy.xlen; omega
theorem act_ok (x : Ac) (hp : x.b.p.size < 1000000000) (R : Value → World → Prop) (hR : ∀ w' D' X' B' C', TB7 w' t m1 m2 r D' X' B' C' → Mod (of3 m1 m2 r) w w' → R (.bool true) w') :
    Ca Tryz.prog 13 #[.pointer (some ⟨t, 0, none⟩), .pointer (some ⟨r, 0, none⟩), .agg ⟨acL.cs x⟩] w R := by
  refine (ca13 (some ⟨t, 0, none⟩) (some ⟨r, 0, none⟩) x.k x.e.n x.e.k x.e.f x.b.x x.b.q x.b.p w R ?_ : Ca _ _ _ _ _)
  have hD := h.tb.dn
  intro w0 e0
  have m0 : Mod no w w0 := by subst e0; exact Mod.alloc _ _
  have b0 : w0.heap[w.heap.size]? = some (.cells #[.int .i64 x.k, .string x.e.n, .int .i64 x.e.k, .bool x.e.f, .string x.b.x, .string x.b.q, .string x.b.p] 37 (0, 0)) := by subst e0; exact new_at _ _
  clear e0
  have t0 := h.no m0
  have hlt : w.heap.size < w0.heap.size := lt_of_heap b0
  have hold : ∀ k, of3 m1 m2 r k → k < w.heap.size := by
    obtain ⟨_, _, q1, _⟩ := h.tb.x
    obtain ⟨_, _, q2, _⟩ := h.tb.b
    obtain ⟨_, _, _, _, _, _, q3, _⟩ := h.rt.ex
    have := lt_of_heap q1
    have := lt_of_heap q2
    have := lt_of_heap q3
    rintro k (rfl | rfl | rfl) <;> assumption
  have keep : ∀ {S : Nat → Prop} {w1 w2 : World}, Mod S w1 w2 → (∀ k, S k → of3 m1 m2 r k) → w1.heap[w.heap.size]? = some (.cells #[.int .i64 x.k, .string x.e.n, .int .i64 x.e.k, .bool x.e.f, .string x.b.x, .string x.b.q, .string x.b.p] 37 (0, 0)) → w2.heap[w.heap.size]? = some (.cells #[.int .i64 x.k, .string x.e.n, .int .i64 x.e.k, .bool x.e.f, .string x.b.x, .string x.b.q, .string x.b.p] 37 (0, 0)) := by
    intro S w1 w2 hm hS hb
    exact hm.at hb fun hs => by have := hold _ (hS _ hs); omega
  have i1 : ∀ k, on m1 k → of3 m1 m2 r k := fun k hk => .inl hk
  have i2 : ∀ k, on m2 k → of3 m1 m2 r k := fun k hk => .inr (.inl hk)
  have i12 : ∀ k, of2 m1 m2 k → of3 m1 m2 r k := fun k hk => hk.imp id .inl
  have i3 : ∀ k, on r k → of3 m1 m2 r k := fun k hk => .inr (.inr hk)
  refine ⟨_, by rw [cl1 b0]; rfl, ifK_eq (fun _ => ?_) (fun _ => ifK_eq (fun _ => ?_) (fun _ => ifK_eq (fun _ => ?_) (fun _ => ifK_eq (fun _ => ?_) (fun _ => ifK_eq (fun _ => ?_) (fun _ => ifK_eq (fun _ => ?_) (fun _ => ?_))))))⟩
  · -- Declare
    intro w2 e0
    have m2' : Mod no w0 w2 := by subst e0; exact Mod.drew _
    clear e0
    have t2 := t0.no m2'
    have b2 := m2'.at' b0
    refine ⟨_, by rw [cl2 b2]; rfl, _, by rw [cl2 b2]; rfl, _, by rw [cl2 b2]; rfl, _, by rw [cl2 b2]; rfl, _, by rw [cl2 b2]; rfl, _, by rw [cl2 b2]; rfl, ?_⟩
    refine (declare_ok t2.tb x.e _ fun w10 hT n10 => ?_ : Ca _ _ _ _ _)
    have b10 := keep n10 i1 b2
    have r10 := t2.rt.modM n10 fun k hk => t2.tb.maps k (.inl hk)
    refine ⟨_, rfl, by rw [cl2 b10]; rfl, by rw [cl2 b10]; rfl, by rw [cl2 b10]; rfl, ?_⟩
    refine (declareR_ok r10 x.e t2.xl _ fun w13 X' hX r13 n13 => ?_ : Ca _ _ _ _ _)
    have b13 := keep n13 i3 b10
    have T13 := hT.modR r10 n13
    refine ⟨_, rfl, ?_⟩
    rw [declR_perm hD t2.sy]
    refine ifK_eq (fun _ => ?_) (fun hne => absurd rfl hne)
    refine ⟨_, by rw [cl2 b13]; rfl, _, by rw [cl2 b13]; rfl, _, by rw [cl2 b13]; rfl, _, by rw [cl2 b13]; rfl, _, by rw [cl2 b13]; rfl, _, by rw [cl2 b13]; rfl, ?_⟩
    refine (good_ok x.e w13 _ fun w22 n22 => ?_ : Ca _ _ _ _ _)
    have b22 := n22.at' b13
    refine ⟨_, rfl, by rw [cl2 b22]; rfl, by rw [cl2 b22]; rfl, by rw [cl2 b22]; rfl, ?_⟩
    refine (goodR_ok x.e w22 _ fun w25 n25 => ?_ : Ca _ _ _ _ _)
    refine ⟨_, rfl, ?_⟩
    rw [beq_self_eq_true]
    have n1325 := n22.trans n25
    exact hR w25 (declD x.e D) X' B C ⟨T13.no n1325, r13.no n1325, decl_sy hD t2.sy x.e hX, t2.ok.decl x.e⟩ ((((m0.trans m2').no_trans (n10.mono fun k _ hk => i1 k hk)).trans (n13.mono fun k _ hk => i3 k hk)).trans_no n1325)
  · -- Drop
    intro w2 e0
    have m2' : Mod no w0 w2 := by subst e0; exact Mod.drew _
    clear e0
    have t2 := t0.no m2'
    have b2 := m2'.at' b0
    refine ⟨_, by rw [cl2 b2]; rfl, _, by rw [cl2 b2]; rfl, ?_⟩
    refine drop_ok t2.tb x.e.n t2.bl _ fun w10 hT n10 => ?_
    have b10 := keep n10 i12 b2
    have r10 := t2.rt.modM n10 t2.tb.maps
    refine ⟨_, rfl, by rw [cl3 b10]; rfl, ?_⟩
    refine dropR_ok r10 x.e.n t2.cl t2.xl _ fun w13 r13 n13 => ?_
    have T13 := hT.modR r10 n13
    have hM := ((m0.trans m2').no_trans (n10.mono fun k _ hk => i12 k hk)).trans (n13.mono fun k _ hk => i3 k hk)
    refine ⟨_, rfl, ?_⟩
    have hhx := (mayA_perm hD t2.sy x.e.n).2
    rw [hhx] at r13 ⊢
    rw [beq_self_eq_true]
    cases hh : hx x.e.n D with
    | false =>
      rw [hh] at r13 T13
      exact hR w13 D X B C ⟨T13, r13, t2.sy, t2.ok⟩ hM
    | true =>
      rw [hh] at r13 T13
      exact hR w13 _ _ _ _ ⟨T13, r13, t2.sy.filt _ _, t2.ok.drop x.e.n⟩ hM
  · -- Bind
    intro w2 e0
    have m2' : Mod no w0 w2 := by subst e0; exact Mod.drew _
    clear e0
    have t2 := t0.no m2'
    have b2 := m2'.at' b0
    refine ⟨_, by rw [cl2 b2]; rfl, _, by rw [cl2 b2]; rfl, _, by rw [cl2 b2]; rfl, _, by rw [cl2 b2]; rfl, _, by rw [cl2 b2]; rfl, _, by rw [cl2 b2]; rfl, ?_⟩
    refine (bind_ok t2.tb x.b hp _ fun w10 hT n10 => ?_ : Ca _ _ _ _ _)
    have b10 := keep n10 i2 b2
    have r10 := t2.rt.modM n10 fun k hk => t2.tb.maps k (.inr hk)
    refine ⟨_, rfl, by rw [cl2 b10]; rfl, by rw [cl2 b10]; rfl, by rw [cl2 b10]; rfl, ?_⟩
    obtain ⟨hfx, hhx⟩ := mayA_perm hD t2.sy x.b.x
    refine (bindRef_ok r10 x.b t2.xl t2.cl (fun hh => by rw [hfx]; exact t2.ok.kind (hhx ▸ hh)) _ fun w13 C' hC r13 n13 => ?_ : Ca _ _ _ _ _)
    have T13 := hT.modR r10 n13
    refine ⟨_, rfl, ?_⟩
    rw [bindR_perm hD t2.sy, beq_self_eq_true]
    exact hR w13 D X (bindB x.b D B) C' ⟨T13, r13, bind_sy hD t2.sy x.b hC, t2.ok.bind x.b⟩ (((m0.trans m2').no_trans (n10.mono fun k _ hk => i2 k hk)).trans (n13.mono fun k _ hk => i3 k hk))
  · -- Unbind
    intro w2 e0
    have m2' : Mod no w0 w2 := by subst e0; exact Mod.drew _
    clear e0
    have t2 := t0.no m2'
    have b2 := m2'.at' b0
    refine ⟨_, by rw [cl2 b2]; rfl, _, by rw [cl2 b2]; rfl, _, by rw [cl2 b2]; rfl, _, by rw [cl2 b2]; rfl, _, by rw [cl2 b2]; rfl, _, by rw [cl2 b2]; rfl, ?_⟩
    refine (unbind_ok t2.tb x.b t2.bl _ fun w10 hT n10 => ?_ : Ca _ _ _ _ _)
    have b10 := keep n10 i2 b2
    have r10 := t2.rt.modM n10 fun k hk => t2.tb.maps k (.inr hk)
    refine ⟨_, rfl, by rw [cl2 b10]; rfl, by rw [cl2 b10]; rfl, by rw [cl2 b10]; rfl, ?_⟩
    refine (unbindR_ok r10 x.b t2.cl _ fun w13 r13 n13 => ?_ : Ca _ _ _ _ _)
    have T13 := hT.modR r10 n13
    have hM := ((m0.trans m2').no_trans (n10.mono fun k _ hk => i2 k hk)).trans (n13.mono fun k _ hk => i3 k hk)
    have hb : (x.b ∈ C) = (x.b ∈ B) := propext t2.sy.bp.mem_iff
    have hbf : x.b ∉ B → B.filter (fun b => !decide (b = x.b)) = B := fun hn => List.filter_eq_self.2 fun y hy => by
      have : y ≠ x.b := fun e => hn (e ▸ hy)
      simp [this]
    have hcf : x.b ∉ B → C.filter (fun b => !decide (b = x.b)) = C := fun hn => List.filter_eq_self.2 fun y hy => by
      have : y ≠ x.b := fun e => hn (e ▸ t2.sy.bp.mem_iff.1 hy)
      simp [this]
    refine ⟨_, rfl, ?_⟩
    simp only [hb] at r13 ⊢
    rw [beq_self_eq_true]
    by_cases hm : x.b ∈ B
    · rw [if_pos hm] at r13
      exact hR w13 D X _ _ ⟨T13, r13, t2.sy.filtB _, t2.ok.filtB _⟩ hM
    · rw [if_neg hm] at r13
      rw [hbf hm] at T13
      exact hR w13 D X B C ⟨T13, r13, t2.sy, t2.ok⟩ hM
  · -- Forget
    intro w2 e0
    have m2' : Mod no w0 w2 := by subst e0; exact Mod.drew _
    clear e0
    have t2 := t0.no m2'
    have b2 := m2'.at' b0
    refine ⟨_, by rw [cl2 b2]; rfl, _, by rw [cl2 b2]; rfl, ?_⟩
    refine forget_ok t2.tb x.b.q t2.bl _ fun w10 hT n10 => ?_
    have b10 := keep n10 i2 b2
    have r10 := t2.rt.modM n10 fun k hk => t2.tb.maps k (.inr hk)
    refine ⟨_, rfl, by rw [cl3 b10]; rfl, ?_⟩
    refine forgetR_ok r10 x.b.q t2.cl _ fun w13 r13 n13 => ?_
    have T13 := hT.modR r10 n13
    refine ⟨_, rfl, ?_⟩
    have s13 := t2.sy.filtB fun b => !decide (b.q = x.b.q)
    rw [t2.sy.blen, s13.blen, beq_self_eq_true]
    exact hR w13 D X _ _ ⟨T13, r13, s13, t2.ok.filtB _⟩ (((m0.trans m2').no_trans (n10.mono fun k _ hk => i2 k hk)).trans (n13.mono fun k _ hk => i3 k hk))
  · -- Find
    refine ⟨_, by rw [cl2 b0]; rfl, find_ok t0.tb x.e.n _ fun w73 n73 => ⟨_, _, _, _, rfl, ?_⟩⟩
    intro w78 e0
    have m78 : Mod no w73 w78 := by subst e0; exact Mod.alloc _ _
    have b78 : Xc w78 w73.heap.size exc0 := by subst e0; exact new_at _ _
    clear e0
    refine put3 b78 fun w84 m84 b84 => ?_
    have m7384 : Mod no w73 w84 := m78.new m84 fun k hk => by cases hk; exact Nat.le_refl _
    have n84 := n73.trans m7384
    have t84 := t0.no n84
    have c84 := n84.at' b0
    refine ⟨_, by rw [cl2 c84]; rfl, findR_ok t84.rt x.e.n t84.xl _ fun w87 n87 => ⟨_, _, _, _, rfl, ?_⟩⟩
    intro w92 e0
    have m92 : Mod no w87 w92 := by subst e0; exact Mod.alloc _ _
    have b92 : Xc w92 w87.heap.size exc0 := by subst e0; exact new_at _ _
    clear e0
    refine put3 b92 fun w98 m98 b98 => ?_
    have m8798 : Mod no w87 w98 := m92.new m98 fun k hk => by cases hk; exact Nat.le_refl _
    have n98 := n87.trans m8798
    have b84 := n98.at' b84
    obtain ⟨hfx, hhx⟩ := mayA_perm hD h.sy x.e.n
    refine ⟨_, by rw [cl1 b84]; rfl, _, by rw [cl1 b84]; rfl, _, by rw [cl1 b84]; rfl, _, by rw [cl1 b98]; rfl, _, by rw [cl1 b98]; rfl, _, by rw [cl1 b98]; rfl, ?_⟩
    refine eqA_agg exc_s.guard (exc_s.eq (fx x.e.n D) (fx x.e.n X)) ?_
    rw [hfx, decide_eq_true rfl, hhx]
    refine (ifK_of (fun _ => ?_) (fun h => by cases h) : ifK true _ _)
    rw [beq_self_eq_true]
    exact hR w98 D X B C ((t0.no n84).no n98) ((m0.trans n84).trans n98).of_no
  · exact hR w0 D X B C t0 m0.of_no
end
end Go.Proofs.YtehhhkcemmfjpaaGreatDoor
