/- Parts of the proof of RouteGrowsCard. -/
import Derived.Test.YtehhhkcemmfjpaaGreatDoorCore9
import Derived.Test.YtehhhkcemmfjpaaGreatDoorProg
import Derived.Test.YtehhhkcemmfjpaaGreatDoorT5
/- The formulas of functions, printed by a program of mine (gen.py) out of the translation. -/
namespace Go.Proofs.YtehhhkcemmfjpaaGreatDoor
open Go Go.Proofs.YtehhhkcemmfjpaaGreatDoor.St
open _root_.Go.Value (string int bool slice pointer agg tuple map func nilFunc iface)
open _root_.Go.World (cell? frozen? setCell alloc drew)
open _root_.Go.Addr (add)
open _root_.Go.Obj (cells)
open _root_.Go.IntKind (wrap i64 u64 i32 u32 u8)
set_option maxRecDepth 100000

/-- staith/staithlaw08.light -/
noncomputable def C24 : Code := (Tryz.f24.body).getD .skip
def pl24 : Nat → Plan := fun _ => .done
def ls24 : Nat → List (Nat × LT)
  | 4 => [(3, (.one (.int .i64))), (8, (.one (.int .i64)))]
  | _ => []
def W24 (la : Option Addr) (ll : Nat) (_lc : Nat) (w : World) (R : Value → World → Prop) : Prop :=
  (∃ z0 : Int → Int → World → Prop, (∃ z1 : Int → Int → World → Nat, ((z0 (0) (0) (w)) ∧ (∀ (_ : Nat → Value), (∀ (x3 : Int), (∀ (x4 : Int), (∀ (w5 : World), ((z0 (x3) (x4) (w5)) → (ifK (decide (x4 < (↑ll : Int)))
(∃ a6 : Addr, ((la = some a6) ∧ (((0 : Int) ≤ x4) ∧ (((x4 : Int) < (↑ll : Int)) ∧ (∃ s7 : ByteArray, ((cell? w5 (add (add a6 (Int.toNat x4 * 6)) 0) = some (string s7)) ∧ (∃ x8 : Int, ((cell? w5 (add (add a6 (Int.toNat x4 * 6)) 1) = some (int i64 x8)) ∧ (∃ b9 : Bool, ((cell? w5 (add (add a6 (Int.toNat x4 * 6)) 2) = some (bool b9)) ∧ (∃ s10 : ByteArray, ((cell? w5 (add (add a6 (Int.toNat x4 * 6)) 3) = some (string s10)) ∧ (∃ s11 : ByteArray, ((cell? w5 (add (add a6 (Int.toNat x4 * 6)) 4) = some (string s11)) ∧ (∃ s12 : ByteArray, ((cell? w5 (add (add a6 (Int.toNat x4 * 6)) 5) = some (string s12)) ∧ (atW (alloc w5 (cells (Array.mk [string (ByteArray.mk #[]), int i64 0, bool false, string (ByteArray.mk #[]), string (ByteArray.mk #[]), string (ByteArray.mk #[])]) 65 (0, 0))) (fun w13 =>
(st1 (add (nw w5) 0) (string s7) w13 (fun w15 =>
(st1 (add (nw w5) 1) (int i64 x8) w15 (fun w17 =>
(st1 (add (nw w5) 2) (bool b9) w17 (fun w19 =>
(st1 (add (nw w5) 3) (string s10) w19 (fun w21 =>
(st1 (add (nw w5) 4) (string s11) w21 (fun w23 =>
(st1 (add (nw w5) 5) (string s12) w23 (fun w25 =>
(∃ s26 : ByteArray, ((cell? w25 (add (add (nw w5) 0) 0) = some (string s26)) ∧ (∃ s27 : ByteArray, ((cell? w25 (add (add (nw w5) 3) 0) = some (string s27)) ∧ (∃ s28 : ByteArray, ((cell? w25 (add (add (nw w5) 3) 1) = some (string s28)) ∧ (∃ s29 : ByteArray, ((cell? w25 (add (add (nw w5) 3) 2) = some (string s29)) ∧ (((100 : Int) ≠ 0) ∧ (ifK (decide (wrap i64 (x3 + wrap i64 (1 + wrap i64 (Int.tdiv (wrap i64 (wrap i64 (wrap i64 ((↑(ByteArray.size s26) : Int) + (↑(ByteArray.size s27) : Int)) + (↑(ByteArray.size s28) : Int)) + (↑(ByteArray.size s29) : Int))) 100))) > 100))
(R (bool false) (w25))
((z0 (wrap i64 (x3 + wrap i64 (1 + wrap i64 (Int.tdiv (wrap i64 (wrap i64 (wrap i64 ((↑(ByteArray.size s26) : Int) + (↑(ByteArray.size s27) : Int)) + (↑(ByteArray.size s28) : Int)) + (↑(ByteArray.size s29) : Int))) 100)))) (wrap i64 (x4 + 1)) (w25)) ∧ (z1 (wrap i64 (x3 + wrap i64 (1 + wrap i64 (Int.tdiv (wrap i64 (wrap i64 (wrap i64 ((↑(ByteArray.size s26) : Int) + (↑(ByteArray.size s27) : Int)) + (↑(ByteArray.size s28) : Int)) + (↑(ByteArray.size s29) : Int))) 100)))) (wrap i64 (x4 + 1)) w25 < z1 x3 x4 w5))))))))))))))))))))))))))))))))))))))))))
(R (bool true) (w5)))))))))))
theorem ca24 (la : Option Addr) (ll : Nat) (lc : Nat) (w : World) (R : Value → World → Prop) (h : W24 la ll lc w R) : Ca Tryz.prog 24 ⟨[(.slice la ll lc)]⟩ w R :=
  caB (fn := Tryz.f24) (pl := pl24) (ls := ls24) Tryz.func24 (by kernel_rfl) (by kernel_rfl) h

/-- staith/staithlaw08.lay -/
noncomputable def C26 : Code := (Tryz.f26.body).getD .skip
def pl26 : Nat → Plan := fun _ => .done
def ls26 : Nat → List (Nat × LT)
  | 4 => [(13, (.one (.int .i64)))]
  | _ => []
def W26 (la : Option Addr) (ll : Nat) (_lc : Nat) (w : World) (R : Value → World → Prop) : Prop :=
  (Ca Tryz.prog (10) (Array.mk []) (w) (fun v0 => (fun w1 =>
(∃ p2 : Option Addr, ((v0 = pointer p2) ∧ (atW (alloc w1 (cells (Array.mk [slice none 0 0, slice none 0 0]) 29 (0, 0))) (fun w3 =>
(∃ z4 : Int → World → Prop, (∃ z5 : Int → World → Nat, ((z4 (0) (w3)) ∧ (∀ (_ : Nat → Value), (∀ (x7 : Int), (∀ (w8 : World), ((z4 (x7) (w8)) → (ifK (decide (x7 < (↑ll : Int)))
(∃ a9 : Addr, ((la = some a9) ∧ (((0 : Int) ≤ x7) ∧ (((x7 : Int) < (↑ll : Int)) ∧ (∃ s10 : ByteArray, ((cell? w8 (add (add a9 (Int.toNat x7 * 6)) 0) = some (string s10)) ∧ (∃ x11 : Int, ((cell? w8 (add (add a9 (Int.toNat x7 * 6)) 1) = some (int i64 x11)) ∧ (∃ b12 : Bool, ((cell? w8 (add (add a9 (Int.toNat x7 * 6)) 2) = some (bool b12)) ∧ (∃ s13 : ByteArray, ((cell? w8 (add (add a9 (Int.toNat x7 * 6)) 3) = some (string s13)) ∧ (∃ s14 : ByteArray, ((cell? w8 (add (add a9 (Int.toNat x7 * 6)) 4) = some (string s14)) ∧ (∃ s15 : ByteArray, ((cell? w8 (add (add a9 (Int.toNat x7 * 6)) 5) = some (string s15)) ∧ (atW (alloc w8 (cells (Array.mk [string (ByteArray.mk #[]), int i64 0, bool false, string (ByteArray.mk #[]), string (ByteArray.mk #[]), string (ByteArray.mk #[])]) 65 (0, 0))) (fun w16 =>
(st1 (add (nw w8) 0) (string s10) w16 (fun w18 =>
(st1 (add (nw w8) 1) (int i64 x11) w18 (fun w20 =>
(st1 (add (nw w8) 2) (bool b12) w20 (fun w22 =>
(st1 (add (nw w8) 3) (string s13) w22 (fun w24 =>
(st1 (add (nw w8) 4) (string s14) w24 (fun w26 =>
(st1 (add (nw w8) 5) (string s15) w26 (fun w28 =>
(∃ s29 : ByteArray, ((cell? w28 (add (add (nw w8) 0) 0) = some (string s29)) ∧ (∃ x30 : Int, ((cell? w28 (add (add (nw w8) 0) 1) = some (int i64 x30)) ∧ (∃ b31 : Bool, ((cell? w28 (add (add (nw w8) 0) 2) = some (bool b31)) ∧ (Ca Tryz.prog (35) (Array.mk [pointer p2, agg (Array.mk (List.reverse [bool b31, int i64 x30, string s29]))]) (w28) (fun v32 => (fun w33 =>
(∃ x34 : Int, ((v32 = int i64 x34) ∧ (∃ s35 : ByteArray, ((cell? w33 (add (add (nw w8) 0) 0) = some (string s35)) ∧ (∃ x36 : Int, ((cell? w33 (add (add (nw w8) 0) 1) = some (int i64 x36)) ∧ (∃ b37 : Bool, ((cell? w33 (add (add (nw w8) 0) 2) = some (bool b37)) ∧ (Ca Tryz.prog (36) (Array.mk [pointer (some (nw w1)), agg (Array.mk (List.reverse [bool b37, int i64 x36, string s35]))]) (w33) (fun v38 => (fun w39 =>
(∃ x40 : Int, ((v38 = int i64 x40) ∧ (∃ s41 : ByteArray, ((cell? w39 (add (add (nw w8) 3) 0) = some (string s41)) ∧ (∃ s42 : ByteArray, ((cell? w39 (add (add (nw w8) 3) 1) = some (string s42)) ∧ (∃ s43 : ByteArray, ((cell? w39 (add (add (nw w8) 3) 2) = some (string s43)) ∧ (Ca Tryz.prog (21) (Array.mk [pointer p2, agg (Array.mk (List.reverse [string s43, string s42, string s41]))]) (w39) (fun v44 => (fun w45 =>
(∃ x46 : Int, ((v44 = int i64 x46) ∧ (∃ s47 : ByteArray, ((cell? w45 (add (add (nw w8) 3) 0) = some (string s47)) ∧ (∃ s48 : ByteArray, ((cell? w45 (add (add (nw w8) 3) 1) = some (string s48)) ∧ (∃ s49 : ByteArray, ((cell? w45 (add (add (nw w8) 3) 2) = some (string s49)) ∧ (Ca Tryz.prog (39) (Array.mk [pointer (some (nw w1)), agg (Array.mk (List.reverse [string s49, string s48, string s47]))]) (w45) (fun v50 => (fun w51 =>
(∃ x52 : Int, ((v50 = int i64 x52) ∧ ((z4 (wrap i64 (x7 + 1)) (w51)) ∧ (z5 (wrap i64 (x7 + 1)) w51 < z5 x7 w8))))))))))))))))))))))))))))))))))))))))))))))))))))))))))))))))))))))))))))
(R (tuple (Array.mk [pointer p2, pointer (some (nw w1))])) (w8)))))))))))))))))
theorem ca26 (la : Option Addr) (ll : Nat) (lc : Nat) (w : World) (R : Value → World → Prop) (h : W26 la ll lc w R) : Ca Tryz.prog 26 ⟨[(.slice la ll lc)]⟩ w R :=
  caB (fn := Tryz.f26) (pl := pl26) (ls := ls26) Tryz.func26 (by kernel_rfl) (by kernel_rfl) h

/-- staith/staithlaw08.RouteQueues -/
noncomputable def C6 : Code := (Tryz.f6.body).getD .skip
def pl6 : Nat → Plan := fun _ => .done
def ls6 : Nat → List (Nat × LT) := fun _ => []
def W6 (la : Option Addr) (ll : Nat) (lc : Nat) (exchange : ByteArray) (key : ByteArray) (w : World) (R : Value → World → Prop) : Prop :=
  (Ca Tryz.prog (24) (Array.mk [slice la ll lc]) (w) (fun v0 => (fun w1 =>
(∃ b2 : Bool, ((v0 = bool b2) ∧ (ifK (!b2)
(Ca Tryz.prog (25) (Array.mk []) (w1) (fun v3 => (fun w4 =>
(∃ b5 : Bool, ((v3 = bool b5) ∧ (R (bool b5) (w4)))))))
(ifK (decide (wrap i64 ((↑(ByteArray.size exchange) : Int) + (↑(ByteArray.size key) : Int)) > 2000))
(Ca Tryz.prog (25) (Array.mk []) (w1) (fun v6 => (fun w7 =>
(∃ b8 : Bool, ((v6 = bool b8) ∧ (R (bool b8) (w7)))))))
(Ca Tryz.prog (26) (Array.mk [slice la ll lc]) (w1) (fun v9 => (fun w10 =>
(∃ p11 : Option Addr, (∃ p12 : Option Addr, ((v9 = tuple (Array.mk (List.reverse [pointer p12, pointer p11]))) ∧ (Ca Tryz.prog (28) (Array.mk [pointer p11, string exchange, string key]) (w10) (fun v13 => (fun w14 =>
(∃ p15 : Option Addr, (∃ n16 : Nat, (∃ n17 : Nat, ((v13 = slice p15 n16 n17) ∧ (Ca Tryz.prog (29) (Array.mk [pointer p12, string exchange, string key]) (w14) (fun v18 => (fun w19 =>
(∃ p20 : Option Addr, (∃ n21 : Nat, (∃ n22 : Nat, ((v18 = slice p20 n21 n22) ∧ (Ca Tryz.prog (27) (Array.mk [slice p15 n16 n17, slice p20 n21 n22]) (w19) (fun v23 => (fun w24 =>
(∃ b25 : Bool, ((v23 = bool b25) ∧ (ifK (b25)
(Ca Tryz.prog (30) (Array.mk [pointer p11, string exchange]) (w24) (fun v26 => (fun w27 =>
(∃ p28 : Option Addr, (∃ n29 : Nat, (∃ n30 : Nat, ((v26 = slice p28 n29 n30) ∧ (Ca Tryz.prog (31) (Array.mk [pointer p12, string exchange]) (w27) (fun v31 => (fun w32 =>
(∃ p33 : Option Addr, (∃ n34 : Nat, (∃ n35 : Nat, ((v31 = slice p33 n34 n35) ∧ (Ca Tryz.prog (27) (Array.mk [slice p28 n29 n30, slice p33 n34 n35]) (w32) (fun v36 => (fun w37 =>
(∃ b38 : Bool, ((v36 = bool b38) ∧ (ifK (b38)
(Ca Tryz.prog (25) (Array.mk []) (w37) (fun v39 => (fun w40 =>
(∃ b41 : Bool, ((v39 = bool b41) ∧ (R (bool b41) (w40)))))))
(R (bool false) (w37))))))))))))))))))))))
(R (bool false) (w24)))))))))))))))))))))))))))))))))))
theorem ca6 (la : Option Addr) (ll : Nat) (lc : Nat) (exchange : ByteArray) (key : ByteArray) (w : World) (R : Value → World → Prop) (h : W6 la ll lc exchange key w R) : Ca Tryz.prog 6 ⟨[(.slice la ll lc), (.string exchange), (.string key)]⟩ w R :=
  caB (fn := Tryz.f6) (pl := pl6) (ls := ls6) Tryz.func6 (by kernel_rfl) (by kernel_rfl) h

/-- staith/staithlaw08.RouteFits -/
noncomputable def C7 : Code := (Tryz.f7.body).getD .skip
def pl7 : Nat → Plan
  | 3 => (.quiet 0 (.quiet 1 (.quiet 2 (.quiet 4 (.quiet 5 (.quiet 6 (.eff 3 [4] (.eff 7 [] (.quiet 8 (.quiet 9 (.eff 10 [] (.quiet 11 (.quiet 12 .done)))))))))))))
  | _ => .done
def ls7 : Nat → List (Nat × LT) := fun _ => []
def W7 (x0_ : ByteArray) (x1_ : Int) (x2_ : Bool) (pattern : ByteArray) (key : ByteArray) (w : World) (R : Value → World → Prop) : Prop :=
  (atW (alloc w (cells (Array.mk [string x0_, int i64 x1_, bool x2_]) 33 (0, 0))) (fun w0 =>
(∃ s1 : ByteArray, ((cell? w0 (add (nw w) 0) = some (string s1)) ∧ (ifK (decide (wrap i64 (wrap i64 ((↑(ByteArray.size s1) : Int) + (↑(ByteArray.size pattern) : Int)) + (↑(ByteArray.size key) : Int)) > 2000))
(Ca Tryz.prog (25) (Array.mk []) (w0) (fun v2 => (fun w3 =>
(∃ b4 : Bool, ((v2 = bool b4) ∧ (R (bool b4) (w3)))))))
(atW (drew w0) (fun w5 =>
(∃ s6 : ByteArray, ((cell? w5 (add (nw w) 0) = some (string s6)) ∧ (∃ x7 : Int, ((cell? w5 (add (nw w) 1) = some (int i64 x7)) ∧ (∃ b8 : Bool, ((cell? w5 (add (nw w) 2) = some (bool b8)) ∧ (∃ s9 : ByteArray, ((cell? w5 (add (nw w) 0) = some (string s9)) ∧ (∃ x10 : Int, ((cell? w5 (add (nw w) 1) = some (int i64 x10)) ∧ (∃ b11 : Bool, ((cell? w5 (add (nw w) 2) = some (bool b11)) ∧ (Ca Tryz.prog (32) (Array.mk [agg (Array.mk (List.reverse [bool b8, int i64 x7, string s6])), string pattern, string key]) (w5) (fun v12 => (fun w13 =>
(∃ b14 : Bool, ((v12 = bool b14) ∧ ((cell? w13 (add (nw w) 0) = some (string s9)) ∧ ((cell? w13 (add (nw w) 1) = some (int i64 x10)) ∧ ((cell? w13 (add (nw w) 2) = some (bool b11)) ∧ (Ca Tryz.prog (33) (Array.mk [agg (Array.mk (List.reverse [bool b11, int i64 x10, string s9])), string pattern, string key]) (w13) (fun v15 => (fun w16 =>
(∃ b17 : Bool, ((v15 = bool b17) ∧ (ifK (b14 == b17)
(Ca Tryz.prog (25) (Array.mk []) (w16) (fun v18 => (fun w19 =>
(∃ b20 : Bool, ((v18 = bool b20) ∧ (R (bool b20) (w19)))))))
(R (bool false) (w16)))))))))))))))))))))))))))))))))))
theorem ca7 (x0_ : ByteArray) (x1_ : Int) (x2_ : Bool) (pattern : ByteArray) (key : ByteArray) (w : World) (R : Value → World → Prop) (h : W7 x0_ x1_ x2_ pattern key w R) : Ca Tryz.prog 7 ⟨[(.agg ⟨[(.string x0_), (.int .i64 x1_), (.bool x2_)]⟩), (.string pattern), (.string key)]⟩ w R :=
  caB (fn := Tryz.f7) (pl := pl7) (ls := ls7) Tryz.func7 (by kernel_rfl) (by kernel_rfl) h

/-- staith/staithlaw08.RouteSames -/
noncomputable def C8 : Code := (Tryz.f8.body).getD .skip
def pl8 : Nat → Plan := fun _ => .done
def ls8 : Nat → List (Nat × LT)
  | 9 => [(11, (.one .bool)), (40, (.one (.int .i64)))]
  | _ => []
def W8 (la : Option Addr) (ll : Nat) (lc : Nat) (ma : Option Addr) (ml : Nat) (mc : Nat) (keysa : Option Addr) (keysl : Nat) (keysc : Nat) (w : World) (R : Value → World → Prop) : Prop :=
  (Ca Tryz.prog (24) (Array.mk [slice la ll lc]) (w) (fun v0 => (fun w1 =>
(∃ b2 : Bool, ((v0 = bool b2) ∧ (ifK (!b2)
(Ca Tryz.prog (25) (Array.mk []) (w1) (fun v3 => (fun w4 =>
(∃ b5 : Bool, ((v3 = bool b5) ∧ (R (bool b5) (w4)))))))
(Ca Tryz.prog (24) (Array.mk [slice ma ml mc]) (w1) (fun v6 => (fun w7 =>
(∃ b8 : Bool, ((v6 = bool b8) ∧ (ifK (!b8)
(Ca Tryz.prog (25) (Array.mk []) (w7) (fun v9 => (fun w10 =>
(∃ b11 : Bool, ((v9 = bool b11) ∧ (R (bool b11) (w10)))))))
(ifK (decide ((↑keysl : Int) > 30))
(Ca Tryz.prog (25) (Array.mk []) (w7) (fun v12 => (fun w13 =>
(∃ b14 : Bool, ((v12 = bool b14) ∧ (R (bool b14) (w13)))))))
(Ca Tryz.prog (26) (Array.mk [slice la ll lc]) (w7) (fun v15 => (fun w16 =>
(∃ p17 : Option Addr, (∃ p18 : Option Addr, ((v15 = tuple (Array.mk (List.reverse [pointer p18, pointer p17]))) ∧ (Ca Tryz.prog (26) (Array.mk [slice ma ml mc]) (w16) (fun v19 => (fun w20 =>
(∃ p21 : Option Addr, (∃ p22 : Option Addr, ((v19 = tuple (Array.mk (List.reverse [pointer p22, pointer p21]))) ∧ (∃ z23 : Bool → Int → World → Prop, (∃ z24 : Bool → Int → World → Nat, ((z23 (true) (0) (w20)) ∧ (∀ (_ : Nat → Value), (∀ (b26 : Bool), (∀ (x27 : Int), (∀ (w28 : World), ((z23 (b26) (x27) (w28)) → (ifK (decide (x27 < (↑keysl : Int)))
(∃ a29 : Addr, ((keysa = some a29) ∧ (((0 : Int) ≤ x27) ∧ (((x27 : Int) < (↑keysl : Int)) ∧ (∃ s30 : ByteArray, ((cell? w28 (add a29 (Int.toNat x27 * 1)) = some (string s30)) ∧ (ifK (decide ((↑(ByteArray.size s30) : Int) > 200))
(Ca Tryz.prog (25) (Array.mk []) (w28) (fun v31 => (fun w32 =>
(∃ b33 : Bool, ((v31 = bool b33) ∧ (R (bool b33) (w32)))))))
(ifK (b26)
(Ca Tryz.prog (28) (Array.mk [pointer p17, string (ByteArray.mk #[120]), string s30]) (w28) (fun v34 => (fun w35 =>
(∃ p36 : Option Addr, (∃ n37 : Nat, (∃ n38 : Nat, ((v34 = slice p36 n37 n38) ∧ (Ca Tryz.prog (28) (Array.mk [pointer p21, string (ByteArray.mk #[120]), string s30]) (w35) (fun v39 => (fun w40 =>
(∃ p41 : Option Addr, (∃ n42 : Nat, (∃ n43 : Nat, ((v39 = slice p41 n42 n43) ∧ (Ca Tryz.prog (27) (Array.mk [slice p36 n37 n38, slice p41 n42 n43]) (w40) (fun v44 => (fun w45 =>
(∃ b46 : Bool, ((v44 = bool b46) ∧ ((z23 (b46) (wrap i64 (x27 + 1)) (w45)) ∧ (z24 b46 (wrap i64 (x27 + 1)) w45 < z24 b26 x27 w28)))))))))))))))))))))
((z23 (false) (wrap i64 (x27 + 1)) (w28)) ∧ (z24 false (wrap i64 (x27 + 1)) w28 < z24 b26 x27 w28))))))))))
(Ca Tryz.prog (34) (Array.mk [pointer p17, pointer p21, string (ByteArray.mk #[120]), slice keysa keysl keysc]) (w28) (fun v47 => (fun w48 =>
(∃ b49 : Bool, ((v47 = bool b49) ∧ (ifK (b49 == b26)
(Ca Tryz.prog (34) (Array.mk [pointer p17, pointer p17, string (ByteArray.mk #[120]), slice keysa keysl keysc]) (w48) (fun v50 => (fun w51 =>
(∃ b52 : Bool, ((v50 = bool b52) ∧ (ifK (b52)
(Ca Tryz.prog (25) (Array.mk []) (w51) (fun v53 => (fun w54 =>
(∃ b55 : Bool, ((v53 = bool b55) ∧ (R (bool b55) (w54)))))))
(R (bool false) (w51))))))))
(R (bool false) (w48))))))))))))))))))))))))))))))))))))))))))
theorem ca8 (la : Option Addr) (ll : Nat) (lc : Nat) (ma : Option Addr) (ml : Nat) (mc : Nat) (keysa : Option Addr) (keysl : Nat) (keysc : Nat) (w : World) (R : Value → World → Prop) (h : W8 la ll lc ma ml mc keysa keysl keysc w R) : Ca Tryz.prog 8 ⟨[(.slice la ll lc), (.slice ma ml mc), (.slice keysa keysl keysc)]⟩ w R :=
  caB (fn := Tryz.f8) (pl := pl8) (ls := ls8) Tryz.func8 (by kernel_rfl) (by kernel_rfl) h

/-- staith/staithlaw08.RouteGrows -/
noncomputable def C9 : Code := (Tryz.f9.body).getD .skip
def pl9 : Nat → Plan
  | 1 => (.quiet 1 (.quiet 3 (.quiet 4 (.fork (.eff 0 [3] (.fork (.eff 2 [3] (.eff 5 [] (.eff 6 [] (.eff 7 [] (.quiet 8 (.quiet 9 (.quiet 10 (.quiet 11 (.quiet 12 (.quiet 13 .done)))))))))) (.eff 5 [] (.eff 2 [3] (.eff 6 [] (.eff 7 [] (.quiet 8 (.quiet 9 (.quiet 10 (.quiet 11 (.quiet 12 (.quiet 13 .done)))))))))))) (.eff 5 [] (.eff 0 [3] (.eff 2 [3] (.eff 6 [] (.eff 7 [] (.quiet 8 (.quiet 9 (.quiet 10 (.quiet 11 (.quiet 12 (.quiet 13 .done)))))))))))))))
  | 11 => (.quiet 0 (.quiet 1 (.quiet 2 (.quiet 3 (.quiet 5 (.quiet 6 (.quiet 7 (.quiet 8 (.eff 4 [7] (.eff 9 [] (.quiet 10 (.quiet 11 .done))))))))))))
  | _ => .done
def ls9 : Nat → List (Nat × LT)
  | 1 => [(0, .agg [])]
  | 12 => [(47, (.one (.int .i64)))]
  | 26 => [(14, (.one (.int .i64))), (72, (.one (.int .i64)))]
  | _ => []
def W9 (la : Option Addr) (ll : Nat) (lc : Nat) (b0_ : ByteArray) (b1_ : ByteArray) (b2_ : ByteArray) (key : ByteArray) (w : World) (R : Value → World → Prop) : Prop :=
  (atW (alloc w (cells (Array.mk [string b0_, string b1_, string b2_]) 35 (0, 0))) (fun w0 =>
(∃ z1 : World → Prop, ((atW (drew w0) (fun w2 =>
(∃ s3 : ByteArray, ((cell? w2 (add (nw w) 0) = some (string s3)) ∧ (∃ s4 : ByteArray, ((cell? w2 (add (nw w) 1) = some (string s4)) ∧ (∃ s5 : ByteArray, ((cell? w2 (add (nw w) 2) = some (string s5)) ∧ ((atW (alloc w2 (cells (Array.mk []) 65 (0, 0))) (fun w6 =>
((cell? w6 (add (nw w) 0) = some (string s3)) ∧ ((cell? w6 (add (nw w) 1) = some (string s4)) ∧ ((cell? w6 (add (nw w) 2) = some (string s5)) ∧ ((∃ v7 : Value, (∃ w8 : World, ((Sem.run Tryz.prog (Builtin.append_ (Array.mk [50, 50]) 50 (Array.mk [slice (some (nw w2)) 0 0, slice la ll lc])) w6 = Result.ok v7 w8) ∧ (∃ p9 : Option Addr, (∃ n10 : Nat, (∃ n11 : Nat, ((v7 = slice p9 n10 n11) ∧ ((cell? w8 (add (nw w) 0) = some (string s3)) ∧ ((cell? w8 (add (nw w) 1) = some (string s4)) ∧ ((cell? w8 (add (nw w) 2) = some (string s5)) ∧ (atW (alloc w8 (cells (Array.mk [string (ByteArray.mk #[]), int i64 0, bool false, string s3, string s4, string s5]) 65 (0, 0))) (fun w12 =>
(∃ v13 : Value, (∃ w14 : World, ((Sem.run Tryz.prog (Builtin.append_ (Array.mk [50, 50]) 50 (Array.mk [slice p9 n10 n11, slice (some (nw w8)) 1 1])) w12 = Result.ok v13 w14) ∧ (∃ p15 : Option Addr, (∃ n16 : Nat, (∃ n17 : Nat, ((v13 = slice p15 n16 n17) ∧ (Ca Tryz.prog (24) (Array.mk [slice p15 n16 n17]) (w14) (fun v18 => (fun w19 =>
(∃ b20 : Bool, ((v18 = bool b20) ∧ (ifK (!b20)
(Ca Tryz.prog (25) (Array.mk []) (w19) (fun v21 => (fun w22 =>
(∃ b23 : Bool, ((v21 = bool b23) ∧ (R (bool b23) (w22)))))))
(ifK (decide ((↑(ByteArray.size key) : Int) > 500))
(Ca Tryz.prog (25) (Array.mk []) (w19) (fun v24 => (fun w25 =>
(∃ b26 : Bool, ((v24 = bool b26) ∧ (R (bool b26) (w25)))))))
(z1 (w19)))))))))))))))))))))))))))) ∧ (atW (alloc w6 (cells (Array.mk [string (ByteArray.mk #[]), int i64 0, bool false, string s3, string s4, string s5]) 65 (0, 0))) (fun w27 =>
(∃ v28 : Value, (∃ w29 : World, ((Sem.run Tryz.prog (Builtin.append_ (Array.mk [50, 50]) 50 (Array.mk [slice (some (nw w2)) 0 0, slice la ll lc])) w27 = Result.ok v28 w29) ∧ (∃ p30 : Option Addr, (∃ n31 : Nat, (∃ n32 : Nat, ((v28 = slice p30 n31 n32) ∧ ((cell? w29 (add (nw w) 0) = some (string s3)) ∧ ((cell? w29 (add (nw w) 1) = some (string s4)) ∧ ((cell? w29 (add (nw w) 2) = some (string s5)) ∧ (∃ v33 : Value, (∃ w34 : World, ((Sem.run Tryz.prog (Builtin.append_ (Array.mk [50, 50]) 50 (Array.mk [slice p30 n31 n32, slice (some (nw w6)) 1 1])) w29 = Result.ok v33 w34) ∧ (∃ p35 : Option Addr, (∃ n36 : Nat, (∃ n37 : Nat, ((v33 = slice p35 n36 n37) ∧ (Ca Tryz.prog (24) (Array.mk [slice p35 n36 n37]) (w34) (fun v38 => (fun w39 =>
(∃ b40 : Bool, ((v38 = bool b40) ∧ (ifK (!b40)
(Ca Tryz.prog (25) (Array.mk []) (w39) (fun v41 => (fun w42 =>
(∃ b43 : Bool, ((v41 = bool b43) ∧ (R (bool b43) (w42)))))))
(ifK (decide ((↑(ByteArray.size key) : Int) > 500))
(Ca Tryz.prog (25) (Array.mk []) (w39) (fun v44 => (fun w45 =>
(∃ b46 : Bool, ((v44 = bool b46) ∧ (R (bool b46) (w45)))))))
(z1 (w39)))))))))))))))))))))))))))))))))) ∧ (atW (alloc w2 (cells (Array.mk [string (ByteArray.mk #[]), int i64 0, bool false, string s3, string s4, string s5]) 65 (0, 0))) (fun w47 =>
(atW (alloc w47 (cells (Array.mk []) 65 (0, 0))) (fun w48 =>
((cell? w48 (add (nw w) 0) = some (string s3)) ∧ ((cell? w48 (add (nw w) 1) = some (string s4)) ∧ ((cell? w48 (add (nw w) 2) = some (string s5)) ∧ (∃ v49 : Value, (∃ w50 : World, ((Sem.run Tryz.prog (Builtin.append_ (Array.mk [50, 50]) 50 (Array.mk [slice (some (nw w47)) 0 0, slice la ll lc])) w48 = Result.ok v49 w50) ∧ (∃ p51 : Option Addr, (∃ n52 : Nat, (∃ n53 : Nat, ((v49 = slice p51 n52 n53) ∧ ((cell? w50 (add (nw w) 0) = some (string s3)) ∧ ((cell? w50 (add (nw w) 1) = some (string s4)) ∧ ((cell? w50 (add (nw w) 2) = some (string s5)) ∧ (∃ v54 : Value, (∃ w55 : World, ((Sem.run Tryz.prog (Builtin.append_ (Array.mk [50, 50]) 50 (Array.mk [slice p51 n52 n53, slice (some (nw w2)) 1 1])) w50 = Result.ok v54 w55) ∧ (∃ p56 : Option Addr, (∃ n57 : Nat, (∃ n58 : Nat, ((v54 = slice p56 n57 n58) ∧ (Ca Tryz.prog (24) (Array.mk [slice p56 n57 n58]) (w55) (fun v59 => (fun w60 =>
(∃ b61 : Bool, ((v59 = bool b61) ∧ (ifK (!b61)
(Ca Tryz.prog (25) (Array.mk []) (w60) (fun v62 => (fun w63 =>
(∃ b64 : Bool, ((v62 = bool b64) ∧ (R (bool b64) (w63)))))))
(ifK (decide ((↑(ByteArray.size key) : Int) > 500))
(Ca Tryz.prog (25) (Array.mk []) (w60) (fun v65 => (fun w66 =>
(∃ b67 : Bool, ((v65 = bool b67) ∧ (R (bool b67) (w66)))))))
(z1 (w60)))))))))))))))))))))))))))))))))))))))))) ∧ (∀ (_ : Nat → Value), (∀ (w69 : World), ((z1 (w69)) → (Ca Tryz.prog (26) (Array.mk [slice la ll lc]) (w69) (fun v70 => (fun w71 =>
(∃ p72 : Option Addr, (∃ p73 : Option Addr, ((v70 = tuple (Array.mk (List.reverse [pointer p73, pointer p72]))) ∧ (Ca Tryz.prog (19) (Array.mk [pointer p72]) (w71) (fun v74 => (fun w75 =>
(∃ p76 : Option Addr, ((v74 = pointer p76) ∧ (ifK (Option.isNone p76)
(R (bool false) (w75))
(∃ s77 : ByteArray, ((cell? w75 (add (nw w) 0) = some (string s77)) ∧ (∃ s78 : ByteArray, ((cell? w75 (add (nw w) 1) = some (string s78)) ∧ (∃ s79 : ByteArray, ((cell? w75 (add (nw w) 2) = some (string s79)) ∧ (Ca Tryz.prog (21) (Array.mk [pointer p76, agg (Array.mk (List.reverse [string s79, string s78, string s77]))]) (w75) (fun v80 => (fun w81 =>
(∃ x82 : Int, ((v80 = int i64 x82) ∧ (Ca Tryz.prog (15) (Array.mk [pointer p72]) (w81) (fun v83 => (fun w84 =>
(∃ p85 : Option Addr, (∃ n86 : Nat, (∃ n87 : Nat, ((v83 = slice p85 n86 n87) ∧ (∃ z88 : Int → World → Prop, (∃ z89 : Int → World → Nat, ((z88 (0) (w84)) ∧ (∀ (_ : Nat → Value), (∀ (x91 : Int), (∀ (w92 : World), ((z88 (x91) (w92)) → (ifK (decide (x91 < (↑n86 : Int)))
(∃ a93 : Addr, ((p85 = some a93) ∧ (((0 : Int) ≤ x91) ∧ (((x91 : Int) < (↑n86 : Int)) ∧ (∃ s94 : ByteArray, ((cell? w92 (add (add a93 (Int.toNat x91 * 3)) 0) = some (string s94)) ∧ (∃ x95 : Int, ((cell? w92 (add (add a93 (Int.toNat x91 * 3)) 1) = some (int i64 x95)) ∧ (∃ b96 : Bool, ((cell? w92 (add (add a93 (Int.toNat x91 * 3)) 2) = some (bool b96)) ∧ (atW (alloc w92 (cells (Array.mk [string (ByteArray.mk #[]), int i64 0, bool false]) 33 (0, 0))) (fun w97 =>
(st1 (add (nw w92) 0) (string s94) w97 (fun w99 =>
(st1 (add (nw w92) 1) (int i64 x95) w99 (fun w101 =>
(st1 (add (nw w92) 2) (bool b96) w101 (fun w103 =>
(atW (drew w103) (fun w104 =>
(∃ s105 : ByteArray, ((cell? w104 (add (nw w92) 0) = some (string s105)) ∧ (∃ s106 : ByteArray, ((cell? w104 (add (nw w92) 0) = some (string s106)) ∧ (Ca Tryz.prog (28) (Array.mk [pointer p72, string s105, string key]) (w104) (fun v107 => (fun w108 =>
(∃ p109 : Option Addr, (∃ n110 : Nat, (∃ n111 : Nat, ((v107 = slice p109 n110 n111) ∧ ((cell? w108 (add (add (nw w92) 0) 0) = some (string s106)) ∧ (Ca Tryz.prog (28) (Array.mk [pointer p76, string s106, string key]) (w108) (fun v112 => (fun w113 =>
(∃ p114 : Option Addr, (∃ n115 : Nat, (∃ n116 : Nat, ((v112 = slice p114 n115 n116) ∧ (∃ s117 : ByteArray, ((cell? w113 (add (nw w92) 0) = some (string s117)) ∧ (∃ s118 : ByteArray, ((cell? w113 (add (nw w) 0) = some (string s118)) ∧ (ifK (!ByteArray.toList s117 == ByteArray.toList s118)
(Ca Tryz.prog (27) (Array.mk [slice p109 n110 n111, slice p114 n115 n116]) (w113) (fun v119 => (fun w120 =>
(∃ b121 : Bool, ((v119 = bool b121) ∧ (ifK (!b121)
(R (bool false) (w120))
((z88 (wrap i64 (x91 + 1)) (w120)) ∧ (z89 (wrap i64 (x91 + 1)) w120 < z89 x91 w92))))))))
(∃ z122 : Int → Int → World → Prop, (∃ z123 : Int → Int → World → Nat, ((z122 (0) (0) (w113)) ∧ (∀ (_ : Nat → Value), (∀ (x125 : Int), (∀ (x126 : Int), (∀ (w127 : World), ((z122 (x125) (x126) (w127)) → (ifK (decide (x126 < (↑n115 : Int)))
(∃ a128 : Addr, ((p114 = some a128) ∧ (((0 : Int) ≤ x126) ∧ (((x126 : Int) < (↑n115 : Int)) ∧ (∃ s129 : ByteArray, ((cell? w127 (add a128 (Int.toNat x126 * 1)) = some (string s129)) ∧ (ifK (decide (x125 < (↑n110 : Int)))
(∃ a130 : Addr, ((p109 = some a130) ∧ (((0 : Int) ≤ x125) ∧ (((x125 : Int) < (↑n110 : Int)) ∧ (∃ s131 : ByteArray, ((cell? w127 (add a130 (Int.toNat x125 * 1)) = some (string s131)) ∧ (ifK (ByteArray.toList s131 == ByteArray.toList s129)
((z122 (wrap i64 (x125 + 1)) (wrap i64 (x126 + 1)) (w127)) ∧ (z123 (wrap i64 (x125 + 1)) (wrap i64 (x126 + 1)) w127 < z123 x125 x126 w127))
(∃ s132 : ByteArray, ((cell? w127 (add (nw w) 1) = some (string s132)) ∧ (ifK (!ByteArray.toList s129 == ByteArray.toList s132)
(R (bool false) (w127))
((z122 (x125) (wrap i64 (x126 + 1)) (w127)) ∧ (z123 x125 (wrap i64 (x126 + 1)) w127 < z123 x125 x126 w127))))))))))))
(∃ s133 : ByteArray, ((cell? w127 (add (nw w) 1) = some (string s133)) ∧ (ifK (!ByteArray.toList s129 == ByteArray.toList s133)
(R (bool false) (w127))
((z122 (x125) (wrap i64 (x126 + 1)) (w127)) ∧ (z123 x125 (wrap i64 (x126 + 1)) w127 < z123 x125 x126 w127))))))))))))
(ifK (x125 != (↑n110 : Int))
(R (bool false) (w127))
((z88 (wrap i64 (x91 + 1)) (w127)) ∧ (z89 (wrap i64 (x91 + 1)) w127 < z89 x91 w92))))))))))))))))))))))))))))))))))))))))))))))))))))))))
(Ca Tryz.prog (25) (Array.mk []) (w92) (fun v134 => (fun w135 =>
(∃ b136 : Bool, ((v134 = bool b136) ∧ (R (bool b136) (w135))))))))))))))))))))))))))))))))))))))))))))))))))))
theorem ca9 (la : Option Addr) (ll : Nat) (lc : Nat) (b0_ : ByteArray) (b1_ : ByteArray) (b2_ : ByteArray) (key : ByteArray) (w : World) (R : Value → World → Prop) (h : W9 la ll lc b0_ b1_ b2_ key w R) : Ca Tryz.prog 9 ⟨[(.slice la ll lc), (.agg ⟨[(.string b0_), (.string b1_), (.string b2_)]⟩), (.string key)]⟩ w R :=
  caB (fn := Tryz.f9) (pl := pl9) (ls := ls9) Tryz.func9 (by kernel_rfl) (by kernel_rfl) h
end Go.Proofs.YtehhhkcemmfjpaaGreatDoor

/- The laws of chapter 08: rows of ties, whether they are light, the tables that they lay. -/
namespace Go.Proofs.YtehhhkcemmfjpaaGreatDoor
open Go Go.ChangeShapes Go.WideShapes Go.Deep Go.Proofs.YtehhhkcemmfjpaaGreatDoor Go.Proofs.YtehhhkcemmfjpaaGreatDoor.St

structure Ti where
  e : Exc
  b : Bnd
instance tiInh : Inhabited Ti := ⟨⟨default, default⟩⟩
def tiL : Lay Ti where
  cs x := [.string x.e.n, .int .i64 x.e.k, .bool x.e.f, .string x.b.x, .string x.b.q, .string x.b.p]
  s := 6
  pos := by decide
  len _ := rfl
  one x v hv := by simp at hv; rcases hv with rfl | rfl | rfl | rfl | rfl | rfl <;> rfl
structure TiOk (x : Ti) : Prop where
  sn : x.e.n.size ≤ 140737488355328
  b : BndOk x.b
structure Tis (w : World) (a : Option Addr) (l c : Nat) (xs : List Ti) : Prop where
  row : ArgRow tiL w a l c xs
  ok : ∀ x ∈ xs, TiOk x
theorem Tis.no {w w' : World} {a : Option Addr} {l c : Nat} {xs : List Ti} (h : Tis w a l c xs) (hm : Mod St.no w w') : Tis w' a l c xs := ⟨h.row.no hm, h.ok⟩
structure TisB (w : World) (a : Option Addr) (l c : Nat) (xs : List Ti) : Prop where
  tis : Tis w a l c xs
  bytes : c * Tryz.prog.bytesOf 65 ≤ 140737488351232
  nil : a = none → c = 0
theorem c_tie : Tryz.prog.cellsOf 65 = 6 := by kernel_rfl
set_option maxRecDepth 100000 in
theorem leaf_tie {w : World} {n : Nat} {cs : List Value} (h : Leaf Tryz.prog w reachBytes (n + 3) 65 cs) : ∃ x : Ti, tiL.cs x = cs ∧ TiOk x := by
  obtain ⟨hl, hf⟩ := leaf_struct Tryz.underlying65 h
  rw [c_tie] at hl
  match cs, hl with
  | [c1, c2, c3, c4, c5, c6], _ =>
    obtain ⟨e, e1, h1⟩ := leaf_exc (field1 (o := 0) hf 0 rfl rfl rfl c_exc)
    obtain ⟨b, e2, h2, h3, h4⟩ := leaf_bnd (field1 (o := 3) hf 1 rfl rfl rfl c_bnd)
    have e1 : [c1, c2, c3] = e.cs := e1
    have e2 : [c4, c5, c6] = b.cs := e2
    simp only [List.cons.injEq, and_true, Exc.cs, Bnd.cs] at e1 e2
    obtain ⟨q1, q2, q3⟩ := e1
    obtain ⟨q4, q5, q6⟩ := e2
    have hb : reachBytes ≤ 140737488355328 := by decide
    exact ⟨⟨e, b⟩, by rw [q1, q2, q3, q4, q5, q6]; rfl, by show e.n.size ≤ _; omega, by show b.x.size ≤ _; omega, by show b.q.size ≤ _; omega, by show b.p.size ≤ _; omega⟩
set_option maxRecDepth 100000 in
theorem args_tis {H : Type} {enc : TypeId × Value → H} {w : World} {v : Value} {d : DataW H} {p : List MemPlace} {base : Nat} {r : Reach} {b0 : Nat} (hv : Value.okWide Tryz.prog w r b0 50 v) (h : DataW.Trod enc Tryz.prog w base (fun _ => true) true 50 v d p)
    (hz : ∀ n ∈ d.weights Tryz.prog 50, n ≤ reachBytes) : ∃ a l c xs, v = .slice a l c ∧ TisB w a l c xs := by
  obtain ⟨a, l, c, xs, h1, h2, h3, h4, h5⟩ := row_arg (L := tiL) TiOk 3 Tryz.underlying50 c_tie.symm hv h hz fun cs _ hl => leaf_tie hl
  exact ⟨a, l, c, xs, h1, ⟨h2, h3⟩, h4, h5⟩
/-- One of the ties is copied into a place of its own. -/
theorem copyTi {w : World} {a : Option Addr} {l c : Nat} {xs : List Ti} (hr : Tis w a l c xs) (i : Nat) (hi : i < xs.length) {K : World → Prop}
    (hk : ∀ w', w'.heap[w.heap.size]? = some (.cells (tiL.cs xs[i]).toArray 65 (0, 0)) → Mod St.no w w' → K w') :
    ∃ ad : Addr, a = some ad ∧ (0 : Int) ≤ (i : Int) ∧ (i : Int) < (↑l : Int) ∧
      ∃ x1 : ByteArray, w.cell? (Addr.add (Addr.add ad (Int.toNat (i : Int) * 6)) 0) = some (.string x1) ∧ ∃ x2 : Int, w.cell? (Addr.add (Addr.add ad (Int.toNat (i : Int) * 6)) 1) = some (.int .i64 x2) ∧
      ∃ x3 : Bool, w.cell? (Addr.add (Addr.add ad (Int.toNat (i : Int) * 6)) 2) = some (.bool x3) ∧ ∃ x4 : ByteArray, w.cell? (Addr.add (Addr.add ad (Int.toNat (i : Int) * 6)) 3) = some (.string x4) ∧
      ∃ x5 : ByteArray, w.cell? (Addr.add (Addr.add ad (Int.toNat (i : Int) * 6)) 4) = some (.string x5) ∧ ∃ x6 : ByteArray, w.cell? (Addr.add (Addr.add ad (Int.toNat (i : Int) * 6)) 5) = some (.string x6) ∧
      atW (w.alloc (.cells ⟨[.string ⟨#[]⟩, .int .i64 0, .bool false, .string ⟨#[]⟩, .string ⟨#[]⟩, .string ⟨#[]⟩]⟩ 65 (0, 0))) fun w1 => fillC w.heap.size [.string x1, .int .i64 x2, .bool x3, .string x4, .string x5, .string x6] 0 w1 K := by
  obtain ⟨ad, had, hg⟩ := hr.row.get i hi
  have hl := hr.row.len
  have hg : ∀ j v, (tiL.cs xs[i])[j]? = some v → w.cell? (Addr.add (Addr.add ad (Int.toNat (i : Int) * 6)) j) = some v := hg
  refine ⟨_, had, by omega, by omega, _, hg 0 _ rfl, _, hg 1 _ rfl, _, hg 2 _ rfl, _, hg 3 _ rfl, _, hg 4 _ rfl, _, hg 5 _ rfl, ?_⟩
  intro w2 e0
  have m2 : Mod no w w2 := by subst e0; exact Mod.alloc _ _
  have b2 : w2.heap[w.heap.size]? = some (.cells #[.string (ByteArray.mk #[]), .int .i64 0, .bool false, .string (ByteArray.mk #[]), .string (ByteArray.mk #[]), .string (ByteArray.mk #[])] 65 (0, 0)) := by subst e0; exact new_at _ _
  clear e0
  refine fillC_ok (vs := tiL.cs xs[i]) b2 rfl fun w3 b3 m3 _ => hk w3 b3 (m2.new m3 fun k hk => by cases hk; exact Nat.le_refl _)
theorem light8_ok (a : Option Addr) (l c : Nat) (xs : List Ti) (w : World) (hr : Tis w a l c xs) (R : Value → World → Prop) (h : ∀ w' b, Mod St.no w w' → (b = true → l ≤ 100 ∧ ∀ x ∈ xs, x.b.p.size < 1000000000) → R (.bool b) w') : Ca Tryz.prog 24 #[.slice a l c] w R := by
  have hl := hr.row.len
  refine ca24 a l c w R ?_
  refine ⟨fun n x w' => ∃ (i k : Nat), x = i ∧ n = k ∧ i ≤ k ∧ k ≤ 100 ∧ i ≤ l ∧ Mod St.no w w' ∧ ∀ j (hj : j < xs.length), j < i → xs[j].b.p.size < 1000000000, fun _ x _ => ((l : Int) - x).toNat, ⟨0, 0, rfl, rfl, Nat.zero_le _, by decide, Nat.zero_le _, Mod.refl _ _, fun j _ h => by omega⟩, ?_⟩
  rintro _ _ _ w1 ⟨i, k, rfl, rfl, hik, hk, hi, m1, hall⟩
  refine ifK_dec (fun hlt => ?_) (fun hge => h w1 true m1 fun _ => ⟨by omega, fun x hx => by
    obtain ⟨j, hj, rfl⟩ := List.getElem_of_mem hx
    exact hall j hj (by omega)⟩)
  have hil : i < xs.length := by omega
  refine copyTi (hr.no m1) i hil fun w2 b2 m2 => ?_
  have hok := hr.ok xs[i] (List.getElem_mem hil)
  have h1 := hok.sn
  have h2 := hok.b.sx
  have h3 := hok.b.sq
  have h4 := hok.b.sp
  refine ⟨_, by rw [cl2 b2]; rfl, _, by rw [cl2 b2]; rfl, _, by rw [cl2 b2]; rfl, _, by rw [cl2 b2]; rfl, by decide, ?_⟩
  obtain ⟨q4, hq4⟩ : ∃ q4, (xs[i]).b.p.size = q4 := ⟨_, rfl⟩
  rw [hq4] at h4 ⊢
  generalize (xs[i]).e.n.size = q1 at h1
  generalize (xs[i]).b.x.size = q2 at h2
  generalize (xs[i]).b.q.size = q3 at h3
  clear hok b2
  have e1 : IntKind.i64.wrap (IntKind.i64.wrap (IntKind.i64.wrap ((q1 : Int) + (q2 : Int)) + (q3 : Int)) + (q4 : Int)) = ((q1 + q2 + q3 + q4 : Nat) : Int) := by rw [wrap64 (x := (q1 : Int) + (q2 : Int)) (by omega) (by omega), wrap64 (x := (q1 : Int) + (q2 : Int) + (q3 : Int)) (by omega) (by omega), wrap64 (by omega) (by omega)]; omega
  have e2 : Int.tdiv ((q1 + q2 + q3 + q4 : Nat) : Int) 100 = ((q1 + q2 + q3 + q4) / 100 : Nat) := by rw [Int.tdiv_eq_ediv_of_nonneg (by omega)]; omega
  rw [e1, e2]
  have e3 : IntKind.i64.wrap (((q1 + q2 + q3 + q4) / 100 : Nat) : Int) = ((q1 + q2 + q3 + q4) / 100 : Nat) := wrap64 (by omega) (by omega)
  rw [e3]
  have e4 : IntKind.i64.wrap (1 + (((q1 + q2 + q3 + q4) / 100 : Nat) : Int)) = (1 + (q1 + q2 + q3 + q4) / 100 : Nat) := by rw [wrap64 (by omega) (by omega)]; omega
  rw [e4]
  have e5 : IntKind.i64.wrap ((k : Int) + ((1 + (q1 + q2 + q3 + q4) / 100 : Nat) : Int)) = (k + (1 + (q1 + q2 + q3 + q4) / 100) : Nat) := by rw [wrap64 (by omega) (by omega)]; omega
  rw [e5]
  have e6 : IntKind.i64.wrap ((i : Int) + 1) = ((i + 1 : Nat) : Int) := by rw [wrap64 (by omega) (by omega)]; rfl
  rw [e6]
  have hz1 : q4 / 100 ≤ (q1 + q2 + q3 + q4) / 100 := Nat.div_le_div_right (by omega)
  generalize (q1 + q2 + q3 + q4) / 100 = z at hz1
  refine ifK_dec (fun _ => h w2 false (m1.trans m2) fun h => by cases h) (fun hz => ?_)
  refine ⟨⟨i + 1, k + (1 + z), rfl, rfl, by omega, by omega, by omega, m1.trans m2, fun j hj hji => ?_⟩, by simp only; omega⟩
  by_cases e : j = i
  · subst e; omega
  · exact hall j hj (by omega)

/-! ### The tables that are laid -/
theorem may_small {x : Exc} {p : ByteArray} (h : mayB x p = true) : p.size ≤ 60 := by
  rw [mayB] at h
  split at h
  · exact made_small h
  · split at h
    · exact made_small h
    · rw [of_decide_eq_true h]; decide
def Small (B : List Bnd) : Prop := ∀ b ∈ B, b.p.size ≤ 60
theorem Small.bind {B : List Bnd} (h : Small B) (b : Bnd) (D : List Exc) : Small (bindB b D B) := by
  intro y hy
  unfold bindB at hy
  split at hy
  · rename_i hc
    rcases List.mem_append.1 hy with hy | hy
    · exact h y hy
    · rw [List.mem_singleton.1 hy]; exact may_small hc.2.2.1
  · exact h y hy
theorem Small.lt {B : List Bnd} (h : Small B) : ∀ b ∈ B, b.p.size < 1000000000 := fun b hb => by have := h b hb; omega
/-- Both tables, as lay leaves them. -/
theorem lay8_ok (a : Option Addr) (l c : Nat) (xs : List Ti) (w : World) (hr : Tis w a l c xs) (hs : ∀ x ∈ xs, x.b.p.size < 1000000000) (hl : l ≤ 100) (R : Value → World → Prop)
    (h : ∀ w' t m1 m2 r D X B C, TB7 w' t m1 m2 r D X B C → Small B → Mod St.no w w' → w.heap.size ≤ t → w.heap.size ≤ m1 → w.heap.size ≤ m2 → w.heap.size ≤ r → R (.tuple #[.pointer (some ⟨t, 0, none⟩), .pointer (some ⟨r, 0, none⟩)]) w') :
    Ca Tryz.prog 26 #[.slice a l c] w R := by
  refine ca26 a l c w R ?_
  have hxl := hr.row.len
  refine new_ok w _ fun w1 t m1 m2 hT n1 ht hm1 hm2 => ⟨_, rfl, ?_⟩
  intro w3 e0
  have n3 : Mod no w1 w3 := by subst e0; exact Mod.alloc _ _
  have b3 : w3.heap[w1.heap.size]? = some (.cells #[.slice none 0 0, .slice none 0 0] 29 (0, 0)) := by subst e0; exact new_at _ _
  clear e0
  have T3 := TB7.new hT n3 b3
  have g1 := n1.size
  have n03 := n1.trans n3
  have hold : ∀ k, of3 m1 m2 w1.heap.size k → w.heap.size ≤ k := by rintro k (rfl | rfl | rfl) <;> assumption
  refine ⟨fun y w' => ∃ (i : Nat) (D X : List Exc) (B C : List Bnd), y = i ∧ i ≤ l ∧ Mod St.no w w' ∧ TB7 w' t m1 m2 w1.heap.size D X B C ∧ Small B, fun y _ => ((l : Int) - y).toNat, ⟨0, [], [], [], [], rfl, Nat.zero_le _, n03, T3, fun b hb => by cases hb⟩, ?_⟩
  rintro _ _ w8 ⟨i, D, X, B, C, rfl, hi, n8, T8, hS⟩
  refine ifK_dec (fun hlt => ?_) (fun hge => h w8 t m1 m2 w1.heap.size D X B C T8 hS n8 ht hm1 hm2 g1)
  have hil : i < xs.length := by omega
  have e1 : IntKind.i64.wrap ((i : Int) + 1) = ((i + 1 : Nat) : Int) := (by first | (simp only [IntKind.wrap_i64]; omega) | omega)
  rw [e1]
  clear e1
  refine copyTi (hr.no n8) i hil fun w28 b28 n28 => ?_
  have hp := hs xs[i] (List.getElem_mem hil)
  generalize xs[i] = x at hp b28
  have b28 : w28.heap[w8.heap.size]? = some (.cells #[.string x.e.n, .int .i64 x.e.k, .bool x.e.f, .string x.b.x, .string x.b.q, .string x.b.p] 65 (0, 0)) := b28
  have hlt28 := lt_of_heap b28
  have T28 := T8.no n28
  have hD := T28.tb.dn
  have hb : ∀ k, of3 m1 m2 w1.heap.size k → k < w8.heap.size := by
    obtain ⟨_, _, q1, _⟩ := T8.tb.x
    obtain ⟨_, _, q2, _⟩ := T8.tb.b
    obtain ⟨_, _, _, _, _, _, q3, _⟩ := T8.rt.ex
    have := lt_of_heap q1
    have := lt_of_heap q2
    have := lt_of_heap q3
    rintro k (rfl | rfl | rfl) <;> assumption
  have keep : ∀ {S : Nat → Prop} {w1' w2' : World}, Mod S w1' w2' → (∀ k, S k → of3 m1 m2 w1.heap.size k) → w1'.heap[w8.heap.size]? = some (.cells #[.string x.e.n, .int .i64 x.e.k, .bool x.e.f, .string x.b.x, .string x.b.q, .string x.b.p] 65 (0, 0)) → w2'.heap[w8.heap.size]? = some (.cells #[.string x.e.n, .int .i64 x.e.k, .bool x.e.f, .string x.b.x, .string x.b.q, .string x.b.p] 65 (0, 0)) := by
    intro S w1' w2' hm hS hb'
    exact hm.at hb' fun hs => by have := hb _ (hS _ hs); omega
  have i1 : ∀ k, on m1 k → of3 m1 m2 w1.heap.size k := fun k hk => .inl hk
  have i2 : ∀ k, on m2 k → of3 m1 m2 w1.heap.size k := fun k hk => .inr (.inl hk)
  have i3 : ∀ k, on w1.heap.size k → of3 m1 m2 w1.heap.size k := fun k hk => .inr (.inr hk)
  refine ⟨_, by rw [cl2 b28]; rfl, _, by rw [cl2 b28]; rfl, _, by rw [cl2 b28]; rfl, (declare_ok T28.tb x.e _ fun w33 hT33 n33 => ?_ : Ca _ _ _ _ _)⟩
  have b33 := keep n33 i1 b28
  have r33 := T28.rt.modM n33 fun k hk => T28.tb.maps k (.inl hk)
  refine ⟨_, rfl, _, by rw [cl2 b33]; rfl, _, by rw [cl2 b33]; rfl, _, by rw [cl2 b33]; rfl, (declareR_ok r33 x.e T28.xl _ fun w39 X' hX r39 n39 => ?_ : Ca _ _ _ _ _)⟩
  have b39 := keep n39 i3 b33
  have T39 : TB7 w39 t m1 m2 w1.heap.size (declD x.e D) X' B C := ⟨hT33.modR r33 n39, r39, decl_sy hD T28.sy x.e hX, T28.ok.decl x.e⟩
  have hD' := T39.tb.dn
  refine ⟨_, rfl, _, by rw [cl2 b39]; rfl, _, by rw [cl2 b39]; rfl, _, by rw [cl2 b39]; rfl, (bind_ok T39.tb x.b hp _ fun w45 hT45 n45 => ?_ : Ca _ _ _ _ _)⟩
  have b45 := keep n45 i2 b39
  have r45 := T39.rt.modM n45 fun k hk => T39.tb.maps k (.inr hk)
  obtain ⟨hfx, hhx⟩ := mayA_perm hD' T39.sy x.b.x
  refine ⟨_, rfl, _, by rw [cl2 b45]; rfl, _, by rw [cl2 b45]; rfl, _, by rw [cl2 b45]; rfl, (bindRef_ok r45 x.b T39.xl T39.cl (fun hh => by rw [hfx]; exact T39.ok.kind (hhx ▸ hh)) _ fun w51 C' hC r51 n51 => ?_ : Ca _ _ _ _ _)⟩
  have T51 : TB7 w51 t m1 m2 w1.heap.size (declD x.e D) X' (bindB x.b (declD x.e D) B) C' := ⟨hT45.modR r45 n51, r51, bind_sy hD' T39.sy x.b hC, T39.ok.bind x.b⟩
  have nn := ((((n8.trans n28).new n33 fun k hk => hold k (i1 k hk)).new n39 fun k hk => hold k (i3 k hk)).new n45 fun k hk => hold k (i2 k hk)).new n51 fun k hk => hold k (i3 k hk)
  exact ⟨_, rfl, ⟨i + 1, _, _, _, _, rfl, by omega, nn, T51, hS.bind x.b _⟩, by simp only; omega⟩
theorem queuesS_perm {D X : List Exc} {B C : List Bnd} (hD : (D.map (·.n)).Nodup) (h : Sy D X B C) (ex key n : ByteArray) : QueuesS X C ex key n ↔ QueuesS D B ex key n := by
  obtain ⟨h1, h2⟩ := mayA_perm hD h ex
  unfold QueuesS SomeB
  rw [h1, h2]
  simp only [h.bp.mem_iff]
theorem whoS_perm {D X : List Exc} {B C : List Bnd} (h : Sy D X B C) (q n : ByteArray) : WhoS C q n ↔ WhoS B q n := by
  unfold WhoS SomeB
  simp only [h.bp.mem_iff]
theorem St.NamesOf.congr {S T : ByteArray → Prop} {ys : List ByteArray} (h : NamesOf S ys) (hst : ∀ n, S n ↔ T n) : NamesOf T ys := ⟨h.rise, fun n => by rw [h.mem, hst]⟩
end Go.Proofs.YtehhhkcemmfjpaaGreatDoor

/- Arguments of chapter 08's laws: rows of texts, an exchange. -/
namespace Go.Proofs.YtehhhkcemmfjpaaGreatDoor
open Go Go.ChangeShapes Go.WideShapes Go.Deep Go.Proofs.YtehhhkcemmfjpaaGreatDoor Go.Proofs.YtehhhkcemmfjpaaGreatDoor.St

set_option maxRecDepth 100000 in
theorem args_strs {H : Type} {enc : TypeId × Value → H} {w : World} {v : Value} {d : DataW H} {p : List MemPlace} {base : Nat} {r : Reach} {b0 : Nat} (hv : Value.okWide Tryz.prog w r b0 55 v) (h : DataW.Trod enc Tryz.prog w base (fun _ => true) true 55 v d p)
    (hz : ∀ n ∈ d.weights Tryz.prog 55, n ≤ reachBytes) : ∃ a l c xs, v = .slice a l c ∧ AStr w a l c xs := by
  obtain ⟨a, l, c, xs, h1, h2, _⟩ := row_arg (L := oneL Value.string (fun _ => rfl)) (fun _ => True) 1 Tryz.underlying55 c_str.symm hv h hz fun cs _ hl => by
    obtain ⟨s, e, _⟩ := leaf_string Tryz.underlying9 hl
    exact ⟨s, e.symm, trivial⟩
  exact ⟨a, l, c, xs, h1, h2⟩
def ExcOk (e : Exc) : Prop := e.n.size ≤ 140737488355328
set_option maxRecDepth 100000 in
theorem args_exc {H : Type} {enc : TypeId × Value → H} {w : World} {v : Value} {d : DataW H} {p : List MemPlace} {base : Nat} {r : Reach} {b0 : Nat} (hv : Value.okWide Tryz.prog w r b0 33 v) (h : DataW.Trod enc Tryz.prog w base (fun _ => true) true 33 v d p)
    (hz : ∀ n ∈ d.weights Tryz.prog 33, n ≤ reachBytes) : ∃ e : Exc, v = .agg ⟨e.cs⟩ ∧ ExcOk e := by
  obtain ⟨cs, h1, h2⟩ := struct_arg 2 Tryz.underlying33 hv h hz
  obtain ⟨e, h3, h4⟩ := leaf_exc h2
  have hb : reachBytes ≤ 140737488355328 := by decide
  exact ⟨e, by rw [h1, h3], Nat.le_trans h4 hb⟩
end Go.Proofs.YtehhhkcemmfjpaaGreatDoor

/- The walk of RouteSames. -/
namespace Go.Proofs.YtehhhkcemmfjpaaGreatDoor
open Go Go.ChangeShapes Go.WideShapes Go.Deep Go.Proofs.YtehhhkcemmfjpaaGreatDoor Go.Proofs.YtehhhkcemmfjpaaGreatDoor.St

/-- Two tables lead alike, for a key. -/
def EqQ (D D' : List Exc) (B B' : List Bnd) (ex key : ByteArray) : Prop := ∀ n, QueuesS D B ex key n ↔ QueuesS D' B' ex key n
noncomputable def allQ (D D' : List Exc) (B B' : List Bnd) (ex : ByteArray) (keys : List ByteArray) : Bool := @decide (∀ k ∈ keys, EqQ D D' B B' ex k) (Classical.propDecidable _)
theorem allQ_iff {D D' : List Exc} {B B' : List Bnd} {ex : ByteArray} {keys : List ByteArray} : allQ D D' B B' ex keys = true ↔ ∀ k ∈ keys, EqQ D D' B B' ex k := @decide_eq_true_iff _ (Classical.propDecidable _)
theorem names_eq {D D' : List Exc} {B B' : List Bnd} {ex key : ByteArray} {ys zs : List ByteArray} (h : NamesOf (QueuesS D B ex key) ys) (h' : NamesOf (QueuesS D' B' ex key) zs) : ys = zs ↔ EqQ D D' B B' ex key := by
  constructor
  · rintro rfl n
    rw [← h.mem, h'.mem]
  · intro he
    exact h.unique (h'.congr fun n => (he n).symm)
theorem allQ_take {D D' : List Exc} {B B' : List Bnd} {ex : ByteArray} {keys : List ByteArray} {i : Nat} (hi : i < keys.length) {b : Bool} (hb : EqQ D D' B B' ex keys[i] ↔ b = true) : allQ D D' B B' ex (keys.take (i + 1)) = (allQ D D' B B' ex (keys.take i) && b) := by
  rw [Bool.eq_iff_iff, Bool.and_eq_true, allQ_iff, allQ_iff, ← hb, List.take_succ_eq_append_getElem hi]
  simp only [List.mem_append, List.mem_singleton]
  constructor
  · exact fun h => ⟨fun k hk => h k (.inl hk), h _ (.inr rfl)⟩
  · rintro ⟨h1, h2⟩ k (hk | rfl)
    · exact h1 k hk
    · exact h2
theorem AStr.rd {w : World} {a : Option Addr} {l c : Nat} {xs : List ByteArray} (h : AStr w a l c xs) {i : Nat} (hi : i < xs.length) {K : ByteArray → Prop} (hK : K xs[i]) : ∃ ad : Addr, a = some ad ∧ (0 : Int) ≤ (i : Int) ∧ (i : Int) < (↑l : Int) ∧ ∃ s : ByteArray, w.cell? (Addr.add ad (Int.toNat (i : Int) * 1)) = some (.string s) ∧ K s := by
  have e3 := h.len
  obtain ⟨ad, had, hg⟩ := h.get i hi
  have := hg 0 (.string xs[i]) rfl
  rw [Go.Deep.add_add] at this
  exact ⟨ad, had, by omega, by omega, _, this, hK⟩
theorem same8_ok {w : World} {t m1 m2 u k1 k2 : Nat} {D D' : List Exc} {B B' : List Bnd} (hT : Tbl w t m1 m2 D B) (hU : Tbl w u k1 k2 D' B') (hl : B.length ≤ 32) (hl' : B'.length ≤ 32) (hS : Small B) (hS' : Small B') (ex : ByteArray) {a : Option Addr} {l c : Nat} {keys : List ByteArray} (hk : AStr w a l c keys) (hks : ∀ k ∈ keys, k.size < 1000000000) (hkl : l < 1000000000)
    (R : Value → World → Prop) (h : ∀ w', Mod St.no w w' → R (.bool (allQ D D' B B' ex keys)) w') : Ca Tryz.prog 34 #[.pointer (some ⟨t, 0, none⟩), .pointer (some ⟨u, 0, none⟩), .string ex, .slice a l c] w R := by
  refine ca34 (some ⟨t, 0, none⟩) (some ⟨u, 0, none⟩) ex a l c w R ?_
  have e1 := hk.len
  refine ⟨fun x w' => ∃ i : Nat, x = i ∧ i ≤ l ∧ Mod St.no w w' ∧ allQ D D' B B' ex (keys.take i) = true, fun x _ => ((l : Int) - x).toNat, ⟨0, rfl, Nat.zero_le _, Mod.refl _ _, allQ_iff.2 fun k hk => by simp at hk⟩, ?_⟩
  rintro _ _ w4 ⟨i, rfl, hi, n4, hall⟩
  refine ifK_dec (fun hlt => ?_) (fun hge => ?_)
  · have hil : i < keys.length := by omega
    have e1 : IntKind.i64.wrap ((i : Int) + 1) = ((i + 1 : Nat) : Int) := (by first | (simp only [IntKind.wrap_i64]; omega) | omega)
    rw [e1]
    clear e1
    refine AStr.rd (hk.no n4) hil ?_
    have hks' := hks keys[i] (List.getElem_mem hil)
    refine queues_ok (hT.no n4) (by omega) hS.lt ex keys[i] hks' _ fun w8 p q d ys hy hn hyl n8 => ⟨_, _, _, rfl, ?_⟩
    refine queues_ok ((hU.no n4).no n8) (by omega) hS'.lt ex keys[i] hks' _ fun w13 p' q' d' zs hz hn' _ n13 => ⟨_, _, _, rfl, ?_⟩
    have e2 := hy.len.1
    refine equal_ok (hy.no n13) hz (by omega) _ fun w18 n18 => ⟨_, rfl, ?_⟩
    have n418 := (n8.trans n13).trans n18
    have hb : EqQ D D' B B' ex keys[i] ↔ decide (ys = zs) = true := by rw [decide_eq_true_iff]; exact (names_eq hn hn').symm
    have hst := allQ_take hil hb
    rw [hall, Bool.true_and] at hst
    refine ifK_not (fun hf => ?_) (fun ht => ?_)
    · have h' := h w18 (n4.trans n418)
      have : allQ D D' B B' ex keys = false := by
        rw [Bool.eq_false_iff]
        intro hc
        rw [hf, Bool.eq_false_iff] at hst
        exact hst (allQ_iff.2 fun k hk => allQ_iff.1 hc k (List.mem_of_mem_take hk))
      rw [this] at h'
      exact h'
    · exact ⟨⟨i + 1, rfl, by omega, n4.trans n418, by rw [hst, ht]⟩, by simp only; omega⟩
  · have h' := h w4 n4
    rw [List.take_of_length_le (by omega)] at hall
    rw [hall] at h'
    exact h'
theorem sames_walk (a : Option Addr) (l c : Nat) (xs : List Ti) (a' : Option Addr) (l' c' : Nat) (ys : List Ti) (ka : Option Addr) (kl kc : Nat) (keys : List ByteArray) (w : World) (hA : TisB w a l c xs) (hB : TisB w a' l' c' ys) (hK : AStr w ka kl kc keys) (R : Value → World → Prop) (hR : ∀ w', Mod St.no w w' → R (.bool true) w') :
    Ca Tryz.prog 8 #[.slice a l c, .slice a' l' c', .slice ka kl kc] w R := by
  refine ca8 a l c a' l' c' ka kl kc w R ?_
  have ekl := hK.len
  have lives : ∀ w', Mod St.no w w' → Ca Tryz.prog 25 #[] w' fun v w'' => ∃ b, v = .bool b ∧ R (.bool b) w'' := fun w' m => lives8_ok w' _ fun w'' m' => ⟨_, rfl, hR w'' (m.trans m')⟩
  refine light8_ok a l c xs w hA.tis _ fun w1 b n1 hb => ⟨b, rfl, ?_⟩
  cases b with
  | false => exact (ifK_of (fun _ => lives w1 n1) (fun h => by cases h) : ifK true _ _)
  | true =>
  obtain ⟨hl, hs⟩ := hb rfl
  refine (ifK_of (fun h => by cases h) (fun _ => ?_) : ifK false _ _)
  refine light8_ok a' l' c' ys w1 (hB.tis.no n1) _ fun w7 b n7 hb => ⟨b, rfl, ?_⟩
  have n07 := n1.trans n7
  cases b with
  | false => exact (ifK_of (fun _ => lives w7 n07) (fun h => by cases h) : ifK true _ _)
  | true =>
  obtain ⟨hl', hs'⟩ := hb rfl
  refine (ifK_of (fun h => by cases h) (fun _ => ?_) : ifK false _ _)
  refine ifK_dec (fun _ => lives w7 n07) (fun hk30 => ?_)
  refine lay8_ok a l c xs w7 (hA.tis.no n07) hs hl _ fun w16 t m1 m2 r D X B C T16 hS n16 _ _ _ _ => ⟨_, _, rfl, ?_⟩
  have n016 := n07.trans n16
  refine lay8_ok a' l' c' ys w16 (hB.tis.no n016) hs' hl' _ fun w20 u k1 k2 r' D' X' B' C' U20 hS' n20 _ _ _ _ => ⟨_, _, rfl, ?_⟩
  have n020 := n016.trans n20
  have T20 := T16.no n20
  have l1 := T20.ok.bl
  have l2 := U20.ok.bl
  refine ⟨fun b x w' => ∃ i : Nat, x = i ∧ i ≤ kl ∧ b = allQ D D' B B' ⟨#[120]⟩ (keys.take i) ∧ (∀ k ∈ keys.take i, k.size < 1000000000) ∧ Mod St.no w20 w', fun _ x _ => ((kl : Int) - x).toNat, ⟨0, rfl, Nat.zero_le _, (allQ_iff.2 fun k hk => by simp at hk).symm, (fun k hk => by simp at hk), Mod.refl _ _⟩, ?_⟩
  rintro _ _ _ w28 ⟨i, rfl, hi, rfl, hsm, n28⟩
  have n028 := n020.trans n28
  have T28 := T20.no n28
  have U28 := U20.no n28
  refine ifK_dec (fun hlt => ?_) (fun hge => ?_)
  · have hil : i < keys.length := by omega
    have e1 : IntKind.i64.wrap ((i : Int) + 1) = ((i + 1 : Nat) : Int) := (by first | (simp only [IntKind.wrap_i64]; omega) | omega)
    rw [e1]
    clear e1
    refine AStr.rd (hK.no n028) hil ?_
    refine ifK_dec (fun _ => lives w28 n028) (fun hsz => ?_)
    have hsm' : ∀ k ∈ keys.take (i + 1), k.size < 1000000000 := by
      rw [List.take_succ_eq_append_getElem hil]
      intro k hk
      rcases List.mem_append.1 hk with hk | hk
      · exact hsm k hk
      · rw [List.mem_singleton.1 hk]; omega
    refine ifK_of (fun hb => ?_) (fun hb => ?_)
    · refine queues_ok T28.tb (by omega) hS.lt _ keys[i] (by omega) _ fun w35 p q d ys hy hn hyl n35 => ⟨_, _, _, rfl, ?_⟩
      refine queues_ok (U28.no n35).tb (by omega) hS'.lt _ keys[i] (by omega) _ fun w40 p' q' d' zs hz hn' _ n40 => ⟨_, _, _, rfl, ?_⟩
      have e2 := hy.len.1
      refine texts_ok (Els.astr (hy.no n40)) (Els.astr hz) (by omega) _ fun w45 n45 => ⟨_, rfl, ?_⟩
      have hb' : EqQ D D' B B' ⟨#[120]⟩ keys[i] ↔ decide (ys = zs) = true := by rw [decide_eq_true_iff]; exact (names_eq hn hn').symm
      have hst := allQ_take hil hb'
      rw [hb, Bool.true_and] at hst
      exact ⟨⟨i + 1, rfl, by omega, hst.symm, hsm', n28.trans ((n35.trans n40).trans n45)⟩, by simp only; omega⟩
    · refine ⟨⟨i + 1, rfl, by omega, ?_, hsm', n28⟩, by simp only; omega⟩
      rw [eq_comm, Bool.eq_false_iff]
      intro hc
      rw [Bool.eq_false_iff] at hb
      refine hb (allQ_iff.2 fun k hk => allQ_iff.1 hc k ?_)
      rw [List.take_succ_eq_append_getElem hil]
      exact List.mem_append_left _ hk
  · have htk : keys.take i = keys := List.take_of_length_le (by omega)
    rw [htk] at hsm ⊢
    refine same8_ok T28.tb U28.tb l1 l2 hS hS' _ (hK.no n028) hsm (by omega) _ fun w48 n48 => ⟨_, rfl, ?_⟩
    rw [beq_self_eq_true]
    refine (ifK_of (fun _ => ?_) (fun h => by cases h) : ifK true _ _)
    refine same8_ok (T28.no n48).tb (T28.no n48).tb l1 l1 hS hS _ ((hK.no n028).no n48) hsm (by omega) _ fun w51 n51 => ⟨_, rfl, ?_⟩
    rw [allQ_iff.2 fun k _ n => Iff.rfl]
    refine (ifK_of (fun _ => ?_) (fun h => by cases h) : ifK true _ _)
    exact lives w51 (n028.trans (n48.trans n51))
end Go.Proofs.YtehhhkcemmfjpaaGreatDoor

/- The walk of RouteGrows. -/
namespace Go.Proofs.YtehhhkcemmfjpaaGreatDoor
open Go Go.ChangeShapes Go.WideShapes Go.Deep Go.Proofs.YtehhhkcemmfjpaaGreatDoor Go.Proofs.YtehhhkcemmfjpaaGreatDoor.St

theorem bytes_tie : Tryz.prog.bytesOf 65 = 80 := by kernel_rfl
theorem lay_tie : laidOk Tryz.prog 50 65 tiL.s = true := by kernel_rfl
/-- append([]Tie{}, l...), where []Tie{} lies at k. -/
theorem copyTis {w : World} {k : Nat} (hk : w.heap[k]? = some (.cells #[] 65 (0, 0))) {a : Option Addr} {l c : Nat} {xs : List Ti} (h : TisB w a l c xs) :
    ∃ a' c' w', (Builtin.append_ #[50, 50] 50 #[.slice (some ⟨k, 0, none⟩) 0 0, .slice a l c]).run Tryz.prog w = .ok (.slice a' l c') w' ∧ Row tiL 65 w' a' l c' xs ∧ Mod (on k) w w' ∧ (∀ j, rowB a' j → j = k ∨ w.heap.size ≤ j) := by
  have hr : Row tiL 65 w (some ⟨k, 0, none⟩) 0 0 [] := Row.lit tiL hk [] rfl (Nat.zero_le _)
  have hb := h.bytes
  have hlc := h.tis.row.lc
  rw [bytes_tie] at hb
  obtain ⟨a', c', w', h1, h2, h3, h4⟩ := hr.pushBig (P := Tryz.prog) (t := 50) (ty := 50) (b := a) (m := l) (cc := c) (ys := xs) lay_tie h.tis.row.len h.tis.row.all (fun e => by have h0 := h.nil e; exact ⟨by omega, h0⟩) (by rw [bytes_tie]; omega) (by simp only [maxLen]; omega)
  rw [Nat.zero_add] at h1 h2
  exact ⟨a', c', w', h1, h2, h3.mono fun j _ hj => (by cases hj; rfl), fun j hj => (h4 j hj).imp (fun hj => by cases hj; rfl) id⟩
theorem pushTi {w : World} {a : Option Addr} {l c : Nat} {L : List Ti} (h : Row tiL 65 w a l c L) (hl : l * 80 ≤ 140737488351232) {k : Nat} {x : Ti} (hk : w.heap[k]? = some (.cells (tiL.cs x).toArray 65 (0, 0))) :
    ∃ a' c' w', (Builtin.append_ #[50, 50] 50 #[.slice a l c, .slice (some ⟨k, 0, none⟩) 1 1]).run Tryz.prog w = .ok (.slice a' (l + 1) c') w' ∧ Row tiL 65 w' a' (l + 1) c' (L ++ [x]) ∧ Mod (rowB a) w w' ∧ (∀ k, rowB a' k → rowB a k ∨ w.heap.size ≤ k) :=
  h.pushBig (P := Tryz.prog) (t := 50) (ty := 50) lay_tie (b := some ⟨k, 0, none⟩) (m := 1) (cc := 1) (ys := [x]) rfl (fun ad had j v hj => by
    cases had
    rw [cl1 hk]
    simpa using hj) (fun h => by cases h) (by rw [bytes_tie]; omega) (by simp only [maxLen]; omega)

/-! ### A binding more -/
theorem grows_other {D : List Exc} {B : List Bnd} {b : Bnd} {ex key : ByteArray} (hne : ex ≠ b.x) (n : ByteArray) : QueuesS D (bindB b D B) ex key n ↔ QueuesS D B ex key n := by
  unfold QueuesS SomeB bindB
  refine and_congr_right fun _ => ?_
  split
  · constructor
    · rintro ⟨y, hy, h1, h2⟩
      rcases List.mem_append.1 hy with hy | hy
      · exact ⟨y, hy, h1, h2⟩
      · rw [List.mem_singleton.1 hy, Bool.and_eq_true] at h1
        exact absurd (of_decide_eq_true h1.1).symm hne
    · rintro ⟨y, hy, h1, h2⟩; exact ⟨y, List.mem_append_left _ hy, h1, h2⟩
  · exact Iff.rfl
theorem grows_sub {D : List Exc} {B : List Bnd} {b : Bnd} {ex key : ByteArray} (n : ByteArray) : (QueuesS D B ex key n → QueuesS D (bindB b D B) ex key n) ∧ (QueuesS D (bindB b D B) ex key n → QueuesS D B ex key n ∨ n = b.q) := by
  unfold QueuesS SomeB bindB
  constructor
  · rintro ⟨h0, y, hy, h1, h2⟩
    refine ⟨h0, y, ?_, h1, h2⟩
    split
    · exact List.mem_append_left _ hy
    · exact hy
  · rintro ⟨h0, y, hy, h1, h2⟩
    split at hy
    · rcases List.mem_append.1 hy with hy | hy
      · exact .inl ⟨h0, y, hy, h1, h2⟩
      · right
        rw [List.mem_singleton.1 hy] at h2
        exact h2.symm
    · exact .inl ⟨h0, y, hy, h1, h2⟩
theorem bindB_len8 (b : Bnd) (D : List Exc) (B : List Bnd) : (bindB b D B).length ≤ B.length + 1 := by
  unfold bindB
  split <;> simp
theorem rise_filter {ys zs : List ByteArray} (hy : ys.Pairwise (· < ·)) (hz : zs.Pairwise (· < ·)) (hsub : ∀ n ∈ ys, n ∈ zs) : zs.filter (fun n => decide (n ∈ ys)) = ys := by
  have h1 : NamesOf (fun n => n ∈ ys) (zs.filter fun n => decide (n ∈ ys)) := ⟨hz.sublist List.filter_sublist, fun n => by
    rw [List.mem_filter, decide_eq_true_iff]
    exact ⟨fun h => h.2, fun h => ⟨hsub n h, h⟩⟩⟩
  exact h1.unique ⟨hy, fun n => Iff.rfl⟩
theorem take_count {ys zs : List ByteArray} (he : zs.filter (fun n => decide (n ∈ ys)) = ys) {j : Nat} (hj : j < zs.length) (hm : zs[j] ∈ ys) : ∃ h : ((zs.take j).filter fun n => decide (n ∈ ys)).length < ys.length, ys[((zs.take j).filter fun n => decide (n ∈ ys)).length] = zs[j] := by
  have hsplit : zs = zs.take j ++ zs[j] :: zs.drop (j + 1) := by
    conv => lhs; rw [← List.take_append_drop j zs, List.drop_eq_getElem_cons hj]
  have h2 : ys = (zs.take j).filter (fun n => decide (n ∈ ys)) ++ zs[j] :: (zs.drop (j + 1)).filter (fun n => decide (n ∈ ys)) := by
    conv => lhs; rw [← he]
    conv => lhs; rw [hsplit]
    rw [List.filter_append, List.filter_cons_of_pos (by simpa using hm)]
  generalize (zs.take j).filter (fun n => decide (n ∈ ys)) = P at h2 ⊢
  generalize (zs.drop (j + 1)).filter (fun n => decide (n ∈ ys)) = Q at h2
  generalize zs[j] = z at h2 ⊢
  subst h2
  exact ⟨by simp, by simp⟩
theorem grows_walk (a : Option Addr) (l c : Nat) (xs : List Ti) (b : Bnd) (key : ByteArray) (w : World) (hA : TisB w a l c xs) (hb : BndOk b) (hkey : key.size ≤ 140737488355328) (R : Value → World → Prop) (hR : ∀ w', Mod St.no w w' → R (.bool true) w') : Ca Tryz.prog 9 #[.slice a l c, .agg ⟨b.cs⟩, .string key] w R := by
  refine (ca9 a l c b.x b.q b.p key w R ?_ : Ca _ _ _ _ _)
  have hbytes : l * 80 ≤ 140737488351232 := by
    have h1 := hA.bytes
    have h2 := hA.tis.row.lc
    rw [bytes_tie] at h1
    omega
  have lives : ∀ w', Mod St.no w w' → Ca Tryz.prog 25 #[] w' fun v w'' => ∃ b, v = .bool b ∧ R (.bool b) w'' := fun w' m => lives8_ok w' _ fun w'' m' => ⟨_, rfl, hR w'' (m.trans m')⟩
  intro w0 e0
  have n0 : Mod no w w0 := by subst e0; exact Mod.alloc _ _
  have b0 : Bc w0 w.heap.size b := by subst e0; exact new_at _ _
  clear e0
  refine ⟨fun w' => Mod St.no w w' ∧ Bc w' w.heap.size b ∧ b.p.size < 1000000000 ∧ key.size < 1000000000 ∧ l ≤ 100 ∧ ∀ x ∈ xs, x.b.p.size < 1000000000, ?_, ?_⟩
  · intro w6 e0
    have n6 : Mod no w0 w6 := by subst e0; exact Mod.drew _
    clear e0
    have n06 := n0.trans n6
    have b6 := n6.at' b0
    have A6 : TisB w6 a l c xs := ⟨hA.tis.no n06, hA.bytes, hA.nil⟩
    have newTi : TiOk ⟨exc0, b⟩ := ⟨by show (ByteArray.mk #[]).size ≤ _; decide, hb⟩
    have go : ∀ w' p c, Mod St.no w6 w' → Row tiL 65 w' p (l + 1) c (xs ++ [⟨exc0, b⟩]) → Ca Tryz.prog 24 #[.slice p (l + 1) c] w' fun v w'' => ∃ b33 : Bool, v = .bool b33 ∧ ifK (!b33) (Ca Tryz.prog 25 #[] w'' fun v w'' => ∃ b, v = .bool b ∧ R (.bool b) w'') (ifK (decide ((key.size : Int) > 500)) (Ca Tryz.prog 25 #[] w'' fun v w'' => ∃ b, v = .bool b ∧ R (.bool b) w'') (Mod St.no w w'' ∧ Bc w'' w.heap.size b ∧ b.p.size < 1000000000 ∧ key.size < 1000000000 ∧ l ≤ 100 ∧ ∀ x ∈ xs, x.b.p.size < 1000000000)) := by
      intro w' p c n hrow
      have htis : Tis w' p (l + 1) c (xs ++ [⟨exc0, b⟩]) := ⟨hrow.arg, fun x hx => (List.mem_append.1 hx).elim (hA.tis.ok x) fun h => by rw [List.mem_singleton.1 h]; exact newTi⟩
      refine light8_ok p (l + 1) c (xs ++ [⟨exc0, b⟩]) w' htis _ fun w'' o n' ho => ?_
      refine ⟨o, rfl, ?_⟩
      have n'' := n.trans n'
      cases o with
      | false => exact (ifK_of (fun _ => lives w'' (n06.trans n'')) (fun h => by cases h) : ifK true _ _)
      | true =>
        obtain ⟨hl100, hall⟩ := ho rfl
        refine (ifK_of (fun h => by cases h) (fun _ => ?_) : ifK false _ _)
        refine ifK_dec (fun _ => lives w'' (n06.trans n'')) (fun hks => ?_)
        exact ⟨n06.trans n'', n''.at' b6, hall _ (List.mem_append_right _ (List.mem_singleton.2 rfl)), by omega, by omega, fun x hx => hall x (List.mem_append_left _ hx)⟩
    refine ⟨_, by rw [cl1 b6]; rfl, _, by rw [cl1 b6]; rfl, _, by rw [cl1 b6]; rfl, ⟨?_, ?_⟩⟩
    · intro w19 e0
      have n19 : Mod no w6 w19 := by subst e0; exact Mod.alloc _ _
      have e19 : w19.heap[w6.heap.size]? = some (.cells #[] 65 (0, 0)) := by subst e0; exact new_at _ _
      clear e0
      have b19 := n19.at' b6
      have g19 := n19.size
      have l19 := lt_of_heap e19
      refine ⟨by rw [cl1 b19]; rfl, by rw [cl1 b19]; rfl, by rw [cl1 b19]; rfl, ⟨?_, ?_⟩⟩
      · obtain ⟨p, c2, w21, hrun, x21, m21, k21⟩ := copyTis e19 ⟨A6.tis.no n19, A6.bytes, A6.nil⟩
        have n621 : Mod St.no w6 w21 := n19.new m21 fun k hk => by cases hk; exact Nat.le_refl _
        have b21 := n621.at' b6
        have g21 := m21.size
        refine ⟨_, w21, hrun, _, _, _, rfl, by rw [cl1 b21]; rfl, by rw [cl1 b21]; rfl, by rw [cl1 b21]; rfl, ?_⟩
        intro w25 e0
        have n25 : Mod no w21 w25 := by subst e0; exact Mod.alloc _ _
        have e25 : w25.heap[w21.heap.size]? = some (.cells (tiL.cs ⟨exc0, b⟩).toArray 65 (0, 0)) := by subst e0; exact new_at _ _
        clear e0
        obtain ⟨p2, c3, w27, hrun2, x27, m27, _⟩ := pushTi (x21.no n25) hbytes e25
        refine ⟨_, w27, hrun2, _, _, _, rfl, go w27 p2 c3 ((n621.trans n25).new m27 fun k hk => by have := k21 k hk; omega) x27⟩
      · intro w37 e0
        have n37 : Mod no w19 w37 := by subst e0; exact Mod.alloc _ _
        have e37 : w37.heap[w19.heap.size]? = some (.cells (tiL.cs ⟨exc0, b⟩).toArray 65 (0, 0)) := by subst e0; exact new_at _ _
        clear e0
        have g37 := n37.size
        have l37 := lt_of_heap e37
        obtain ⟨p, c2, w39, hrun, x39, m39, k39⟩ := copyTis (n37.at' e19) ⟨(A6.tis.no n19).no n37, A6.bytes, A6.nil⟩
        have n639 : Mod St.no w6 w39 := (n19.trans n37).new m39 fun k hk => by cases hk; exact Nat.le_refl _
        have b39 := n639.at' b6
        have e39 := m39.at e37 (fun hS => by have e : w19.heap.size = w6.heap.size := hS; omega)
        obtain ⟨p2, c3, w44, hrun2, x44, m44, _⟩ := pushTi x39 hbytes e39
        refine ⟨_, w39, hrun, _, _, _, rfl, by rw [cl1 b39]; rfl, by rw [cl1 b39]; rfl, by rw [cl1 b39]; rfl, _, w44, hrun2, _, _, _, rfl, go w44 p2 c3 (n639.new m44 fun k hk => by have := k39 k hk; omega) x44⟩
    · intro w54 e0
      have n54 : Mod no w6 w54 := by subst e0; exact Mod.alloc _ _
      have e54 : w54.heap[w6.heap.size]? = some (.cells (tiL.cs ⟨exc0, b⟩).toArray 65 (0, 0)) := by subst e0; exact new_at _ _
      clear e0
      intro w55 e0
      have n55 : Mod no w54 w55 := by subst e0; exact Mod.alloc _ _
      have e55 : w55.heap[w54.heap.size]? = some (.cells #[] 65 (0, 0)) := by subst e0; exact new_at _ _
      clear e0
      have n655 := n54.trans n55
      have b55 := n655.at' b6
      have g54 := n54.size
      have l54 := lt_of_heap e54
      obtain ⟨p, c2, w57, hrun, x57, m57, k57⟩ := copyTis e55 ⟨A6.tis.no n655, A6.bytes, A6.nil⟩
      have n657 : Mod St.no w6 w57 := n655.new m57 fun k hk => by cases hk; exact g54
      have b57 := n657.at' b6
      have e57 := m57.at (n55.at' e54) (fun hS => by have e : w6.heap.size = w54.heap.size := hS; omega)
      have g55 := n55.size
      obtain ⟨p2, c3, w62, hrun2, x62, m62, _⟩ := pushTi x57 hbytes e57
      refine ⟨by rw [cl1 b55]; rfl, by rw [cl1 b55]; rfl, by rw [cl1 b55]; rfl, _, w57, hrun, _, _, _, rfl, by rw [cl1 b57]; rfl, by rw [cl1 b57]; rfl, by rw [cl1 b57]; rfl, _, w62, hrun2, _, _, _, rfl, go w62 p2 c3 (n657.new m62 fun k hk => by have := k57 k hk; omega) x62⟩
  rintro _ w69 ⟨n69, b69, hbp, hks, hl100, hs⟩
  refine lay8_ok a l c xs w69 (hA.tis.no n69) hs hl100 _ fun w71 t m1 m2 r D X B C T71 hS n71 _ _ _ _ => ⟨_, _, rfl, ?_⟩
  have l1 := T71.ok.xl
  have l2 := T71.ok.bl
  have n071 := n69.trans n71
  have b71 := n71.at' b69
  refine copy_ok T71.tb _ fun w75 u k1 k2 hU n75 hu hk1 hk2 => ⟨_, rfl, ?_⟩
  refine (ifK_of (fun h => by cases h) (fun _ => ?_) : ifK false _ _)
  have b75 := n75.at' b71
  refine ⟨_, by rw [cl1 b75]; rfl, _, by rw [cl1 b75]; rfl, _, by rw [cl1 b75]; rfl, (bind_ok hU b hbp _ fun w81 hU81 n81 => ?_ : Ca _ _ _ _ _)⟩
  have n7181 : Mod St.no w71 w81 := n75.new n81 fun k hk => by cases hk; exact hk2
  have T81 := T71.no n7181
  have b81 := n7181.at' b71
  have hS81 := hS.bind b D
  have hbl := bindB_len8 b D B
  refine ⟨_, rfl, exchanges_ok T81.tb (by omega) _ fun w84 p q s xs' hxs hpx _ n84 _ => ⟨_, _, _, rfl, ?_⟩⟩
  have e1 := hxs.len.1
  have e2 := hpx.length_eq
  have T84 := T81.no n84
  have b84 := n84.at' b81
  have hU84 := hU81.no n84
  refine ⟨fun y w' => ∃ i : Nat, y = i ∧ i ≤ q ∧ Mod St.no w84 w', fun y _ => ((q : Int) - y).toNat, ⟨0, rfl, Nat.zero_le _, Mod.refl _ _⟩, ?_⟩
  rintro _ _ w92 ⟨i, rfl, hi, n92⟩
  have n092 := ((n071.trans n7181).trans n84).trans n92
  refine ifK_dec (fun hlt => ?_) (fun _ => lives w92 n092)
  have hil : i < xs'.length := by omega
  have e1 : IntKind.i64.wrap ((i : Int) + 1) = ((i + 1 : Nat) : Int) := (by first | (simp only [IntKind.wrap_i64]; omega) | omega)
  rw [e1]
  clear e1
  have next : ∀ w', Mod St.no w84 w' → (∃ i' : Nat, ((i + 1 : Nat) : Int) = i' ∧ i' ≤ q ∧ Mod St.no w84 w') ∧ ((q : Int) - ((i + 1 : Nat) : Int)).toNat < ((q : Int) - (i : Int)).toNat := fun w' m => ⟨⟨i + 1, rfl, by omega, m⟩, by omega⟩
  refine (Rx.no hxs n92).cellX (by omega) ?_
  intro w97 e0
  have n97 : Mod no w92 w97 := by subst e0; exact Mod.alloc _ _
  have b97 : Xc w97 w92.heap.size exc0 := by subst e0; exact new_at _ _
  clear e0
  refine put3 b97 fun w103 n103 b103 => ?_
  have n92103 : Mod St.no w92 w103 := n97.new n103 fun k hk => by cases hk; exact Nat.le_refl _
  intro w104 e0
  have n104 : Mod no w103 w104 := by subst e0; exact Mod.drew _
  clear e0
  have n104' := (n92.trans n92103).trans n104
  have b104 := n104.at' b103
  have T104 := T84.no n104'
  have hU104 := hU84.no n104'
  refine ⟨_, by rw [cl1 b104]; rfl, _, by rw [cl1 b104]; rfl, queues_ok T104.tb (by omega) hS.lt _ key hks _ fun w108 p1 q1 d1 ys hy hn hyl n108 => ⟨_, _, _, rfl, ?_⟩⟩
  have b108 := n108.at' b104
  refine ⟨by rw [cl2 b108]; rfl, queues_ok (hU104.no n108) (by omega) hS81.lt _ key hks _ fun w113 p2 q2 d2 zs hz hn' hzl n113 => ⟨_, _, _, rfl, ?_⟩⟩
  have b113 := n113.at' b108
  have n113' := (n104'.trans n108).trans n113
  have bb := n113'.at' b84
  have hy := hy.no n113
  have ey := hy.len.1
  have ez := hz.len.1
  refine ⟨_, by rw [cl1 b113]; rfl, _, by rw [cl1 bb]; rfl, ?_⟩
  rw [byte_eq]
  generalize (at0 xs' i).n = ex at hn hn'
  refine ifK_not (fun hne => ?_) (fun heq => ?_)
  · have hne : ex ≠ b.x := of_decide_eq_false hne
    refine texts_ok (Els.astr hy) (Els.astr hz) (by omega) _ fun w120 n120 => ⟨_, rfl, ?_⟩
    rw [decide_eq_true (hn.unique (hn'.congr (grows_other hne)))]
    exact (ifK_of (fun h => by cases h) (fun _ => next w120 (n113'.trans n120)) : ifK false _ _)
  · have hsub : ∀ n ∈ ys, n ∈ zs := fun n h => (hn'.mem n).2 ((grows_sub n).1 ((hn.mem n).1 h))
    have hrest : ∀ n ∈ zs, n ∉ ys → n = b.q := fun n h h' => ((grows_sub n).2 ((hn'.mem n).1 h)).resolve_left fun hc => h' ((hn.mem n).2 hc)
    have he := rise_filter hn.rise hn'.rise hsub
    refine ⟨fun x y w' => ∃ j : Nat, y = j ∧ j ≤ q2 ∧ x = (((zs.take j).filter fun n => decide (n ∈ ys)).length : Nat) ∧ Mod St.no w113 w', fun _ y _ => ((q2 : Int) - y).toNat, ⟨0, rfl, Nat.zero_le _, rfl, Mod.refl _ _⟩, ?_⟩
    rintro _ _ _ w127 ⟨j, rfl, hj, rfl, n127⟩
    have bb127 := n127.at' bb
    refine ifK_dec (fun hjlt => ?_) (fun hjge => ?_)
    · have hjz : j < zs.length := by omega
      have htk : zs.take (j + 1) = zs.take j ++ [zs[j]] := List.take_succ_eq_append_getElem hjz
      have hcnt : ((zs.take j).filter fun n => decide (n ∈ ys)).length ≤ j := by
        have h1 := List.length_filter_le (fun n => decide (n ∈ ys)) (zs.take j)
        rw [List.length_take] at h1
        omega
      refine (hz.no n127).rd j rfl (by omega) ?_
      rw [at0_eq hjz]
      have e1 : IntKind.i64.wrap ((j : Int) + 1) = ((j + 1 : Nat) : Int) := (by first | (simp only [IntKind.wrap_i64]; omega) | omega)
      rw [e1]
      clear e1
      have stay : zs[j] ∉ ys → zs[j] = b.q ∧ ((∃ j' : Nat, ((j + 1 : Nat) : Int) = j' ∧ j' ≤ q2 ∧ ((((zs.take j).filter fun n => decide (n ∈ ys)).length : Nat) : Int) = (((zs.take j').filter fun n => decide (n ∈ ys)).length : Nat) ∧ Mod St.no w113 w127) ∧ ((q2 : Int) - ((j + 1 : Nat) : Int)).toNat < ((q2 : Int) - (j : Int)).toNat) := by
        intro hno
        refine ⟨hrest _ (List.getElem_mem hjz) hno, ⟨j + 1, rfl, by omega, ?_, n127⟩, by omega⟩
        rw [htk, List.filter_append, List.filter_cons_of_neg (by simpa using hno), List.filter_nil, List.append_nil]
      refine ifK_dec (fun hc => ?_) (fun hc => ?_)
      · have hcl : ((zs.take j).filter fun n => decide (n ∈ ys)).length < ys.length := by omega
        refine (hy.no n127).rd _ rfl (by omega) ?_
        rw [at0_eq hcl, byte_eq]
        refine ifK_dec (fun hq => ?_) (fun hq => ?_)
        · have hm : zs[j] ∈ ys := by rw [← hq]; exact List.getElem_mem hcl
          have e5 : IntKind.i64.wrap (((((zs.take j).filter fun n => decide (n ∈ ys)).length : Nat) : Int) + 1) = ((((zs.take (j + 1)).filter fun n => decide (n ∈ ys)).length : Nat) : Int) := by
            rw [htk, List.filter_append, List.filter_cons_of_pos (by simpa using hm), List.length_append]
            rw [wrap64 (by omega) (by omega)]
            rfl
          rw [e5]
          exact ⟨⟨j + 1, rfl, by omega, rfl, n127⟩, by simp only; omega⟩
        · have hno : zs[j] ∉ ys := fun hm => by
            obtain ⟨_, h2⟩ := take_count he hjz hm
            exact hq h2
          obtain ⟨h1, h2⟩ := stay hno
          refine ⟨_, by rw [cl1 bb127]; rfl, ?_⟩
          rw [byte_eq, decide_eq_true h1]
          exact (ifK_of (fun h => by cases h) (fun _ => h2) : ifK false _ _)
      · have hno : zs[j] ∉ ys := fun hm => by
          obtain ⟨h1, _⟩ := take_count he hjz hm
          omega
        obtain ⟨h1, h2⟩ := stay hno
        refine ⟨_, by rw [cl1 bb127]; rfl, ?_⟩
        rw [byte_eq, decide_eq_true h1]
        exact (ifK_of (fun h => by cases h) (fun _ => h2) : ifK false _ _)
    · have htz : zs.take j = zs := List.take_of_length_le (by omega)
      rw [htz, he, ey]
      refine ifK_of (fun h => ?_) (fun _ => next w127 (n113'.trans n127))
      simp at h
end Go.Proofs.YtehhhkcemmfjpaaGreatDoor
