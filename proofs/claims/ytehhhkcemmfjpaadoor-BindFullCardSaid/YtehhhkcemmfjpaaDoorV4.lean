/- Parts of the proof of BindFullCard. -/
import Derived.Test.YtehhhkcemmfjpaaDoorCore9
import Derived.Test.YtehhhkcemmfjpaaDoorProg
import Derived.Test.YtehhhkcemmfjpaaDoorV3
/- The formulas of functions, printed by a program of mine (gen.py) out of the translation. -/
namespace Go.Proofs.YtehhhkcemmfjpaaDoor
open Go Go.Proofs.YtehhhkcemmfjpaaDoor.St
open _root_.Go.Value (string int bool slice pointer agg tuple map func nilFunc iface)
open _root_.Go.World (cell? frozen? setCell alloc drew)
open _root_.Go.Addr (add)
open _root_.Go.Obj (cells)
open _root_.Go.IntKind (wrap i64 u64 i32 u32 u8)
set_option maxRecDepth 100000

/-- staith/staithlaw07.BindFull -/
noncomputable def C3 : Code := (Tryd.f3.body).getD .skip
def pl3 : Nat → Plan
  | 16 => (.quiet 0 (.quiet 1 (.quiet 2 (.quiet 3 (.quiet 4 (.quiet 7 (.quiet 8 (.quiet 9 (.quiet 10 (.quiet 11 (.quiet 12 (.quiet 13 (.quiet 14 (.fork (.eff 5 [] (.fork (.eff 6 [] (.fork (.eff 15 [] (.fork (.eff 16 [] (.quiet 17 (.quiet 18 (.eff 19 [] (.eff 20 [] .done))))) (.eff 19 [] (.eff 16 [] (.quiet 17 (.quiet 18 (.eff 20 [] .done))))))) (.eff 19 [] (.eff 15 [] (.eff 16 [] (.quiet 17 (.quiet 18 (.eff 20 [] .done)))))))) (.fork (.eff 15 [] (.fork (.eff 6 [] (.fork (.eff 16 [] (.quiet 17 (.quiet 18 (.eff 19 [] (.eff 20 [] .done))))) (.eff 19 [] (.eff 16 [] (.quiet 17 (.quiet 18 (.eff 20 [] .done))))))) (.fork (.eff 16 [] (.quiet 17 (.fork (.eff 6 [] (.quiet 18 (.eff 19 [] (.eff 20 [] .done)))) (.eff 19 [] (.eff 6 [] (.quiet 18 (.eff 20 [] .done))))))) (.eff 19 [] (.fork (.eff 6 [] (.eff 16 [] (.quiet 17 (.quiet 18 (.eff 20 [] .done))))) (.eff 16 [] (.quiet 17 (.eff 6 [] (.quiet 18 (.eff 20 [] .done)))))))))) (.eff 19 [] (.fork (.eff 6 [] (.eff 15 [] (.eff 16 [] (.quiet 17 (.quiet 18 (.eff 20 [] .done)))))) (.eff 15 [] (.fork (.eff 6 [] (.eff 16 [] (.quiet 17 (.quiet 18 (.eff 20 [] .done))))) (.eff 16 [] (.quiet 17 (.eff 6 [] (.quiet 18 (.eff 20 [] .done)))))))))))) (.fork (.eff 15 [] (.fork (.eff 5 [] (.fork (.eff 6 [] (.fork (.eff 16 [] (.quiet 17 (.quiet 18 (.eff 19 [] (.eff 20 [] .done))))) (.eff 19 [] (.eff 16 [] (.quiet 17 (.quiet 18 (.eff 20 [] .done))))))) (.fork (.eff 16 [] (.quiet 17 (.fork (.eff 6 [] (.quiet 18 (.eff 19 [] (.eff 20 [] .done)))) (.eff 19 [] (.eff 6 [] (.quiet 18 (.eff 20 [] .done))))))) (.eff 19 [] (.fork (.eff 6 [] (.eff 16 [] (.quiet 17 (.quiet 18 (.eff 20 [] .done))))) (.eff 16 [] (.quiet 17 (.eff 6 [] (.quiet 18 (.eff 20 [] .done)))))))))) (.fork (.eff 16 [] (.quiet 17 (.fork (.eff 5 [] (.fork (.eff 6 [] (.quiet 18 (.eff 19 [] (.eff 20 [] .done)))) (.eff 19 [] (.eff 6 [] (.quiet 18 (.eff 20 [] .done)))))) (.eff 19 [] (.eff 5 [] (.eff 6 [] (.quiet 18 (.eff 20 [] .done)))))))) (.eff 19 [] (.fork (.eff 5 [] (.fork (.eff 6 [] (.eff 16 [] (.quiet 17 (.quiet 18 (.eff 20 [] .done))))) (.eff 16 [] (.quiet 17 (.eff 6 [] (.quiet 18 (.eff 20 [] .done))))))) (.eff 16 [] (.quiet 17 (.eff 5 [] (.eff 6 [] (.quiet 18 (.eff 20 [] .done))))))))))) (.eff 19 [] (.fork (.eff 5 [] (.fork (.eff 6 [] (.eff 15 [] (.eff 16 [] (.quiet 17 (.quiet 18 (.eff 20 [] .done)))))) (.eff 15 [] (.fork (.eff 6 [] (.eff 16 [] (.quiet 17 (.quiet 18 (.eff 20 [] .done))))) (.eff 16 [] (.quiet 17 (.eff 6 [] (.quiet 18 (.eff 20 [] .done))))))))) (.eff 15 [] (.fork (.eff 5 [] (.fork (.eff 6 [] (.eff 16 [] (.quiet 17 (.quiet 18 (.eff 20 [] .done))))) (.eff 16 [] (.quiet 17 (.eff 6 [] (.quiet 18 (.eff 20 [] .done))))))) (.eff 16 [] (.quiet 17 (.eff 5 [] (.eff 6 [] (.quiet 18 (.eff 20 [] .done)))))))))))))))))))))))))
  | _ => .done
def ls3 : Nat → List (Nat × LT)
  | 8 => [(7, (.one (.int .i64)))]
  | 20 => [(9, (.one (.int .i64)))]
  | 24 => [(0, .agg []), (10, (.one .ptr))]
  | _ => []
def W3 (kind : Int) (names : Int) (w : World) (R : Value → World → Prop) : Prop :=
  (((3 : Int) ≠ 0) ∧ (Ca Tryd.prog (6) (Array.mk []) (w) (fun v0 => (fun w1 =>
(∃ p2 : Option Addr, ((v0 = pointer p2) ∧ (ifK (Option.isNone p2)
(R (bool false) (w1))
(∃ z3 : Int → World → Prop, (∃ z4 : Int → World → Nat, ((z3 (0) (w1)) ∧ (∀ (_ : Nat → Value), (∀ (x6 : Int), (∀ (w7 : World), ((z3 (x6) (w7)) → (ifK (decide (x6 < 8))
(atW (alloc w7 (cells (Array.mk [int u8 (wrap u8 (wrap i64 (97 + x6)))]) 5 (0, 0))) (fun w8 =>
(∃ v9 : Value, (∃ w10 : World, ((Sem.run Tryd.prog (convert 27 9 (slice (some (nw w7)) 1 1)) w8 = Result.ok v9 w10) ∧ (∃ s11 : ByteArray, ((v9 = string s11) ∧ (Ca Tryd.prog (7) (Array.mk [pointer p2, agg (Array.mk [string s11, int i64 (wrap i64 (1 + wrap i64 (Int.tmod kind 3))), bool false])]) (w10) (fun v12 => (fun w13 =>
(∃ x14 : Int, ((v12 = int i64 x14) ∧ (ifK (x14 != 0)
(R (bool false) (w13))
((z3 (wrap i64 (x6 + 1)) (w13)) ∧ (z4 (wrap i64 (x6 + 1)) w13 < z4 x6 w7)))))))))))))))
(Ca Tryd.prog (7) (Array.mk [pointer p2, agg (Array.mk [string (ByteArray.mk #[122]), int i64 (wrap i64 (1 + wrap i64 (Int.tmod kind 3))), bool false])]) (w7) (fun v15 => (fun w16 =>
(∃ x17 : Int, ((v15 = int i64 x17) ∧ (ifK (x17 != 5)
(R (bool false) (w16))
(Ca Tryd.prog (7) (Array.mk [pointer p2, agg (Array.mk [string (ByteArray.mk #[97]), int i64 (wrap i64 (1 + wrap i64 (Int.tmod kind 3))), bool false])]) (w16) (fun v18 => (fun w19 =>
(∃ x20 : Int, ((v18 = int i64 x20) ∧ (ifK (x20 != 0)
(R (bool false) (w19))
(((3 : Int) ≠ 0) ∧ (Ca Tryd.prog (7) (Array.mk [pointer p2, agg (Array.mk [string (ByteArray.mk #[97]), int i64 (wrap i64 (Int.tmod (wrap i64 (1 + wrap i64 (Int.tmod kind 3))) 3 + 1)), bool false])]) (w19) (fun v21 => (fun w22 =>
(∃ x23 : Int, ((v21 = int i64 x23) ∧ (ifK (x23 != 12)
(R (bool false) (w22))
(((8 : Int) ≠ 0) ∧ (∃ z24 : Int → World → Prop, (∃ z25 : Int → World → Nat, ((z24 (0) (w22)) ∧ (∀ (_ : Nat → Value), (∀ (x27 : Int), (∀ (w28 : World), ((z24 (x27) (w28)) → (ifK (decide (x27 < 32))
(∃ z29 : Option Addr → World → Prop, ((atW (drew w28) (fun w30 =>
(((wrap i64 (1 + wrap i64 (Int.tmod names 8)) : Int) ≠ 0) ∧ (((16 : Int) ≠ 0) ∧ (((16 : Int) ≠ 0) ∧ ((atW (alloc w30 (cells (Array.mk [int u8 (wrap u8 (wrap i64 (97 + Int.tmod x27 (wrap i64 (1 + wrap i64 (Int.tmod names 8))))))]) 5 (0, 0))) (fun w31 =>
((∃ v32 : Value, (∃ w33 : World, ((Sem.run Tryd.prog (convert 27 9 (slice (some (nw w30)) 1 1)) w31 = Result.ok v32 w33) ∧ (∃ s34 : ByteArray, ((v32 = string s34) ∧ ((atW (alloc w33 (cells (Array.mk [int u8 (wrap u8 (wrap i64 (97 + wrap i64 (Int.tdiv x27 16)))), int u8 (wrap u8 (wrap i64 (97 + Int.tmod x27 16)))]) 5 (0, 0))) (fun w35 =>
((∃ v36 : Value, (∃ w37 : World, ((Sem.run Tryd.prog (convert 27 9 (slice (some (nw w33)) 2 2)) w35 = Result.ok v36 w37) ∧ (∃ s38 : ByteArray, ((v36 = string s38) ∧ ((1 + ByteArray.size s38 ≤ 9223372036854775807) ∧ (atW (alloc w37 (cells (Array.mk [string (ByteArray.mk #[]), string (ByteArray.mk #[]), string (ByteArray.mk #[])]) 31 (0, 0))) (fun w39 =>
(st1 (add (nw w37) 0) (string s34) w39 (fun w41 =>
(st1 (add (nw w37) 1) (string (ByteArray.mk #[113] ++ s38)) w41 (fun w43 =>
(st1 (add (nw w37) 2) (string (ByteArray.mk #[])) w43 (fun w45 =>
(z29 (some (nw w37)) (w45)))))))))))))))) ∧ (atW (alloc w35 (cells (Array.mk [string (ByteArray.mk #[]), string (ByteArray.mk #[]), string (ByteArray.mk #[])]) 31 (0, 0))) (fun w46 =>
(∃ v47 : Value, (∃ w48 : World, ((Sem.run Tryd.prog (convert 27 9 (slice (some (nw w33)) 2 2)) w46 = Result.ok v47 w48) ∧ (∃ s49 : ByteArray, ((v47 = string s49) ∧ ((1 + ByteArray.size s49 ≤ 9223372036854775807) ∧ (st1 (add (nw w35) 0) (string s34) w48 (fun w51 =>
(st1 (add (nw w35) 1) (string (ByteArray.mk #[113] ++ s49)) w51 (fun w53 =>
(st1 (add (nw w35) 2) (string (ByteArray.mk #[])) w53 (fun w55 =>
(z29 (some (nw w35)) (w55))))))))))))))))))) ∧ (atW (alloc w33 (cells (Array.mk [string (ByteArray.mk #[]), string (ByteArray.mk #[]), string (ByteArray.mk #[])]) 31 (0, 0))) (fun w56 =>
(atW (alloc w56 (cells (Array.mk [int u8 (wrap u8 (wrap i64 (97 + wrap i64 (Int.tdiv x27 16)))), int u8 (wrap u8 (wrap i64 (97 + Int.tmod x27 16)))]) 5 (0, 0))) (fun w57 =>
(∃ v58 : Value, (∃ w59 : World, ((Sem.run Tryd.prog (convert 27 9 (slice (some (nw w56)) 2 2)) w57 = Result.ok v58 w59) ∧ (∃ s60 : ByteArray, ((v58 = string s60) ∧ ((1 + ByteArray.size s60 ≤ 9223372036854775807) ∧ (st1 (add (nw w33) 0) (string s34) w59 (fun w62 =>
(st1 (add (nw w33) 1) (string (ByteArray.mk #[113] ++ s60)) w62 (fun w64 =>
(st1 (add (nw w33) 2) (string (ByteArray.mk #[])) w64 (fun w66 =>
(z29 (some (nw w33)) (w66)))))))))))))))))))))))) ∧ ((atW (alloc w31 (cells (Array.mk [int u8 (wrap u8 (wrap i64 (97 + wrap i64 (Int.tdiv x27 16)))), int u8 (wrap u8 (wrap i64 (97 + Int.tmod x27 16)))]) 5 (0, 0))) (fun w67 =>
((∃ v68 : Value, (∃ w69 : World, ((Sem.run Tryd.prog (convert 27 9 (slice (some (nw w30)) 1 1)) w67 = Result.ok v68 w69) ∧ (∃ s70 : ByteArray, ((v68 = string s70) ∧ ((∃ v71 : Value, (∃ w72 : World, ((Sem.run Tryd.prog (convert 27 9 (slice (some (nw w31)) 2 2)) w69 = Result.ok v71 w72) ∧ (∃ s73 : ByteArray, ((v71 = string s73) ∧ ((1 + ByteArray.size s73 ≤ 9223372036854775807) ∧ (atW (alloc w72 (cells (Array.mk [string (ByteArray.mk #[]), string (ByteArray.mk #[]), string (ByteArray.mk #[])]) 31 (0, 0))) (fun w74 =>
(st1 (add (nw w72) 0) (string s70) w74 (fun w76 =>
(st1 (add (nw w72) 1) (string (ByteArray.mk #[113] ++ s73)) w76 (fun w78 =>
(st1 (add (nw w72) 2) (string (ByteArray.mk #[])) w78 (fun w80 =>
(z29 (some (nw w72)) (w80)))))))))))))))) ∧ (atW (alloc w69 (cells (Array.mk [string (ByteArray.mk #[]), string (ByteArray.mk #[]), string (ByteArray.mk #[])]) 31 (0, 0))) (fun w81 =>
(∃ v82 : Value, (∃ w83 : World, ((Sem.run Tryd.prog (convert 27 9 (slice (some (nw w31)) 2 2)) w81 = Result.ok v82 w83) ∧ (∃ s84 : ByteArray, ((v82 = string s84) ∧ ((1 + ByteArray.size s84 ≤ 9223372036854775807) ∧ (st1 (add (nw w69) 0) (string s70) w83 (fun w86 =>
(st1 (add (nw w69) 1) (string (ByteArray.mk #[113] ++ s84)) w86 (fun w88 =>
(st1 (add (nw w69) 2) (string (ByteArray.mk #[])) w88 (fun w90 =>
(z29 (some (nw w69)) (w90)))))))))))))))))))))) ∧ ((∃ v91 : Value, (∃ w92 : World, ((Sem.run Tryd.prog (convert 27 9 (slice (some (nw w31)) 2 2)) w67 = Result.ok v91 w92) ∧ (∃ s93 : ByteArray, ((v91 = string s93) ∧ ((1 + ByteArray.size s93 ≤ 9223372036854775807) ∧ ((∃ v94 : Value, (∃ w95 : World, ((Sem.run Tryd.prog (convert 27 9 (slice (some (nw w30)) 1 1)) w92 = Result.ok v94 w95) ∧ (∃ s96 : ByteArray, ((v94 = string s96) ∧ (atW (alloc w95 (cells (Array.mk [string (ByteArray.mk #[]), string (ByteArray.mk #[]), string (ByteArray.mk #[])]) 31 (0, 0))) (fun w97 =>
(st1 (add (nw w95) 0) (string s96) w97 (fun w99 =>
(st1 (add (nw w95) 1) (string (ByteArray.mk #[113] ++ s93)) w99 (fun w101 =>
(st1 (add (nw w95) 2) (string (ByteArray.mk #[])) w101 (fun w103 =>
(z29 (some (nw w95)) (w103))))))))))))))) ∧ (atW (alloc w92 (cells (Array.mk [string (ByteArray.mk #[]), string (ByteArray.mk #[]), string (ByteArray.mk #[])]) 31 (0, 0))) (fun w104 =>
(∃ v105 : Value, (∃ w106 : World, ((Sem.run Tryd.prog (convert 27 9 (slice (some (nw w30)) 1 1)) w104 = Result.ok v105 w106) ∧ (∃ s107 : ByteArray, ((v105 = string s107) ∧ (st1 (add (nw w92) 0) (string s107) w106 (fun w109 =>
(st1 (add (nw w92) 1) (string (ByteArray.mk #[113] ++ s93)) w109 (fun w111 =>
(st1 (add (nw w92) 2) (string (ByteArray.mk #[])) w111 (fun w113 =>
(z29 (some (nw w92)) (w113)))))))))))))))))))))) ∧ (atW (alloc w67 (cells (Array.mk [string (ByteArray.mk #[]), string (ByteArray.mk #[]), string (ByteArray.mk #[])]) 31 (0, 0))) (fun w114 =>
((∃ v115 : Value, (∃ w116 : World, ((Sem.run Tryd.prog (convert 27 9 (slice (some (nw w30)) 1 1)) w114 = Result.ok v115 w116) ∧ (∃ s117 : ByteArray, ((v115 = string s117) ∧ (∃ v118 : Value, (∃ w119 : World, ((Sem.run Tryd.prog (convert 27 9 (slice (some (nw w31)) 2 2)) w116 = Result.ok v118 w119) ∧ (∃ s120 : ByteArray, ((v118 = string s120) ∧ ((1 + ByteArray.size s120 ≤ 9223372036854775807) ∧ (st1 (add (nw w67) 0) (string s117) w119 (fun w122 =>
(st1 (add (nw w67) 1) (string (ByteArray.mk #[113] ++ s120)) w122 (fun w124 =>
(st1 (add (nw w67) 2) (string (ByteArray.mk #[])) w124 (fun w126 =>
(z29 (some (nw w67)) (w126))))))))))))))))))) ∧ (∃ v127 : Value, (∃ w128 : World, ((Sem.run Tryd.prog (convert 27 9 (slice (some (nw w31)) 2 2)) w114 = Result.ok v127 w128) ∧ (∃ s129 : ByteArray, ((v127 = string s129) ∧ ((1 + ByteArray.size s129 ≤ 9223372036854775807) ∧ (∃ v130 : Value, (∃ w131 : World, ((Sem.run Tryd.prog (convert 27 9 (slice (some (nw w30)) 1 1)) w128 = Result.ok v130 w131) ∧ (∃ s132 : ByteArray, ((v130 = string s132) ∧ (st1 (add (nw w67) 0) (string s132) w131 (fun w134 =>
(st1 (add (nw w67) 1) (string (ByteArray.mk #[113] ++ s129)) w134 (fun w136 =>
(st1 (add (nw w67) 2) (string (ByteArray.mk #[])) w136 (fun w138 =>
(z29 (some (nw w67)) (w138)))))))))))))))))))))))))) ∧ (atW (alloc w31 (cells (Array.mk [string (ByteArray.mk #[]), string (ByteArray.mk #[]), string (ByteArray.mk #[])]) 31 (0, 0))) (fun w139 =>
((∃ v140 : Value, (∃ w141 : World, ((Sem.run Tryd.prog (convert 27 9 (slice (some (nw w30)) 1 1)) w139 = Result.ok v140 w141) ∧ (∃ s142 : ByteArray, ((v140 = string s142) ∧ (atW (alloc w141 (cells (Array.mk [int u8 (wrap u8 (wrap i64 (97 + wrap i64 (Int.tdiv x27 16)))), int u8 (wrap u8 (wrap i64 (97 + Int.tmod x27 16)))]) 5 (0, 0))) (fun w143 =>
(∃ v144 : Value, (∃ w145 : World, ((Sem.run Tryd.prog (convert 27 9 (slice (some (nw w141)) 2 2)) w143 = Result.ok v144 w145) ∧ (∃ s146 : ByteArray, ((v144 = string s146) ∧ ((1 + ByteArray.size s146 ≤ 9223372036854775807) ∧ (st1 (add (nw w31) 0) (string s142) w145 (fun w148 =>
(st1 (add (nw w31) 1) (string (ByteArray.mk #[113] ++ s146)) w148 (fun w150 =>
(st1 (add (nw w31) 2) (string (ByteArray.mk #[])) w150 (fun w152 =>
(z29 (some (nw w31)) (w152))))))))))))))))))))) ∧ (atW (alloc w139 (cells (Array.mk [int u8 (wrap u8 (wrap i64 (97 + wrap i64 (Int.tdiv x27 16)))), int u8 (wrap u8 (wrap i64 (97 + Int.tmod x27 16)))]) 5 (0, 0))) (fun w153 =>
((∃ v154 : Value, (∃ w155 : World, ((Sem.run Tryd.prog (convert 27 9 (slice (some (nw w30)) 1 1)) w153 = Result.ok v154 w155) ∧ (∃ s156 : ByteArray, ((v154 = string s156) ∧ (∃ v157 : Value, (∃ w158 : World, ((Sem.run Tryd.prog (convert 27 9 (slice (some (nw w139)) 2 2)) w155 = Result.ok v157 w158) ∧ (∃ s159 : ByteArray, ((v157 = string s159) ∧ ((1 + ByteArray.size s159 ≤ 9223372036854775807) ∧ (st1 (add (nw w31) 0) (string s156) w158 (fun w161 =>
(st1 (add (nw w31) 1) (string (ByteArray.mk #[113] ++ s159)) w161 (fun w163 =>
(st1 (add (nw w31) 2) (string (ByteArray.mk #[])) w163 (fun w165 =>
(z29 (some (nw w31)) (w165))))))))))))))))))) ∧ (∃ v166 : Value, (∃ w167 : World, ((Sem.run Tryd.prog (convert 27 9 (slice (some (nw w139)) 2 2)) w153 = Result.ok v166 w167) ∧ (∃ s168 : ByteArray, ((v166 = string s168) ∧ ((1 + ByteArray.size s168 ≤ 9223372036854775807) ∧ (∃ v169 : Value, (∃ w170 : World, ((Sem.run Tryd.prog (convert 27 9 (slice (some (nw w30)) 1 1)) w167 = Result.ok v169 w170) ∧ (∃ s171 : ByteArray, ((v169 = string s171) ∧ (st1 (add (nw w31) 0) (string s171) w170 (fun w173 =>
(st1 (add (nw w31) 1) (string (ByteArray.mk #[113] ++ s168)) w173 (fun w175 =>
(st1 (add (nw w31) 2) (string (ByteArray.mk #[])) w175 (fun w177 =>
(z29 (some (nw w31)) (w177))))))))))))))))))))))))))))) ∧ ((atW (alloc w30 (cells (Array.mk [int u8 (wrap u8 (wrap i64 (97 + wrap i64 (Int.tdiv x27 16)))), int u8 (wrap u8 (wrap i64 (97 + Int.tmod x27 16)))]) 5 (0, 0))) (fun w178 =>
((atW (alloc w178 (cells (Array.mk [int u8 (wrap u8 (wrap i64 (97 + Int.tmod x27 (wrap i64 (1 + wrap i64 (Int.tmod names 8))))))]) 5 (0, 0))) (fun w179 =>
((∃ v180 : Value, (∃ w181 : World, ((Sem.run Tryd.prog (convert 27 9 (slice (some (nw w178)) 1 1)) w179 = Result.ok v180 w181) ∧ (∃ s182 : ByteArray, ((v180 = string s182) ∧ ((∃ v183 : Value, (∃ w184 : World, ((Sem.run Tryd.prog (convert 27 9 (slice (some (nw w30)) 2 2)) w181 = Result.ok v183 w184) ∧ (∃ s185 : ByteArray, ((v183 = string s185) ∧ ((1 + ByteArray.size s185 ≤ 9223372036854775807) ∧ (atW (alloc w184 (cells (Array.mk [string (ByteArray.mk #[]), string (ByteArray.mk #[]), string (ByteArray.mk #[])]) 31 (0, 0))) (fun w186 =>
(st1 (add (nw w184) 0) (string s182) w186 (fun w188 =>
(st1 (add (nw w184) 1) (string (ByteArray.mk #[113] ++ s185)) w188 (fun w190 =>
(st1 (add (nw w184) 2) (string (ByteArray.mk #[])) w190 (fun w192 =>
(z29 (some (nw w184)) (w192)))))))))))))))) ∧ (atW (alloc w181 (cells (Array.mk [string (ByteArray.mk #[]), string (ByteArray.mk #[]), string (ByteArray.mk #[])]) 31 (0, 0))) (fun w193 =>
(∃ v194 : Value, (∃ w195 : World, ((Sem.run Tryd.prog (convert 27 9 (slice (some (nw w30)) 2 2)) w193 = Result.ok v194 w195) ∧ (∃ s196 : ByteArray, ((v194 = string s196) ∧ ((1 + ByteArray.size s196 ≤ 9223372036854775807) ∧ (st1 (add (nw w181) 0) (string s182) w195 (fun w198 =>
(st1 (add (nw w181) 1) (string (ByteArray.mk #[113] ++ s196)) w198 (fun w200 =>
(st1 (add (nw w181) 2) (string (ByteArray.mk #[])) w200 (fun w202 =>
(z29 (some (nw w181)) (w202)))))))))))))))))))))) ∧ ((∃ v203 : Value, (∃ w204 : World, ((Sem.run Tryd.prog (convert 27 9 (slice (some (nw w30)) 2 2)) w179 = Result.ok v203 w204) ∧ (∃ s205 : ByteArray, ((v203 = string s205) ∧ ((1 + ByteArray.size s205 ≤ 9223372036854775807) ∧ ((∃ v206 : Value, (∃ w207 : World, ((Sem.run Tryd.prog (convert 27 9 (slice (some (nw w178)) 1 1)) w204 = Result.ok v206 w207) ∧ (∃ s208 : ByteArray, ((v206 = string s208) ∧ (atW (alloc w207 (cells (Array.mk [string (ByteArray.mk #[]), string (ByteArray.mk #[]), string (ByteArray.mk #[])]) 31 (0, 0))) (fun w209 =>
(st1 (add (nw w207) 0) (string s208) w209 (fun w211 =>
(st1 (add (nw w207) 1) (string (ByteArray.mk #[113] ++ s205)) w211 (fun w213 =>
(st1 (add (nw w207) 2) (string (ByteArray.mk #[])) w213 (fun w215 =>
(z29 (some (nw w207)) (w215))))))))))))))) ∧ (atW (alloc w204 (cells (Array.mk [string (ByteArray.mk #[]), string (ByteArray.mk #[]), string (ByteArray.mk #[])]) 31 (0, 0))) (fun w216 =>
(∃ v217 : Value, (∃ w218 : World, ((Sem.run Tryd.prog (convert 27 9 (slice (some (nw w178)) 1 1)) w216 = Result.ok v217 w218) ∧ (∃ s219 : ByteArray, ((v217 = string s219) ∧ (st1 (add (nw w204) 0) (string s219) w218 (fun w221 =>
(st1 (add (nw w204) 1) (string (ByteArray.mk #[113] ++ s205)) w221 (fun w223 =>
(st1 (add (nw w204) 2) (string (ByteArray.mk #[])) w223 (fun w225 =>
(z29 (some (nw w204)) (w225)))))))))))))))))))))) ∧ (atW (alloc w179 (cells (Array.mk [string (ByteArray.mk #[]), string (ByteArray.mk #[]), string (ByteArray.mk #[])]) 31 (0, 0))) (fun w226 =>
((∃ v227 : Value, (∃ w228 : World, ((Sem.run Tryd.prog (convert 27 9 (slice (some (nw w178)) 1 1)) w226 = Result.ok v227 w228) ∧ (∃ s229 : ByteArray, ((v227 = string s229) ∧ (∃ v230 : Value, (∃ w231 : World, ((Sem.run Tryd.prog (convert 27 9 (slice (some (nw w30)) 2 2)) w228 = Result.ok v230 w231) ∧ (∃ s232 : ByteArray, ((v230 = string s232) ∧ ((1 + ByteArray.size s232 ≤ 9223372036854775807) ∧ (st1 (add (nw w179) 0) (string s229) w231 (fun w234 =>
(st1 (add (nw w179) 1) (string (ByteArray.mk #[113] ++ s232)) w234 (fun w236 =>
(st1 (add (nw w179) 2) (string (ByteArray.mk #[])) w236 (fun w238 =>
(z29 (some (nw w179)) (w238))))))))))))))))))) ∧ (∃ v239 : Value, (∃ w240 : World, ((Sem.run Tryd.prog (convert 27 9 (slice (some (nw w30)) 2 2)) w226 = Result.ok v239 w240) ∧ (∃ s241 : ByteArray, ((v239 = string s241) ∧ ((1 + ByteArray.size s241 ≤ 9223372036854775807) ∧ (∃ v242 : Value, (∃ w243 : World, ((Sem.run Tryd.prog (convert 27 9 (slice (some (nw w178)) 1 1)) w240 = Result.ok v242 w243) ∧ (∃ s244 : ByteArray, ((v242 = string s244) ∧ (st1 (add (nw w179) 0) (string s244) w243 (fun w246 =>
(st1 (add (nw w179) 1) (string (ByteArray.mk #[113] ++ s241)) w246 (fun w248 =>
(st1 (add (nw w179) 2) (string (ByteArray.mk #[])) w248 (fun w250 =>
(z29 (some (nw w179)) (w250)))))))))))))))))))))))))) ∧ ((∃ v251 : Value, (∃ w252 : World, ((Sem.run Tryd.prog (convert 27 9 (slice (some (nw w30)) 2 2)) w178 = Result.ok v251 w252) ∧ (∃ s253 : ByteArray, ((v251 = string s253) ∧ ((1 + ByteArray.size s253 ≤ 9223372036854775807) ∧ ((atW (alloc w252 (cells (Array.mk [int u8 (wrap u8 (wrap i64 (97 + Int.tmod x27 (wrap i64 (1 + wrap i64 (Int.tmod names 8))))))]) 5 (0, 0))) (fun w254 =>
((∃ v255 : Value, (∃ w256 : World, ((Sem.run Tryd.prog (convert 27 9 (slice (some (nw w252)) 1 1)) w254 = Result.ok v255 w256) ∧ (∃ s257 : ByteArray, ((v255 = string s257) ∧ (atW (alloc w256 (cells (Array.mk [string (ByteArray.mk #[]), string (ByteArray.mk #[]), string (ByteArray.mk #[])]) 31 (0, 0))) (fun w258 =>
(st1 (add (nw w256) 0) (string s257) w258 (fun w260 =>
(st1 (add (nw w256) 1) (string (ByteArray.mk #[113] ++ s253)) w260 (fun w262 =>
(st1 (add (nw w256) 2) (string (ByteArray.mk #[])) w262 (fun w264 =>
(z29 (some (nw w256)) (w264))))))))))))))) ∧ (atW (alloc w254 (cells (Array.mk [string (ByteArray.mk #[]), string (ByteArray.mk #[]), string (ByteArray.mk #[])]) 31 (0, 0))) (fun w265 =>
(∃ v266 : Value, (∃ w267 : World, ((Sem.run Tryd.prog (convert 27 9 (slice (some (nw w252)) 1 1)) w265 = Result.ok v266 w267) ∧ (∃ s268 : ByteArray, ((v266 = string s268) ∧ (st1 (add (nw w254) 0) (string s268) w267 (fun w270 =>
(st1 (add (nw w254) 1) (string (ByteArray.mk #[113] ++ s253)) w270 (fun w272 =>
(st1 (add (nw w254) 2) (string (ByteArray.mk #[])) w272 (fun w274 =>
(z29 (some (nw w254)) (w274)))))))))))))))))) ∧ (atW (alloc w252 (cells (Array.mk [string (ByteArray.mk #[]), string (ByteArray.mk #[]), string (ByteArray.mk #[])]) 31 (0, 0))) (fun w275 =>
(atW (alloc w275 (cells (Array.mk [int u8 (wrap u8 (wrap i64 (97 + Int.tmod x27 (wrap i64 (1 + wrap i64 (Int.tmod names 8))))))]) 5 (0, 0))) (fun w276 =>
(∃ v277 : Value, (∃ w278 : World, ((Sem.run Tryd.prog (convert 27 9 (slice (some (nw w275)) 1 1)) w276 = Result.ok v277 w278) ∧ (∃ s279 : ByteArray, ((v277 = string s279) ∧ (st1 (add (nw w252) 0) (string s279) w278 (fun w281 =>
(st1 (add (nw w252) 1) (string (ByteArray.mk #[113] ++ s253)) w281 (fun w283 =>
(st1 (add (nw w252) 2) (string (ByteArray.mk #[])) w283 (fun w285 =>
(z29 (some (nw w252)) (w285)))))))))))))))))))))))) ∧ (atW (alloc w178 (cells (Array.mk [string (ByteArray.mk #[]), string (ByteArray.mk #[]), string (ByteArray.mk #[])]) 31 (0, 0))) (fun w286 =>
((atW (alloc w286 (cells (Array.mk [int u8 (wrap u8 (wrap i64 (97 + Int.tmod x27 (wrap i64 (1 + wrap i64 (Int.tmod names 8))))))]) 5 (0, 0))) (fun w287 =>
((∃ v288 : Value, (∃ w289 : World, ((Sem.run Tryd.prog (convert 27 9 (slice (some (nw w286)) 1 1)) w287 = Result.ok v288 w289) ∧ (∃ s290 : ByteArray, ((v288 = string s290) ∧ (∃ v291 : Value, (∃ w292 : World, ((Sem.run Tryd.prog (convert 27 9 (slice (some (nw w30)) 2 2)) w289 = Result.ok v291 w292) ∧ (∃ s293 : ByteArray, ((v291 = string s293) ∧ ((1 + ByteArray.size s293 ≤ 9223372036854775807) ∧ (st1 (add (nw w178) 0) (string s290) w292 (fun w295 =>
(st1 (add (nw w178) 1) (string (ByteArray.mk #[113] ++ s293)) w295 (fun w297 =>
(st1 (add (nw w178) 2) (string (ByteArray.mk #[])) w297 (fun w299 =>
(z29 (some (nw w178)) (w299))))))))))))))))))) ∧ (∃ v300 : Value, (∃ w301 : World, ((Sem.run Tryd.prog (convert 27 9 (slice (some (nw w30)) 2 2)) w287 = Result.ok v300 w301) ∧ (∃ s302 : ByteArray, ((v300 = string s302) ∧ ((1 + ByteArray.size s302 ≤ 9223372036854775807) ∧ (∃ v303 : Value, (∃ w304 : World, ((Sem.run Tryd.prog (convert 27 9 (slice (some (nw w286)) 1 1)) w301 = Result.ok v303 w304) ∧ (∃ s305 : ByteArray, ((v303 = string s305) ∧ (st1 (add (nw w178) 0) (string s305) w304 (fun w307 =>
(st1 (add (nw w178) 1) (string (ByteArray.mk #[113] ++ s302)) w307 (fun w309 =>
(st1 (add (nw w178) 2) (string (ByteArray.mk #[])) w309 (fun w311 =>
(z29 (some (nw w178)) (w311)))))))))))))))))))))) ∧ (∃ v312 : Value, (∃ w313 : World, ((Sem.run Tryd.prog (convert 27 9 (slice (some (nw w30)) 2 2)) w286 = Result.ok v312 w313) ∧ (∃ s314 : ByteArray, ((v312 = string s314) ∧ ((1 + ByteArray.size s314 ≤ 9223372036854775807) ∧ (atW (alloc w313 (cells (Array.mk [int u8 (wrap u8 (wrap i64 (97 + Int.tmod x27 (wrap i64 (1 + wrap i64 (Int.tmod names 8))))))]) 5 (0, 0))) (fun w315 =>
(∃ v316 : Value, (∃ w317 : World, ((Sem.run Tryd.prog (convert 27 9 (slice (some (nw w313)) 1 1)) w315 = Result.ok v316 w317) ∧ (∃ s318 : ByteArray, ((v316 = string s318) ∧ (st1 (add (nw w178) 0) (string s318) w317 (fun w320 =>
(st1 (add (nw w178) 1) (string (ByteArray.mk #[113] ++ s314)) w320 (fun w322 =>
(st1 (add (nw w178) 2) (string (ByteArray.mk #[])) w322 (fun w324 =>
(z29 (some (nw w178)) (w324)))))))))))))))))))))))))))) ∧ (atW (alloc w30 (cells (Array.mk [string (ByteArray.mk #[]), string (ByteArray.mk #[]), string (ByteArray.mk #[])]) 31 (0, 0))) (fun w325 =>
((atW (alloc w325 (cells (Array.mk [int u8 (wrap u8 (wrap i64 (97 + Int.tmod x27 (wrap i64 (1 + wrap i64 (Int.tmod names 8))))))]) 5 (0, 0))) (fun w326 =>
((∃ v327 : Value, (∃ w328 : World, ((Sem.run Tryd.prog (convert 27 9 (slice (some (nw w325)) 1 1)) w326 = Result.ok v327 w328) ∧ (∃ s329 : ByteArray, ((v327 = string s329) ∧ (atW (alloc w328 (cells (Array.mk [int u8 (wrap u8 (wrap i64 (97 + wrap i64 (Int.tdiv x27 16)))), int u8 (wrap u8 (wrap i64 (97 + Int.tmod x27 16)))]) 5 (0, 0))) (fun w330 =>
(∃ v331 : Value, (∃ w332 : World, ((Sem.run Tryd.prog (convert 27 9 (slice (some (nw w328)) 2 2)) w330 = Result.ok v331 w332) ∧ (∃ s333 : ByteArray, ((v331 = string s333) ∧ ((1 + ByteArray.size s333 ≤ 9223372036854775807) ∧ (st1 (add (nw w30) 0) (string s329) w332 (fun w335 =>
(st1 (add (nw w30) 1) (string (ByteArray.mk #[113] ++ s333)) w335 (fun w337 =>
(st1 (add (nw w30) 2) (string (ByteArray.mk #[])) w337 (fun w339 =>
(z29 (some (nw w30)) (w339))))))))))))))))))))) ∧ (atW (alloc w326 (cells (Array.mk [int u8 (wrap u8 (wrap i64 (97 + wrap i64 (Int.tdiv x27 16)))), int u8 (wrap u8 (wrap i64 (97 + Int.tmod x27 16)))]) 5 (0, 0))) (fun w340 =>
((∃ v341 : Value, (∃ w342 : World, ((Sem.run Tryd.prog (convert 27 9 (slice (some (nw w325)) 1 1)) w340 = Result.ok v341 w342) ∧ (∃ s343 : ByteArray, ((v341 = string s343) ∧ (∃ v344 : Value, (∃ w345 : World, ((Sem.run Tryd.prog (convert 27 9 (slice (some (nw w326)) 2 2)) w342 = Result.ok v344 w345) ∧ (∃ s346 : ByteArray, ((v344 = string s346) ∧ ((1 + ByteArray.size s346 ≤ 9223372036854775807) ∧ (st1 (add (nw w30) 0) (string s343) w345 (fun w348 =>
(st1 (add (nw w30) 1) (string (ByteArray.mk #[113] ++ s346)) w348 (fun w350 =>
(st1 (add (nw w30) 2) (string (ByteArray.mk #[])) w350 (fun w352 =>
(z29 (some (nw w30)) (w352))))))))))))))))))) ∧ (∃ v353 : Value, (∃ w354 : World, ((Sem.run Tryd.prog (convert 27 9 (slice (some (nw w326)) 2 2)) w340 = Result.ok v353 w354) ∧ (∃ s355 : ByteArray, ((v353 = string s355) ∧ ((1 + ByteArray.size s355 ≤ 9223372036854775807) ∧ (∃ v356 : Value, (∃ w357 : World, ((Sem.run Tryd.prog (convert 27 9 (slice (some (nw w325)) 1 1)) w354 = Result.ok v356 w357) ∧ (∃ s358 : ByteArray, ((v356 = string s358) ∧ (st1 (add (nw w30) 0) (string s358) w357 (fun w360 =>
(st1 (add (nw w30) 1) (string (ByteArray.mk #[113] ++ s355)) w360 (fun w362 =>
(st1 (add (nw w30) 2) (string (ByteArray.mk #[])) w362 (fun w364 =>
(z29 (some (nw w30)) (w364))))))))))))))))))))))))) ∧ (atW (alloc w325 (cells (Array.mk [int u8 (wrap u8 (wrap i64 (97 + wrap i64 (Int.tdiv x27 16)))), int u8 (wrap u8 (wrap i64 (97 + Int.tmod x27 16)))]) 5 (0, 0))) (fun w365 =>
((atW (alloc w365 (cells (Array.mk [int u8 (wrap u8 (wrap i64 (97 + Int.tmod x27 (wrap i64 (1 + wrap i64 (Int.tmod names 8))))))]) 5 (0, 0))) (fun w366 =>
((∃ v367 : Value, (∃ w368 : World, ((Sem.run Tryd.prog (convert 27 9 (slice (some (nw w365)) 1 1)) w366 = Result.ok v367 w368) ∧ (∃ s369 : ByteArray, ((v367 = string s369) ∧ (∃ v370 : Value, (∃ w371 : World, ((Sem.run Tryd.prog (convert 27 9 (slice (some (nw w325)) 2 2)) w368 = Result.ok v370 w371) ∧ (∃ s372 : ByteArray, ((v370 = string s372) ∧ ((1 + ByteArray.size s372 ≤ 9223372036854775807) ∧ (st1 (add (nw w30) 0) (string s369) w371 (fun w374 =>
(st1 (add (nw w30) 1) (string (ByteArray.mk #[113] ++ s372)) w374 (fun w376 =>
(st1 (add (nw w30) 2) (string (ByteArray.mk #[])) w376 (fun w378 =>
(z29 (some (nw w30)) (w378))))))))))))))))))) ∧ (∃ v379 : Value, (∃ w380 : World, ((Sem.run Tryd.prog (convert 27 9 (slice (some (nw w325)) 2 2)) w366 = Result.ok v379 w380) ∧ (∃ s381 : ByteArray, ((v379 = string s381) ∧ ((1 + ByteArray.size s381 ≤ 9223372036854775807) ∧ (∃ v382 : Value, (∃ w383 : World, ((Sem.run Tryd.prog (convert 27 9 (slice (some (nw w365)) 1 1)) w380 = Result.ok v382 w383) ∧ (∃ s384 : ByteArray, ((v382 = string s384) ∧ (st1 (add (nw w30) 0) (string s384) w383 (fun w386 =>
(st1 (add (nw w30) 1) (string (ByteArray.mk #[113] ++ s381)) w386 (fun w388 =>
(st1 (add (nw w30) 2) (string (ByteArray.mk #[])) w388 (fun w390 =>
(z29 (some (nw w30)) (w390)))))))))))))))))))))) ∧ (∃ v391 : Value, (∃ w392 : World, ((Sem.run Tryd.prog (convert 27 9 (slice (some (nw w325)) 2 2)) w365 = Result.ok v391 w392) ∧ (∃ s393 : ByteArray, ((v391 = string s393) ∧ ((1 + ByteArray.size s393 ≤ 9223372036854775807) ∧ (atW (alloc w392 (cells (Array.mk [int u8 (wrap u8 (wrap i64 (97 + Int.tmod x27 (wrap i64 (1 + wrap i64 (Int.tmod names 8))))))]) 5 (0, 0))) (fun w394 =>
(∃ v395 : Value, (∃ w396 : World, ((Sem.run Tryd.prog (convert 27 9 (slice (some (nw w392)) 1 1)) w394 = Result.ok v395 w396) ∧ (∃ s397 : ByteArray, ((v395 = string s397) ∧ (st1 (add (nw w30) 0) (string s397) w396 (fun w399 =>
(st1 (add (nw w30) 1) (string (ByteArray.mk #[113] ++ s393)) w399 (fun w401 =>
(st1 (add (nw w30) 2) (string (ByteArray.mk #[])) w401 (fun w403 =>
(z29 (some (nw w30)) (w403)))))))))))))))))))))))))))))))))) ∧ (∀ (_ : Nat → Value), (∀ (p405 : Option Addr), (∀ (w406 : World), ((z29 (p405) (w406)) → (onP (p405) (fun a407 =>
(∃ s408 : ByteArray, ((cell? w406 (add a407 0) = some (string s408)) ∧ (∃ s409 : ByteArray, ((cell? w406 (add a407 1) = some (string s409)) ∧ (∃ s410 : ByteArray, ((cell? w406 (add a407 2) = some (string s410)) ∧ (Ca Tryd.prog (8) (Array.mk [pointer p2, agg (Array.mk (List.reverse [string s410, string s409, string s408]))]) (w406) (fun v411 => (fun w412 =>
(∃ x413 : Int, ((v411 = int i64 x413) ∧ (ifK (x413 != 0)
(R (bool false) (w412))
(onP (p405) (fun a414 =>
(∃ s415 : ByteArray, ((cell? w412 (add a414 0) = some (string s415)) ∧ (∃ s416 : ByteArray, ((cell? w412 (add a414 1) = some (string s416)) ∧ (∃ s417 : ByteArray, ((cell? w412 (add a414 2) = some (string s417)) ∧ (Ca Tryd.prog (8) (Array.mk [pointer p2, agg (Array.mk (List.reverse [string s417, string s416, string s415]))]) (w412) (fun v418 => (fun w419 =>
(∃ x420 : Int, ((v418 = int i64 x420) ∧ (ifK (x420 != 0)
(R (bool false) (w419))
((z24 (wrap i64 (x27 + 1)) (w419)) ∧ (z25 (wrap i64 (x27 + 1)) w419 < z25 x27 w28))))))))))))))))))))))))))))))))))))
(Ca Tryd.prog (8) (Array.mk [pointer p2, agg (Array.mk [string (ByteArray.mk #[97]), string (ByteArray.mk #[113]), string (ByteArray.mk #[])])]) (w28) (fun v421 => (fun w422 =>
(∃ x423 : Int, ((v421 = int i64 x423) ∧ (ifK (x423 != 5)
(R (bool false) (w422))
(Ca Tryd.prog (9) (Array.mk [pointer p2]) (w422) (fun v424 => (fun w425 =>
(∃ p426 : Option Addr, (∃ n427 : Nat, (∃ n428 : Nat, ((v424 = slice p426 n427 n428) ∧ (ifK ((↑n427 : Int) != 32)
(R (bool false) (w425))
(Ca Tryd.prog (10) (Array.mk [pointer p2, string (ByteArray.mk #[113, 97, 97])]) (w425) (fun v429 => (fun w430 =>
(∃ x431 : Int, ((v429 = int i64 x431) ∧ (ifK (x431 != 1)
(R (bool false) (w430))
(Ca Tryd.prog (8) (Array.mk [pointer p2, agg (Array.mk [string (ByteArray.mk #[97]), string (ByteArray.mk #[113]), string (ByteArray.mk #[])])]) (w430) (fun v432 => (fun w433 =>
(∃ x434 : Int, ((v432 = int i64 x434) ∧ (ifK (x434 == 0)
(Ca Tryd.prog (11) (Array.mk [pointer p2, string (ByteArray.mk #[97])]) (w433) (fun v435 => (fun w436 =>
(∃ x437 : Int, ((v435 = int i64 x437) ∧ (ifK (x437 == 0)
(Ca Tryd.prog (12) (Array.mk [pointer p2]) (w436) (fun v438 => (fun w439 =>
(∃ p440 : Option Addr, (∃ n441 : Nat, (∃ n442 : Nat, ((v438 = slice p440 n441 n442) ∧ (ifK ((↑n441 : Int) == 7)
(Ca Tryd.prog (13) (Array.mk []) (w439) (fun v443 => (fun w444 =>
(∃ b445 : Bool, ((v443 = bool b445) ∧ (R (bool b445) (w444)))))))
(R (bool false) (w439))))))))))
(R (bool false) (w436))))))))
(R (bool false) (w433)))))))))))))))))))))))))))))))))))))))))))))))))))))))))))))))))))))))
theorem ca3 (kind : Int) (names : Int) (w : World) (R : Value → World → Prop) (h : W3 kind names w R) : Ca Tryd.prog 3 ⟨[(.int .u64 kind), (.int .u64 names)]⟩ w R :=
  caB (fn := Tryd.f3) (pl := pl3) (ls := ls3) Tryd.func3 (by kernel_rfl) (by kernel_rfl) h
end Go.Proofs.YtehhhkcemmfjpaaDoor

/- The walk of BindFull. -/
namespace Go.Proofs.YtehhhkcemmfjpaaDoor
open Go Go.Proofs.YtehhhkcemmfjpaaDoor Go.Proofs.YtehhhkcemmfjpaaDoor.St

/-- The text of these bytes. -/
def strOf (xs : List Int) : ByteArray := bs (xs.map fun a => UInt8.ofNat a.toNat)
theorem conv_ok {w : World} {k : Nat} (xs : List Int) {n : Nat} (hn : n = xs.length) (hx : ∀ x ∈ xs, 0 ≤ x ∧ x < 256) (h : w.heap[k]? = some (.cells (xs.map (Value.int .u8)).toArray 5 (0, 0))) :
    (convert 27 9 (.slice (some ⟨k, 0, none⟩) n n)).run Tryd.prog w = .ok (.string (strOf xs)) w := by
  have hl : n = (xs.map fun a => UInt8.ofNat a.toNat).length := by rw [List.length_map]; exact hn
  rw [hl]
  refine run_convert_bytes_back w _ _ 5 _ _ _ Tryd.underlying27 Tryd.underlying5 Tryd.underlying9 fun j hj => ?_
  rw [List.length_map] at hj
  rw [cl1 h]
  have h1 := hx _ (List.getElem_mem hj)
  simp only [List.getElem?_toArray, List.getElem?_map, List.getElem?_eq_getElem hj, Option.map_some, List.getElem_map]
  congr 2
  rw [UInt8.toNat_ofNat_of_lt' (by show _ < 256; omega)]
  omega
theorem conv1 {w : World} {k : Nat} {a : Int} (ha : 0 ≤ a ∧ a < 256) (h : w.heap[k]? = some (.cells (.mk [.int .u8 a]) 5 (0, 0))) :
    (convert 27 9 (.slice (some ⟨k, 0, none⟩) 1 1)).run Tryd.prog w = .ok (.string (strOf [a])) w := conv_ok [a] rfl (fun x hx => by rw [List.mem_singleton.1 hx]; exact ha) h
theorem conv2 {w : World} {k : Nat} {a b : Int} (ha : 0 ≤ a ∧ a < 256) (hb : 0 ≤ b ∧ b < 256) (h : w.heap[k]? = some (.cells (.mk [.int .u8 a, .int .u8 b]) 5 (0, 0))) :
    (convert 27 9 (.slice (some ⟨k, 0, none⟩) 2 2)).run Tryd.prog w = .ok (.string (strOf [a, b])) w := conv_ok [a, b] rfl (fun x hx => by
      simp only [List.mem_cons, List.not_mem_nil, or_false] at hx
      rcases hx with rfl | rfl <;> assumption) h
/-- These cells are n bytes, whose text is s. -/
def IsBytes (C : Array Value) (n : Nat) (s : ByteArray) : Prop := ∀ (w : World) (k : Nat), w.heap[k]? = some (.cells C 5 (0, 0)) → (convert 27 9 (.slice (some ⟨k, 0, none⟩) n n)).run Tryd.prog w = .ok (.string s) w
theorem conv_any {w : World} {k n : Nat} {C : Array Value} {s : ByteArray} (h : w.heap[k]? = some (.cells C 5 (0, 0))) (hC : IsBytes C n s) : (convert 27 9 (.slice (some ⟨k, 0, none⟩) n n)).run Tryd.prog w = .ok (.string s) w := hC w k h
theorem strOf_size (xs : List Int) : (strOf xs).size = xs.length := by rw [strOf, bs_size, List.length_map]
theorem new_fact {w u : World} {o : Obj} (h : u = w.alloc o) : u.heap[w.heap.size]? = some o ∧ Mod St.no w u := by subst h; exact ⟨new_at _ _, Mod.alloc _ _⟩

theorem plainB_eq7 (s : ByteArray) : plainB s = (lettersB s && decide (s.size > 0)) := by
  unfold plainB
  congr 1
  rw [byteArray_toList, byteArray_toList]
  have : s.size = s.data.toList.length := Array.length_toList.symm
  rw [this]
  cases s.data.toList with
  | nil => rfl
  | cons x r => exact (decide_eq_true (Nat.succ_pos _)).symm
theorem bs_append7 (a b : List UInt8) : bs a ++ bs b = bs (a ++ b) := by
  apply ByteArray.ext
  simp [bs]
/-! ### The names that the law makes -/
def exN (k : Int) (i : Nat) : Exc := ⟨strOf [97 + i], k, false⟩
def bnN (n i : Nat) : Bnd := ⟨strOf [97 + (i % n : Nat)], bs [113] ++ strOf [97 + (i / 16 : Nat), 97 + (i % 16 : Nat)], ⟨#[]⟩⟩
def exs (k : Int) (i : Nat) : List Exc := (List.range i).map (exN k)
def bns (n i : Nat) : List Bnd := (List.range i).map (bnN n)
theorem exs_succ (k : Int) (i : Nat) : exs k (i + 1) = exs k i ++ [exN k i] := by rw [exs, List.range_succ, List.map_append]; rfl
theorem bns_succ (n i : Nat) : bns n (i + 1) = bns n i ++ [bnN n i] := by rw [bns, List.range_succ, List.map_append]; rfl
theorem letter_of : ∀ i < 26, letter (97 + i) = true := by decide
theorem u8_of {i : Nat} (h : i < 26) : (UInt8.ofNat (97 + (i : Int)).toNat).toNat = 97 + i := by
  rw [UInt8.toNat_ofNat_of_lt' (by show _ < 256; omega)]; omega
theorem plain_list {l : List UInt8} (h : ∀ x ∈ l, letter x.toNat = true) (h0 : l ≠ []) : plainB (bs l) = true := by
  rw [plainB_eq7]
  have h1 : lettersB (bs l) = true := List.all_eq_true.2 h
  rw [h1, bs_size]
  have : 0 < l.length := List.length_pos_iff.2 h0
  simpa using this
theorem good_exN {k : Int} (hk : k = 1 ∨ k = 2 ∨ k = 3) {i : Nat} (hi : i < 26) : goodX (exN k i) = true := by
  rw [goodX, nameB]
  have h1 : plainB (exN k i).n = true := plain_list (by
    intro x hx
    simp only [List.map_cons, List.map_nil, List.mem_singleton] at hx
    rw [hx, u8_of hi]
    exact letter_of i hi) (by simp)
  have h2 : ((exN k i).n.size : Int) ≤ 20 := by show ((strOf _).size : Int) ≤ 20; rw [strOf_size]; simp
  rw [h1, decide_eq_true h2]
  have : (exN k i).k = k := rfl
  rw [this]
  rcases hk with rfl | rfl | rfl <;> rfl
theorem name_bnN {n i : Nat} (hi : i < 32) : nameB (bnN n i).q = true := by
  rw [nameB]
  have hq : (bnN n i).q = bs ([113] ++ ([97 + ((i / 16 : Nat) : Int), 97 + ((i % 16 : Nat) : Int)].map fun a => UInt8.ofNat a.toNat)) := bs_append7 _ _
  rw [hq]
  have h1 := plain_list (l := [113] ++ ([97 + ((i / 16 : Nat) : Int), 97 + ((i % 16 : Nat) : Int)].map fun a => UInt8.ofNat a.toNat)) (by
    intro x hx
    simp only [List.map_cons, List.map_nil, List.cons_append, List.nil_append, List.mem_cons, List.not_mem_nil, or_false] at hx
    rcases hx with rfl | rfl | rfl
    · decide
    · rw [u8_of (by omega)]; exact letter_of _ (by omega)
    · rw [u8_of (by omega)]; exact letter_of _ (by omega)) (by simp)
  rw [h1, bs_size]
  rfl
theorem strOf_inj {a b : List Int} (ha : ∀ x ∈ a, 0 ≤ x ∧ x < 256) (hb : ∀ x ∈ b, 0 ≤ x ∧ x < 256) (h : strOf a = strOf b) : a = b := by
  have h1 : a.map (fun a => UInt8.ofNat a.toNat) = b.map (fun a => UInt8.ofNat a.toNat) := by
    have := congrArg (fun s : ByteArray => s.data.toList) h
    simpa [strOf, bs] using this
  have h2 := congrArg (List.map fun x : UInt8 => (x.toNat : Int)) h1
  rw [List.map_map, List.map_map] at h2
  have h3 : ∀ l : List Int, (∀ x ∈ l, 0 ≤ x ∧ x < 256) → l.map ((fun x : UInt8 => (x.toNat : Int)) ∘ fun a => UInt8.ofNat a.toNat) = l := by
    intro l hl
    conv => rhs; rw [← List.map_id l]
    apply List.map_congr_left
    intro x hx
    have := hl x hx
    show ((UInt8.ofNat x.toNat).toNat : Int) = x
    rw [UInt8.toNat_ofNat_of_lt' (by show _ < 256; omega)]; omega
  rwa [h3 a ha, h3 b hb] at h2
theorem exN_inj {k k' : Int} {i j : Nat} (hi : i < 26) (hj : j < 26) (h : (exN k i).n = (exN k' j).n) : i = j := by
  have := strOf_inj (a := [97 + (i : Int)]) (b := [97 + (j : Int)]) (by simp; omega) (by simp; omega) h
  simp only [List.cons.injEq, and_true] at this
  omega
theorem bnN_inj {n i j : Nat} (hi : i < 32) (hj : j < 32) (h : (bnN n i).q = (bnN n j).q) : i = j := by
  have h1 : strOf [97 + ((i / 16 : Nat) : Int), 97 + ((i % 16 : Nat) : Int)] = strOf [97 + ((j / 16 : Nat) : Int), 97 + ((j % 16 : Nat) : Int)] := by
    have := congrArg (fun s : ByteArray => s.data.toList) h
    apply ByteArray.ext
    apply Array.toList_inj.1
    simpa [bnN, strOf, bs] using this
  have := strOf_inj (by simp; omega) (by simp; omega) h1
  simp only [List.cons.injEq, and_true] at this
  omega
theorem find_exs {k k' : Int} {m j : Nat} (hj : j < m) (hm : m ≤ 26) : findX (exN k' j).n (exs k m) = some (exN k j) := by
  induction m with
  | zero => omega
  | succ m ih =>
    rw [exs_succ, findX, List.find?_append]
    by_cases h : j < m
    · have := ih h (by omega)
      rw [findX] at this
      rw [this]; rfl
    · have : j = m := by omega
      subst this
      have hn : List.find? (fun e => (exN k' j).n == e.n) (exs k j) = none := by
        rw [List.find?_eq_none]
        intro e he
        obtain ⟨i, hi, rfl⟩ := List.mem_map.1 he
        intro hc
        have := exN_inj (by omega) (by have := List.mem_range.1 hi; omega) (eq_of_beq hc)
        have := List.mem_range.1 hi
        omega
      rw [hn]
      have : ((exN k' j).n == (exN k j).n) = true := beq_self_eq_true _
      simp [this]
theorem find_exs_none {k k' : Int} {m j : Nat} (hj : m ≤ j) (hm : j < 26) : findX (exN k' j).n (exs k m) = none := by
  rw [findX, List.find?_eq_none]
  intro e he
  obtain ⟨i, hi, rfl⟩ := List.mem_map.1 he
  intro hc
  have h1 := List.mem_range.1 hi
  have := exN_inj (by omega) (by omega) (eq_of_beq hc)
  omega
theorem bns_len (n i : Nat) : (bns n i).length = i := by simp [bns]
theorem exs_len (k : Int) (i : Nat) : (exs k i).length = i := by simp [exs]
theorem bnN_not {n i : Nat} (hi : i < 32) : bnN n i ∉ bns n i := by
  intro h
  obtain ⟨j, hj, e⟩ := List.mem_map.1 h
  have h1 := List.mem_range.1 hj
  have := bnN_inj (n := n) (i := j) (j := i) (by omega) hi (by rw [e])
  omega
theorem may_empty {x : Exc} : mayB x ⟨#[]⟩ = true := by
  have h1 : keyB ⟨#[]⟩ = true := by decide +kernel
  have h2 : patB ⟨#[]⟩ = true := by decide +kernel
  rw [mayB]
  split
  · exact h1
  · split
    · exact h2
    · exact decide_eq_true rfl
theorem decl_exN {k : Int} (hk : k = 1 ∨ k = 2 ∨ k = 3) {i : Nat} (hi : i < 8) : declR (exN k i) (exs k i) = 0 ∧ declD (exN k i) (exs k i) = exs k (i + 1) := by
  have hg := good_exN hk (i := i) (by omega)
  have hf := find_exs_none (k := k) (k' := k) (m := i) (j := i) (Nat.le_refl _) (by omega)
  rw [declR, declD, hg, hf, exs_len, exs_succ]
  simp only [if_true]
  rw [if_neg (by omega), if_pos (by simp; omega)]
  exact ⟨rfl, rfl⟩
theorem bind_bnN {k : Int} {n i : Nat} (hn : 0 < n) (hn8 : n ≤ 8) (hi : i < 32) : bindR (bnN n i) (exs k 8) (bns n i) = 0 ∧ bindB (bnN n i) (exs k 8) (bns n i) = bns n (i + 1) ∧ bindR (bnN n i) (exs k 8) (bns n (i + 1)) = 0 ∧ bindB (bnN n i) (exs k 8) (bns n (i + 1)) = bns n (i + 1) := by
  have hnm := name_bnN (n := n) hi
  have hlt : i % n < 8 := Nat.lt_of_lt_of_le (Nat.mod_lt _ hn) hn8
  have hf : findX (bnN n i).x (exs k 8) = some (exN k (i % n)) := find_exs (k := k) (k' := k) hlt (by omega)
  have hh : hx (bnN n i).x (exs k 8) = true := by rw [hx, hf]; rfl
  have hm : mayB (fx (bnN n i).x (exs k 8)) (bnN n i).p = true := may_empty
  have hb := bnN_not (n := n) hi
  have hb' : bnN n i ∈ bns n (i + 1) := by rw [bns_succ]; simp
  refine ⟨?_, ?_, ?_, ?_⟩
  · rw [bindR, if_neg (by rw [hnm]; decide), if_neg (by rw [hh]; decide), if_neg (by rw [hm]; decide), if_neg hb, if_neg (by rw [bns_len]; omega)]
  · rw [bindB, if_pos ⟨hnm, hh, hm, hb, by rw [bns_len]; exact hi⟩, bns_succ]
  · rw [bindR, if_neg (by rw [hnm]; decide), if_neg (by rw [hh]; decide), if_neg (by rw [hm]; decide), if_pos hb']
  · rw [bindB, if_neg (fun hc => hc.2.2.2.1 hb')]
/-! ### When all are there -/
theorem ex_a (k : Int) : (⟨⟨#[97]⟩, k, false⟩ : Exc) = exN k 0 := by
  rw [exN]; congr 1
theorem ex_z (k : Int) : (⟨⟨#[122]⟩, k, false⟩ : Exc) = exN k 25 := by
  rw [exN]; congr 1
theorem n_a (k : Int) : (⟨#[97]⟩ : ByteArray) = (exN k 0).n := congrArg Exc.n (ex_a k)
theorem decl_z {k : Int} (hk : k = 1 ∨ k = 2 ∨ k = 3) : declR (exN k 25) (exs k 8) = 5 ∧ declD (exN k 25) (exs k 8) = exs k 8 := by
  have hg := good_exN hk (i := 25) (by omega)
  have hf := find_exs_none (k := k) (k' := k) (m := 8) (j := 25) (by omega) (by omega)
  rw [declR, declD, hg, hf, exs_len]
  exact ⟨rfl, rfl⟩
theorem decl_a {k : Int} (hk : k = 1 ∨ k = 2 ∨ k = 3) : declR (exN k 0) (exs k 8) = 0 ∧ declD (exN k 0) (exs k 8) = exs k 8 := by
  have hg := good_exN hk (i := 0) (by omega)
  have hf := find_exs (k := k) (k' := k) (m := 8) (j := 0) (by omega) (by omega)
  rw [declR, declD, hg, hf]
  simp
theorem decl_o {k k' : Int} (hk : k' = 1 ∨ k' = 2 ∨ k' = 3) (hne : k ≠ k') : declR (exN k' 0) (exs k 8) = 12 ∧ declD (exN k' 0) (exs k 8) = exs k 8 := by
  have hg := good_exN hk (i := 0) (by omega)
  have hf := find_exs (k := k) (k' := k') (m := 8) (j := 0) (by omega) (by omega)
  have h : exN k 0 ≠ exN k' 0 := fun e => hne (congrArg Exc.k e)
  rw [declR, declD, hg, hf]
  simp [h]
def bnQ : Bnd := ⟨⟨#[97]⟩, ⟨#[113]⟩, ⟨#[]⟩⟩
theorem bnQ_not (n : Nat) : bnQ ∉ bns n 32 := by
  intro h
  obtain ⟨j, hj, e⟩ := List.mem_map.1 h
  have h1 := congrArg (fun b : Bnd => b.q.size) e
  have h2 : (bnN n j).q.size = 3 := by
    show (bs [113] ++ strOf _).size = 3
    rw [ByteArray.size_append, bs_size, strOf_size]; rfl
  have h3 : bnQ.q.size = 1 := rfl
  omega
theorem bnQ_ok {k : Int} {B : List Bnd} (hb : bnQ ∉ B) : bindR bnQ (exs k 8) B = (if B.length ≥ 32 then 5 else 0) ∧ bindB bnQ (exs k 8) B = (if B.length < 32 then B ++ [bnQ] else B) := by
  have hnm : nameB bnQ.q = true := by decide +kernel
  have hf : findX bnQ.x (exs k 8) = some (exN k 0) := by
    show findX ⟨#[97]⟩ _ = _
    rw [n_a k]
    exact find_exs (by omega) (by omega)
  have hh : hx bnQ.x (exs k 8) = true := by rw [hx, hf]; rfl
  have hm : mayB (fx bnQ.x (exs k 8)) bnQ.p = true := may_empty
  refine ⟨?_, ?_⟩
  · rw [bindR, if_neg (by rw [hnm]; decide), if_neg (by rw [hh]; decide), if_neg (by rw [hm]; decide), if_neg hb]
  · rw [bindB]
    split
    · rename_i hc
      rw [if_pos hc.2.2.2.2]
    · rename_i hc
      rw [if_neg (fun h => hc ⟨hnm, hh, hm, hb, h⟩)]
def bnLeft (n : Nat) : List Bnd := (bns n 32).filter fun b => !decide (b.q = ⟨#[113, 97, 97]⟩)
theorem qaa (n : Nat) : (⟨#[113, 97, 97]⟩ : ByteArray) = (bnN n 0).q := by
  show _ = bs [113] ++ strOf [97 + ((0 / 16 : Nat) : Int), 97 + ((0 % 16 : Nat) : Int)]
  decide +kernel
theorem bnLeft_len (n : Nat) : (bnLeft n).length = 31 := by
  rw [bnLeft, bns, List.filter_map, List.length_map]
  have : (List.range 32).filter ((fun b : Bnd => !decide (b.q = ⟨#[113, 97, 97]⟩)) ∘ bnN n) = (List.range 32).filter fun j => !decide (j = 0) := by
    apply List.filter_congr
    intro j hj
    have hj := List.mem_range.1 hj
    show (!decide ((bnN n j).q = _)) = _
    rw [qaa n]
    congr 1
    exact decide_eq_decide.2 ⟨fun h => bnN_inj hj (by omega) h, fun h => by rw [h]⟩
  rw [this]
  decide
theorem exsLeft_len (k : Int) : ((exs k 8).filter fun e => !(e.n == ⟨#[97]⟩)).length = 7 := by
  rw [exs, List.filter_map, List.length_map]
  have : (List.range 8).filter ((fun e : Exc => !(e.n == ⟨#[97]⟩)) ∘ exN k) = (List.range 8).filter fun j => !decide (j = 0) := by
    apply List.filter_congr
    intro j hj
    have hj := List.mem_range.1 hj
    show (!((exN k j).n == _)) = _
    rw [n_a k]
    congr 1
    rw [Bool.eq_iff_iff, beq_iff_eq, decide_eq_true_iff]
    exact ⟨fun h => exN_inj (by omega) (by omega) h, fun h => by rw [h]⟩
  rw [this]
  decide
theorem szle (a b : Int) : (1 : Nat) + (strOf [a, b]).size ≤ 9223372036854775807 := by rw [strOf_size]; simp

set_option maxRecDepth 100000 in
theorem full_walk (kind names : Int) (w : World) (hk0 : 0 ≤ kind) (hn0 : 0 ≤ names) (R : Value → World → Prop) (hR : ∀ w', Mod St.no w w' → R (.bool true) w') : Ca Tryd.prog 3 #[.int .u64 kind, .int .u64 names] w R := by
  refine ca3 kind names w R ?_
  have ek : ∃ κ : Int, IntKind.i64.wrap (1 + IntKind.i64.wrap (Int.tmod kind 3)) = κ ∧ (κ = 1 ∨ κ = 2 ∨ κ = 3) := by
    refine ⟨_, rfl, ?_⟩
    rw [Int.tmod_eq_emod_of_nonneg hk0, wrap64 (x := kind % 3) (by omega) (by omega), wrap64 (by omega) (by omega)]
    omega
  obtain ⟨κ, ek, hκ⟩ := ek
  have en : ∃ n : Nat, IntKind.i64.wrap (1 + IntKind.i64.wrap (Int.tmod names 8)) = (n : Int) ∧ 0 < n ∧ n ≤ 8 := by
    refine ⟨(1 + names % 8).toNat, ?_, by omega, by omega⟩
    rw [Int.tmod_eq_emod_of_nonneg hn0, wrap64 (x := names % 8) (by omega) (by omega), wrap64 (by omega) (by omega)]
    omega
  obtain ⟨n, en, hn1, hn8⟩ := en
  unfold W3
  rw [ek, en]
  clear ek en
  refine ⟨by decide, new_ok w _ fun w1 t m1 m2 hT n1 ht hm1 hm2 => ⟨_, rfl, (ifK_of (fun h => by cases h) (fun _ => ?_) : ifK false _ _)⟩⟩
  refine ⟨fun x w' => ∃ i : Nat, x = i ∧ i ≤ 8 ∧ Tbl w' t m1 m2 (exs κ i) [] ∧ Mod St.no w w', fun x _ => ((8 : Int) - x).toNat, ⟨0, rfl, by decide, hT, n1⟩, ?_⟩
  rintro _ _ w7 ⟨i, rfl, hi, hT7, n7⟩
  refine ifK_dec (fun hlt => ?_) (fun hge => ?_)
  · have ec : IntKind.u8.wrap (IntKind.i64.wrap (97 + (i : Int))) = 97 + (i : Int) := by rw [wrap64 (by omega) (by omega)]; show (97 + (i : Int)) % 256 = _; omega
    rw [ec]
    clear ec
    have e1 : IntKind.i64.wrap ((i : Int) + 1) = ((i + 1 : Nat) : Int) := (by first | (simp only [IntKind.wrap_i64]; omega) | omega)
    rw [e1]
    clear e1
    intro w8 e0
    have n8 : Mod no w7 w8 := by subst e0; exact Mod.alloc _ _
    have b8 : w8.heap[w7.heap.size]? = some (.cells #[.int .u8 (97 + (i : Int))] 5 (0, 0)) := by subst e0; exact new_at _ _
    clear e0
    refine ⟨_, _, conv1 (by omega) b8, _, rfl, ?_⟩
    obtain ⟨h1, h2⟩ := decl_exN hκ (i := i) (by omega)
    refine (declare_ok (hT7.no n8) (exN κ i) _ fun w13 hT13 n13 => ?_ : Ca _ _ _ _ _)
    rw [h1]
    rw [h2] at hT13
    refine ⟨_, rfl, (ifK_of (fun h => by cases h) (fun _ => ?_) : ifK false _ _)⟩
    exact ⟨⟨i + 1, rfl, by omega, hT13, (n7.trans n8).new n13 fun k hk => by cases hk; exact hm1⟩, by simp only; omega⟩
  obtain rfl : i = 8 := by omega
  rw [show (⟨#[122]⟩ : ByteArray) = (exN κ 25).n from congrArg Exc.n (ex_z κ)]
  obtain ⟨z1, z2⟩ := decl_z hκ
  obtain ⟨a1, a2⟩ := decl_a hκ
  have hκ' : Int.tmod κ 3 + 1 = 1 ∨ Int.tmod κ 3 + 1 = 2 ∨ Int.tmod κ 3 + 1 = 3 := by
    rw [Int.tmod_eq_emod_of_nonneg (by omega)]; omega
  have hne : κ ≠ Int.tmod κ 3 + 1 := by
    rw [Int.tmod_eq_emod_of_nonneg (by omega)]; omega
  have ek : IntKind.i64.wrap (Int.tmod κ 3 + 1) = Int.tmod κ 3 + 1 := by rw [wrap64 (by omega) (by omega)]
  obtain ⟨o1, o2⟩ := decl_o hκ' hne
  refine (declare_ok hT7 (exN κ 25) _ fun w16 hT16 n16 => ?_ : Ca _ _ _ _ _)
  rw [z1]
  rw [z2] at hT16
  have m16 := n7.new n16 fun k hk => by cases hk; exact hm1
  refine ⟨_, rfl, (ifK_of (fun h => by cases h) (fun _ => ?_) : ifK false _ _)⟩
  refine (declare_ok hT16 ⟨⟨#[97]⟩, κ, false⟩ _ fun w19 hT19 n19 => ?_ : Ca _ _ _ _ _)
  rw [ex_a κ, a1]
  rw [ex_a κ, a2] at hT19
  have m19 := m16.new n19 fun k hk => by cases hk; exact hm1
  refine ⟨_, rfl, (ifK_of (fun h => by cases h) (fun _ => ?_) : ifK false _ _)⟩
  refine ⟨by decide, ?_⟩
  rw [ek]
  refine (declare_ok hT19 ⟨⟨#[97]⟩, Int.tmod κ 3 + 1, false⟩ _ fun w22 hT22 n22 => ?_ : Ca _ _ _ _ _)
  rw [ex_a, o1]
  rw [ex_a, o2] at hT22
  have m22 := m19.new n22 fun k hk => by cases hk; exact hm1
  refine ⟨_, rfl, (ifK_of (fun h => by cases h) (fun _ => ?_) : ifK false _ _)⟩
  refine ⟨by decide, ?_⟩
  refine ⟨fun x w' => ∃ i : Nat, x = i ∧ i ≤ 32 ∧ Tbl w' t m1 m2 (exs κ 8) (bns n i) ∧ Mod St.no w w', fun x _ => ((32 : Int) - x).toNat, ⟨0, rfl, by decide, hT22, m22⟩, ?_⟩
  rintro _ _ w28 ⟨i, rfl, hi, hT28, n28⟩
  refine ifK_dec (fun hlt => ?_) (fun hge => ?_)
  · have hi : i < 32 := by omega
    have hmod : i % n < n := Nat.mod_lt _ hn1
    have ec1 : IntKind.u8.wrap (IntKind.i64.wrap (97 + Int.tmod (i : Int) (n : Int))) = 97 + ((i % n : Nat) : Int) := by
      rw [show Int.tmod (i : Int) (n : Int) = ((i % n : Nat) : Int) from by rw [Int.tmod_eq_emod_of_nonneg (by omega)]; rfl, wrap64 (by omega) (by omega)]
      show (97 + ((i % n : Nat) : Int)) % 256 = _; omega
    have ec2 : IntKind.u8.wrap (IntKind.i64.wrap (97 + IntKind.i64.wrap (Int.tdiv (i : Int) 16))) = 97 + ((i / 16 : Nat) : Int) := by
      rw [Int.tdiv_eq_ediv_of_nonneg (by omega), wrap64 (x := (i : Int) / 16) (by omega) (by omega), wrap64 (by omega) (by omega)]
      show (97 + (i : Int) / 16) % 256 = _; omega
    have ec3 : IntKind.u8.wrap (IntKind.i64.wrap (97 + Int.tmod (i : Int) 16)) = 97 + ((i % 16 : Nat) : Int) := by
      rw [Int.tmod_eq_emod_of_nonneg (by omega), wrap64 (by omega) (by omega)]
      show (97 + (i : Int) % 16) % 256 = _; omega
    have i1 : (0 : Int) ≤ 97 + ((i % n : Nat) : Int) ∧ 97 + ((i % n : Nat) : Int) < 256 := by omega
    have i2 : (0 : Int) ≤ 97 + ((i / 16 : Nat) : Int) ∧ 97 + ((i / 16 : Nat) : Int) < 256 := by omega
    have i3 : (0 : Int) ≤ 97 + ((i % 16 : Nat) : Int) ∧ 97 + ((i % 16 : Nat) : Int) < 256 := by omega
    rw [ec1, ec2, ec3]
    clear ec1 ec2 ec3
    have e1 : IntKind.i64.wrap ((i : Int) + 1) = ((i + 1 : Nat) : Int) := (by first | (simp only [IntKind.wrap_i64]; omega) | omega)
    rw [e1]
    clear e1
    refine ⟨fun p w' => ∃ k, p = some ⟨k, 0, none⟩ ∧ w28.heap.size ≤ k ∧ Bc w' k (bnN n i) ∧ Mod St.no w28 w', ?_, ?_⟩
    · intro w30 e0
      have fm : Mod no w28 w30 := by subst e0; exact Mod.drew _
      clear e0
      have hb1 : IsBytes (.mk [.int .u8 (97 + ((i % n : Nat) : Int))]) 1 (strOf [97 + ((i % n : Nat) : Int)]) := fun w k h => conv1 i1 h
      have hb2 : IsBytes (.mk [.int .u8 (97 + ((i / 16 : Nat) : Int)), .int .u8 (97 + ((i % 16 : Nat) : Int))]) 2 (strOf [97 + ((i / 16 : Nat) : Int), 97 + ((i % 16 : Nat) : Int)]) := fun w k h => conv2 i2 i3 h
      have g0 := fm.size
      refine ⟨by omega, by decide, by decide, ?_⟩
      repeat' first
        | refine Exists.intro _ (Exists.intro _ (And.intro (conv_any (by first | exact f1 | exact f2 | exact f3) (by first | exact hb1 | exact hb2)) (Exists.intro _ (And.intro rfl ?_))))
        | with_reducible refine And.intro (szle _ _) ?_
        | (have _ := f2; intro u e0; have g3 := fm.size; obtain ⟨f3, nn⟩ := new_fact e0; clear e0; have f1 := nn.at' f1; have f2 := nn.at' f2; have fm := fm.trans nn; clear nn)
        | (have _ := f1; intro u e0; have g2 := fm.size; obtain ⟨f2, nn⟩ := new_fact e0; clear e0; have f1 := nn.at' f1; have fm := fm.trans nn; clear nn)
        | (intro u e0; have g1 := fm.size; obtain ⟨f1, nn⟩ := new_fact e0; clear e0; have fm := fm.trans nn; clear nn)
        | exact put3 f1 fun w' nn b => ⟨_, rfl, g1, b, fm.new nn fun k hk => by rw [show k = _ from hk]; exact g1⟩
        | exact put3 f2 fun w' nn b => ⟨_, rfl, g2, b, fm.new nn fun k hk => by rw [show k = _ from hk]; exact g2⟩
        | exact put3 f3 fun w' nn b => ⟨_, rfl, g3, b, fm.new nn fun k hk => by rw [show k = _ from hk]; exact g3⟩
        | refine ⟨?_, ?_⟩
    rintro _ _ w406 ⟨k, rfl, hk, b406, n406⟩
    obtain ⟨h1, h2, h3, h4⟩ := bind_bnN (k := κ) hn1 hn8 hi
    have hm2' : m2 < w28.heap.size := by obtain ⟨_, _, q, _⟩ := hT28.b; exact lt_of_heap q
    refine ⟨_, by rw [cl1 b406]; rfl, _, by rw [cl1 b406]; rfl, _, by rw [cl1 b406]; rfl, (bind_ok (hT28.no n406) (bnN n i) (by show (ByteArray.mk #[]).size < _; decide) _ fun w412 hT412 n412 => ?_ : Ca _ _ _ _ _)⟩
    rw [h1]
    rw [h2] at hT412
    have b412 := n412.at b406 (fun hS => by have e : k = m2 := hS; omega)
    refine ⟨_, rfl, (ifK_of (fun h => by cases h) (fun _ => ?_) : ifK false _ _)⟩
    refine ⟨_, by rw [cl1 b412]; rfl, _, by rw [cl1 b412]; rfl, _, by rw [cl1 b412]; rfl, (bind_ok hT412 (bnN n i) (by show (ByteArray.mk #[]).size < _; decide) _ fun w419 hT419 n419 => ?_ : Ca _ _ _ _ _)⟩
    rw [h3]
    rw [h4] at hT419
    refine ⟨_, rfl, (ifK_of (fun h => by cases h) (fun _ => ?_) : ifK false _ _)⟩
    exact ⟨⟨i + 1, rfl, by omega, hT419, ((n28.trans n406).new n412 fun k hk => by cases hk; exact hm2).new n419 fun k hk => by cases hk; exact hm2⟩, by simp only; omega⟩
  obtain rfl : i = 32 := by omega
  obtain ⟨q1, q2⟩ := bnQ_ok (k := κ) (bnQ_not n)
  rw [bns_len, if_pos (by omega)] at q1
  rw [bns_len, if_neg (by omega)] at q2
  refine (bind_ok hT28 bnQ (by decide) _ fun w422 hT422 n422 => ?_ : Ca _ _ _ _ _)
  rw [q1]
  rw [q2] at hT422
  have m422 := n28.new n422 fun k hk => by cases hk; exact hm2
  refine ⟨_, rfl, (ifK_of (fun h => by cases h) (fun _ => ?_) : ifK false _ _)⟩
  refine bindings_ok hT422 (by rw [bns_len]; decide) _ fun w425 pp ll cc bs' hbs hpb _ n425 _ => ⟨_, _, _, rfl, ?_⟩
  have z : ll = 32 := by have h1 := hbs.len.1; have h2 := hpb.length_eq; rw [bns_len] at h2; omega
  subst z
  refine (ifK_of (fun h => by cases h) (fun _ => ?_) : ifK false _ _)
  have m425 := m422.trans n425
  refine forget_ok (hT422.no n425) ⟨#[113, 97, 97]⟩ (by rw [bns_len]; decide) _ fun w430 hT430 n430 => ?_
  have e1 : ((bns n 32).length : Int) - ((bns n 32).filter fun b => !decide (b.q = ⟨#[113, 97, 97]⟩)).length = 1 := by
    have := bnLeft_len n
    rw [bnLeft] at this
    rw [this, bns_len]; rfl
  rw [e1]
  have m430 := m425.new n430 fun k hk => by cases hk; exact hm2
  refine ⟨_, rfl, (ifK_of (fun h => by cases h) (fun _ => ?_) : ifK false _ _)⟩
  have hT430 : Tbl w430 t m1 m2 (exs κ 8) (bnLeft n) := hT430
  obtain ⟨q1, q2⟩ := bnQ_ok (k := κ) (B := bnLeft n) (fun h => bnQ_not n (List.mem_filter.1 h).1)
  rw [bnLeft_len, if_neg (by omega)] at q1
  rw [bnLeft_len, if_pos (by omega)] at q2
  refine (bind_ok hT430 bnQ (by decide) _ fun w433 hT433 n433 => ?_ : Ca _ _ _ _ _)
  rw [q1]
  rw [q2] at hT433
  have m433 := m430.new n433 fun k hk => by cases hk; exact hm2
  refine ⟨_, rfl, (ifK_of (fun _ => ?_) (fun h => by cases h) : ifK true _ _)⟩
  have hha : hx ⟨#[97]⟩ (exs κ 8) = true := by rw [n_a κ, hx, find_exs (k := κ) (k' := κ) (by omega) (by omega)]; rfl
  refine drop_ok hT433 ⟨#[97]⟩ (by rw [List.length_append, bnLeft_len]; decide) _ fun w436 hT436 n436 => ?_
  rw [hha] at hT436 ⊢
  simp only [if_true] at hT436
  have m436 := m433.new n436 fun k hk => by rcases hk with rfl | rfl <;> assumption
  refine ⟨_, rfl, (ifK_of (fun _ => ?_) (fun h => by cases h) : ifK true _ _)⟩
  refine exchanges_ok hT436 (by rw [exsLeft_len]; decide) _ fun w439 pp ll cc xs' hxs hpx _ n439 _ => ⟨_, _, _, rfl, ?_⟩
  have z : ll = 7 := by have h1 := hxs.len.1; have h2 := hpx.length_eq; rw [exsLeft_len] at h2; omega
  subst z
  refine (ifK_of (fun _ => ?_) (fun h => by cases h) : ifK true _ _)
  exact lives_ok w439 _ fun w'' m' => ⟨_, rfl, hR w'' ((m436.trans n439).trans m')⟩
theorem full_walkA (kind names : Int) (w : World) (hk : (Lit.int .u64 kind).wf = true) (hn : (Lit.int .u64 names).wf = true) (R : Value → World → Prop) (hR : ∀ w', Mod St.no w w' → R (.bool true) w') : Ca Tryd.prog 3 #[.int .u64 kind, .int .u64 names] w R := by
  have h1 : (decide ((0 : Int) ≤ kind) && decide (kind ≤ 18446744073709551615)) = true := hk
  have h2 : (decide ((0 : Int) ≤ names) && decide (names ≤ 18446744073709551615)) = true := hn
  rw [Bool.and_eq_true, decide_eq_true_iff, decide_eq_true_iff] at h1 h2
  exact full_walk kind names w h1.1 h2.1 R hR
end Go.Proofs.YtehhhkcemmfjpaaDoor
