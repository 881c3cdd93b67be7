/- Parts of the proof of ConsumerActsSaid. -/
import Derived.Test.YtmnbnjkbbhjocaaCore9
import Derived.Test.YtmnbnjkbbhjocaaProg
import Derived.Deep.Slices
import Derived.Deep.Fields
import Derived.ChangeSame
import Derived.Below
import Derived.Test.YtmnbnjkbbhjocaaZ4
/- The formulas of functions, printed by a program of mine (gen.py) out of the translation. -/
namespace Go.Proofs.Ytmnbnjkbbhjocaa
open Go Go.Proofs.Ytmnbnjkbbhjocaa.St
set_option maxRecDepth 100000

/-- staith/staithlaw17.ConsumerActs -/
noncomputable def C4 : Code := (Try.f4.body).getD .skip
def pl4 : Nat → Plan
  | 9 => (.quiet 0 (.quiet 2 (.quiet 3 (.quiet 7 (.fork (.eff 1 [3] (.eff 4 [] (.eff 5 [] (.quiet 6 .done)))) (.eff 4 [] (.eff 1 [3] (.eff 5 [] (.quiet 6 .done)))))))))
  | _ => .done
def ls4 : Nat → List (Nat × LT)
  | 7 => [(22, (.one (.int .i64)))]
  | 15 => [(0, .agg []), (44, (.one .slice)), (45, (.one (.int .i64))), (46, (.one (.int .i64)))]
  | 16 => [(46, (.one (.int .i64)))]
  | _ => []
def W4 (actsa : Option Addr) (actsl : Nat) (actsc : Nat) (w : World) (R : Value → World → Prop) : Prop :=
  (Ca Try.prog (8) (Array.mk []) (w) (fun v0 => (fun w1 =>
    (∃ p2 : Option Addr, ((v0 = Value.pointer p2) ∧ (atW (World.alloc w1 (Obj.cells (Array.mk [Value.slice none 0 0]) 44 (0, 0))) (fun w3 =>
      (Ca Try.prog (15) (Array.mk [Value.slice actsa actsl actsc]) (w3) (fun v4 => (fun w5 =>
        (∃ b6 : Bool, ((v4 = Value.bool b6) ∧ (ifK (!b6)
          (Ca Try.prog (14) (Array.mk []) (w5) (fun v7 => (fun w8 =>
            (∃ b9 : Bool, ((v7 = Value.bool b9) ∧ (R (Value.bool b9) (w8)))))))
          (∃ z10 : Int → World → Prop, (∃ z11 : Int → World → Nat, ((z10 (0) (w5)) ∧ (∀ (_ : Nat → Value), (∀ (x13 : Int), (∀ (w14 : World), ((z10 (x13) (w14)) → (ifK (decide (x13 < (↑actsl : Int)))
            (∃ a15 : Addr, ((actsa = some a15) ∧ (((0 : Int) ≤ x13) ∧ (((x13 : Int) < (↑actsl : Int)) ∧ (∃ x16 : Int, ((World.cell? w14 (Addr.add (Addr.add a15 (Int.toNat x13 * 5)) 0) = some (Value.int IntKind.i64 x16)) ∧ (∃ x17 : Int, ((World.cell? w14 (Addr.add (Addr.add a15 (Int.toNat x13 * 5)) 1) = some (Value.int IntKind.i64 x17)) ∧ (∃ s18 : ByteArray, ((World.cell? w14 (Addr.add (Addr.add a15 (Int.toNat x13 * 5)) 2) = some (Value.string s18)) ∧ (∃ x19 : Int, ((World.cell? w14 (Addr.add (Addr.add a15 (Int.toNat x13 * 5)) 3) = some (Value.int IntKind.i64 x19)) ∧ (∃ x20 : Int, ((World.cell? w14 (Addr.add (Addr.add a15 (Int.toNat x13 * 5)) 4) = some (Value.int IntKind.u64 x20)) ∧ (atW (World.alloc w14 (Obj.cells (Array.mk [Value.int IntKind.i64 0, Value.int IntKind.i64 0, Value.string (ByteArray.mk #[]), Value.int IntKind.i64 0, Value.int IntKind.u64 0]) 47 (0, 0))) (fun w21 =>
              ((∃ v22 : Value, (World.cell? w21 (Addr.add (Addr.mk (Array.size (World.heap w14)) 0 none) 0) = some v22)) ∧ ((World.frozen? w21 (Addr.add (Addr.mk (Array.size (World.heap w14)) 0 none) 0) = false) ∧ (atW (World.setCell w21 (Addr.add (Addr.mk (Array.size (World.heap w14)) 0 none) 0) (Value.int IntKind.i64 x16)) (fun w23 =>
                ((∃ v24 : Value, (World.cell? w23 (Addr.add (Addr.mk (Array.size (World.heap w14)) 0 none) 1) = some v24)) ∧ ((World.frozen? w23 (Addr.add (Addr.mk (Array.size (World.heap w14)) 0 none) 1) = false) ∧ (atW (World.setCell w23 (Addr.add (Addr.mk (Array.size (World.heap w14)) 0 none) 1) (Value.int IntKind.i64 x17)) (fun w25 =>
                  ((∃ v26 : Value, (World.cell? w25 (Addr.add (Addr.mk (Array.size (World.heap w14)) 0 none) 2) = some v26)) ∧ ((World.frozen? w25 (Addr.add (Addr.mk (Array.size (World.heap w14)) 0 none) 2) = false) ∧ (atW (World.setCell w25 (Addr.add (Addr.mk (Array.size (World.heap w14)) 0 none) 2) (Value.string s18)) (fun w27 =>
                    ((∃ v28 : Value, (World.cell? w27 (Addr.add (Addr.mk (Array.size (World.heap w14)) 0 none) 3) = some v28)) ∧ ((World.frozen? w27 (Addr.add (Addr.mk (Array.size (World.heap w14)) 0 none) 3) = false) ∧ (atW (World.setCell w27 (Addr.add (Addr.mk (Array.size (World.heap w14)) 0 none) 3) (Value.int IntKind.i64 x19)) (fun w29 =>
                      ((∃ v30 : Value, (World.cell? w29 (Addr.add (Addr.mk (Array.size (World.heap w14)) 0 none) 4) = some v30)) ∧ ((World.frozen? w29 (Addr.add (Addr.mk (Array.size (World.heap w14)) 0 none) 4) = false) ∧ (atW (World.setCell w29 (Addr.add (Addr.mk (Array.size (World.heap w14)) 0 none) 4) (Value.int IntKind.u64 x20)) (fun w31 =>
                        (∃ x32 : Int, ((World.cell? w31 (Addr.add (Addr.mk (Array.size (World.heap w14)) 0 none) 0) = some (Value.int IntKind.i64 x32)) ∧ (∃ x33 : Int, ((World.cell? w31 (Addr.add (Addr.mk (Array.size (World.heap w14)) 0 none) 1) = some (Value.int IntKind.i64 x33)) ∧ (∃ s34 : ByteArray, ((World.cell? w31 (Addr.add (Addr.mk (Array.size (World.heap w14)) 0 none) 2) = some (Value.string s34)) ∧ (∃ x35 : Int, ((World.cell? w31 (Addr.add (Addr.mk (Array.size (World.heap w14)) 0 none) 3) = some (Value.int IntKind.i64 x35)) ∧ (∃ x36 : Int, ((World.cell? w31 (Addr.add (Addr.mk (Array.size (World.heap w14)) 0 none) 4) = some (Value.int IntKind.u64 x36)) ∧ (Ca Try.prog (16) (Array.mk [Value.pointer p2, Value.pointer (some (Addr.mk (Array.size (World.heap w1)) 0 none)), Value.agg (Array.mk (List.reverse [Value.int IntKind.u64 x36, Value.int IntKind.i64 x35, Value.string s34, Value.int IntKind.i64 x33, Value.int IntKind.i64 x32]))]) (w31) (fun v37 => (fun w38 =>
                          (∃ b39 : Bool, ((v37 = Value.bool b39) ∧ (ifK (!b39)
                            (R (Value.bool false) (w38))
                            (Ca Try.prog (13) (Array.mk [Value.pointer p2]) (w38) (fun v40 => (fun w41 =>
                              (∃ p42 : Option Addr, (∃ n43 : Nat, (∃ n44 : Nat, ((v40 = Value.slice p42 n43 n44) ∧ (Ca Try.prog (18) (Array.mk [Value.pointer (some (Addr.mk (Array.size (World.heap w1)) 0 none))]) (w41) (fun v45 => (fun w46 =>
                                (∃ p47 : Option Addr, (∃ n48 : Nat, (∃ n49 : Nat, ((v45 = Value.slice p47 n48 n49) ∧ (Ca Try.prog (17) (Array.mk [Value.slice p42 n43 n44, Value.slice p47 n48 n49]) (w46) (fun v50 => (fun w51 =>
                                  (∃ b52 : Bool, ((v50 = Value.bool b52) ∧ (ifK (!b52)
                                    (R (Value.bool false) (w51))
                                    (∃ z53 : Option Addr → Nat → Nat → Int → Int → World → Prop, ((atW (World.drew w51) (fun w54 =>
                                      (∃ x55 : Int, ((World.cell? w54 (Addr.add (Addr.mk (Array.size (World.heap w14)) 0 none) 1) = some (Value.int IntKind.i64 x55)) ∧ ((Ca Try.prog (18) (Array.mk [Value.pointer (some (Addr.mk (Array.size (World.heap w1)) 0 none))]) (w54) (fun v56 => (fun w57 =>
                                        (∃ p58 : Option Addr, (∃ n59 : Nat, (∃ n60 : Nat, ((v56 = Value.slice p58 n59 n60) ∧ ((World.cell? w57 (Addr.add (Addr.add (Addr.mk (Array.size (World.heap w14)) 0 none) 1) 0) = some (Value.int IntKind.i64 x55)) ∧ (atW (World.alloc w57 (Obj.cells (Array.mk [Value.int IntKind.i64 x55]) 3 (0, 0))) (fun w61 =>
                                          (∃ v62 : Value, (∃ w63 : World, ((Sem.run Try.prog (Builtin.append_ (Array.mk [36, 36]) 36 (Array.mk [Value.slice p58 n59 n60, Value.slice (some (Addr.mk (Array.size (World.heap w57)) 0 none)) 1 1])) w61 = Result.ok v62 w63) ∧ (∃ p64 : Option Addr, (∃ n65 : Nat, (∃ n66 : Nat, ((v62 = Value.slice p64 n65 n66) ∧ (z53 (p64) (n65) (n66) ((↑n65 : Int)) (0) (w63))))))))))))))))))) ∧ (atW (World.alloc w54 (Obj.cells (Array.mk [Value.int IntKind.i64 x55]) 3 (0, 0))) (fun w67 =>
                                        (Ca Try.prog (18) (Array.mk [Value.pointer (some (Addr.mk (Array.size (World.heap w1)) 0 none))]) (w67) (fun v68 => (fun w69 =>
                                          (∃ p70 : Option Addr, (∃ n71 : Nat, (∃ n72 : Nat, ((v68 = Value.slice p70 n71 n72) ∧ ((World.cell? w69 (Addr.add (Addr.add (Addr.mk (Array.size (World.heap w14)) 0 none) 1) 0) = some (Value.int IntKind.i64 x55)) ∧ (∃ v73 : Value, (∃ w74 : World, ((Sem.run Try.prog (Builtin.append_ (Array.mk [36, 36]) 36 (Array.mk [Value.slice p70 n71 n72, Value.slice (some (Addr.mk (Array.size (World.heap w54)) 0 none)) 1 1])) w69 = Result.ok v73 w74) ∧ (∃ p75 : Option Addr, (∃ n76 : Nat, (∃ n77 : Nat, ((v73 = Value.slice p75 n76 n77) ∧ (z53 (p75) (n76) (n77) ((↑n76 : Int)) (0) (w74)))))))))))))))))))))))) ∧ (∀ (_ : Nat → Value), (∀ (p79 : Option Addr), (∀ (n80 : Nat), (∀ (n81 : Nat), (∀ (x82 : Int), (∀ (x83 : Int), (∀ (w84 : World), ((z53 (p79) (n80) (n81) (x82) (x83) (w84)) → (∃ z85 : Int → World → Prop, (∃ z86 : Int → World → Nat, ((z85 (x83) (w84)) ∧ (∀ (_ : Nat → Value), (∀ (x88 : Int), (∀ (w89 : World), ((z85 (x88) (w89)) → (ifK (decide (x88 < x82))
                                      (∃ a90 : Addr, ((p79 = some a90) ∧ (((0 : Int) ≤ x88) ∧ (((x88 : Int) < (↑n80 : Int)) ∧ (∃ x91 : Int, ((World.cell? w89 (Addr.add a90 (Int.toNat x88 * 1)) = some (Value.int IntKind.i64 x91)) ∧ (Ca Try.prog (19) (Array.mk [Value.pointer p2, Value.int IntKind.i64 x91]) (w89) (fun v92 => (fun w93 =>
                                        (∃ s94 : ByteArray, (∃ p95 : Option Addr, (∃ n96 : Nat, (∃ n97 : Nat, (∃ b98 : Bool, ((v92 = Value.tuple (Array.mk (List.reverse [Value.bool b98, Value.agg (Array.mk (List.reverse [Value.slice p95 n96 n97, Value.string s94]))]))) ∧ (atW (World.alloc w93 (Obj.cells (Array.mk [Value.string (ByteArray.mk #[]), Value.slice none 0 0]) 33 (0, 0))) (fun w99 =>
                                          ((∃ v100 : Value, (World.cell? w99 (Addr.add (Addr.mk (Array.size (World.heap w93)) 0 none) 0) = some v100)) ∧ ((World.frozen? w99 (Addr.add (Addr.mk (Array.size (World.heap w93)) 0 none) 0) = false) ∧ (atW (World.setCell w99 (Addr.add (Addr.mk (Array.size (World.heap w93)) 0 none) 0) (Value.string s94)) (fun w101 =>
                                            ((∃ v102 : Value, (World.cell? w101 (Addr.add (Addr.mk (Array.size (World.heap w93)) 0 none) 1) = some v102)) ∧ ((World.frozen? w101 (Addr.add (Addr.mk (Array.size (World.heap w93)) 0 none) 1) = false) ∧ (atW (World.setCell w101 (Addr.add (Addr.mk (Array.size (World.heap w93)) 0 none) 1) (Value.slice p95 n96 n97)) (fun w103 =>
                                              (Ca Try.prog (20) (Array.mk [Value.pointer (some (Addr.mk (Array.size (World.heap w1)) 0 none)), Value.int IntKind.i64 x91]) (w103) (fun v104 => (fun w105 =>
                                                (∃ x106 : Int, (∃ s107 : ByteArray, (∃ x108 : Int, (∃ p109 : Option Addr, (∃ n110 : Nat, (∃ n111 : Nat, (∃ b112 : Bool, ((v104 = Value.tuple (Array.mk (List.reverse [Value.bool b112, Value.agg (Array.mk (List.reverse [Value.slice p109 n110 n111, Value.int IntKind.i64 x108, Value.string s107, Value.int IntKind.i64 x106]))]))) ∧ (atW (World.alloc w105 (Obj.cells (Array.mk [Value.int IntKind.i64 0, Value.string (ByteArray.mk #[]), Value.int IntKind.i64 0, Value.slice none 0 0]) 53 (0, 0))) (fun w113 =>
                                                  ((∃ v114 : Value, (World.cell? w113 (Addr.add (Addr.mk (Array.size (World.heap w105)) 0 none) 0) = some v114)) ∧ ((World.frozen? w113 (Addr.add (Addr.mk (Array.size (World.heap w105)) 0 none) 0) = false) ∧ (atW (World.setCell w113 (Addr.add (Addr.mk (Array.size (World.heap w105)) 0 none) 0) (Value.int IntKind.i64 x106)) (fun w115 =>
                                                    ((∃ v116 : Value, (World.cell? w115 (Addr.add (Addr.mk (Array.size (World.heap w105)) 0 none) 1) = some v116)) ∧ ((World.frozen? w115 (Addr.add (Addr.mk (Array.size (World.heap w105)) 0 none) 1) = false) ∧ (atW (World.setCell w115 (Addr.add (Addr.mk (Array.size (World.heap w105)) 0 none) 1) (Value.string s107)) (fun w117 =>
                                                      ((∃ v118 : Value, (World.cell? w117 (Addr.add (Addr.mk (Array.size (World.heap w105)) 0 none) 2) = some v118)) ∧ ((World.frozen? w117 (Addr.add (Addr.mk (Array.size (World.heap w105)) 0 none) 2) = false) ∧ (atW (World.setCell w117 (Addr.add (Addr.mk (Array.size (World.heap w105)) 0 none) 2) (Value.int IntKind.i64 x108)) (fun w119 =>
                                                        ((∃ v120 : Value, (World.cell? w119 (Addr.add (Addr.mk (Array.size (World.heap w105)) 0 none) 3) = some v120)) ∧ ((World.frozen? w119 (Addr.add (Addr.mk (Array.size (World.heap w105)) 0 none) 3) = false) ∧ (atW (World.setCell w119 (Addr.add (Addr.mk (Array.size (World.heap w105)) 0 none) 3) (Value.slice p109 n110 n111)) (fun w121 =>
                                                          (ifK (!b98 == b112)
                                                            (R (Value.bool false) (w121))
                                                            (∃ s122 : ByteArray, ((World.cell? w121 (Addr.add (Addr.mk (Array.size (World.heap w93)) 0 none) 0) = some (Value.string s122)) ∧ (∃ s123 : ByteArray, ((World.cell? w121 (Addr.add (Addr.mk (Array.size (World.heap w105)) 0 none) 1) = some (Value.string s123)) ∧ (ifK (!ByteArray.toList s122 == ByteArray.toList s123)
                                                              (R (Value.bool false) (w121))
                                                              (∃ p124 : Option Addr, (∃ n125 : Nat, (∃ n126 : Nat, ((World.cell? w121 (Addr.add (Addr.mk (Array.size (World.heap w93)) 0 none) 1) = some (Value.slice p124 n125 n126)) ∧ (∃ p127 : Option Addr, (∃ n128 : Nat, (∃ n129 : Nat, ((World.cell? w121 (Addr.add (Addr.mk (Array.size (World.heap w105)) 0 none) 3) = some (Value.slice p127 n128 n129)) ∧ (Ca Try.prog (21) (Array.mk [Value.slice p124 n125 n126, Value.slice p127 n128 n129]) (w121) (fun v130 => (fun w131 =>
                                                                (∃ b132 : Bool, ((v130 = Value.bool b132) ∧ (ifK (!b132)
                                                                  (R (Value.bool false) (w131))
                                                                  ((z85 (IntKind.wrap IntKind.i64 (x88 + 1)) (w131)) ∧ (z86 (IntKind.wrap IntKind.i64 (x88 + 1)) w131 < z86 x88 w89))))))))))))))))))))))))))))))))))))))))))))))))))))))))))))))))))))))))))))
                                      ((z10 (IntKind.wrap IntKind.i64 (x13 + 1)) (w89)) ∧ (z11 (IntKind.wrap IntKind.i64 (x13 + 1)) w89 < z11 x13 w14))))))))))))))))))))))))))))))))))))))))))))))))))))))))))))))))))))))))))))))))))))))))))))
            (Ca Try.prog (14) (Array.mk []) (w14) (fun v133 => (fun w134 =>
              (∃ b135 : Bool, ((v133 = Value.bool b135) ∧ (R (Value.bool b135) (w134))))))))))))))))))))))))))))
theorem ca4 (actsa : Option Addr) (actsl : Nat) (actsc : Nat) (w : World) (R : Value → World → Prop) (h : W4 actsa actsl actsc w R) : Ca Try.prog 4 ⟨[(.slice actsa actsl actsc)]⟩ w R := by
  have h1 : Try.prog.follows .mixedOrders = true := by kernel_rfl
  have h2 : Try.f4.body = some C4 := by kernel_rfl
  have h3 : (Try.f4.name == "runtime.NumGoroutine") = false := by kernel_rfl
  have h6 : Try.f4.results.toList = [.tmp 2] := by kernel_rfl
  have h4 : Nat.ble 1 83 = true := by kernel_rfl
  have h5 : okCode 83 pl4 ls4 C4 0 = true := by kernel_rfl
  have e : W4 actsa actsl actsc w R = wpC none Try.prog 83 pl4 ls4 C4 0 (endP Try.prog [.tmp 2] R) (fr0 [(.slice actsa actsl actsc)]) [] w := by kernel_rfl
  exact ca_of' (P := Try.prog) (g := 4) (fn := Try.f4) (c := C4) (m := 83) (rs := [.tmp 2]) (args := [(.slice actsa actsl actsc)]) (pl := pl4) (ls := ls4) (w := w) (R := R) h1 Try.func4 h2 Try.ntmps4 h6 h3 h4 h5 (Eq.mp e h)
end Go.Proofs.Ytmnbnjkbbhjocaa

/- The law ConsumerActs, walked: whatever acts are done, both desks say the same. -/
namespace Go.Proofs.Ytmnbnjkbbhjocaa
open Go Go.Proofs.Ytmnbnjkbbhjocaa.St

theorem acts_ok (a : Option Addr) (l c : Nat) (acs : List ActC) (w : World) (hr : ArgRow actL w a l c acs) (R : Value → World → Prop) (h : ∀ w', Mod no w w' → R (.bool true) w') :
    Ca Try.prog 4 #[.slice a l c] w R := by
  have hal := hr.len
  have hlc := hr.lc
  have hcm := hr.cm
  refine ca4 a l c w R ?_
  refine new_dk w _ fun w1 m1 hd1 => ⟨_, rfl, ?_⟩
  intro w3 e3
  have m3 : Mod no w1 w3 := by subst e3; exact Mod.alloc _ _
  have b3 : w3.heap[w1.heap.size]? = some (.cells #[.slice none 0 0] 44 (0, 0)) := by subst e3; exact new_at _ _
  clear e3
  have t3 := two_new m1 hd1 m3 b3
  refine light_ok a l c acs w3 (hr.no t3.mod) _ fun w5 b m5 => ⟨b, rfl, ifK_not (fun _ => lives_ok w5 _ fun w' m' => ⟨true, rfl, h w' ((t3.no m5).mod.trans m')⟩) (fun _ => ?_)⟩
  refine ⟨fun x w' => ∃ (i : Nat) (F G : Nat → Prop) (ll rr : List One), x = i ∧ i ≤ l ∧ Two w no w' w.heap.size w1.heap.size F G ll rr ∧ Sync ll rr ∧ WF ll, fun x _ => ((l : Int) - x).toNat,
    ⟨0, _, _, [], [], rfl, Nat.zero_le _, t3.no m5, AllAt.nil, WF.nil⟩, ?_⟩
  clear t3 m5 b3 m3 hd1
  rintro _ _ w6 ⟨i, F, G, ll, rr, rfl, hi, t6, hs, hw⟩
  refine ifK_dec (fun hlt => ?_) (fun _ => lives_ok w6 _ fun w' m' => ⟨true, rfl, h w' (t6.mod.trans m')⟩)
  have e1 : IntKind.i64.wrap ((i : Int) + 1) = ((i + 1 : Nat) : Int) := by rw [wrap64 (by omega) (by omega)]; rfl
  rw [e1]
  clear e1
  refine copyAct (hr.no t6.mod) i rfl (by omega) fun w7 b7 m7 => ?_
  have hi' : i < acs.length := by omega
  refine ⟨acs[i].kind, by rw [cl1 b7]; rfl, acs[i].client, by rw [cl1 b7]; rfl, acs[i].queue, by rw [cl1 b7]; rfl, acs[i].n, by rw [cl1 b7]; rfl, acs[i].tag, by rw [cl1 b7]; rfl, ?_⟩
  have t7 := t6.no m7
  have hB : ¬ (F w6.heap.size ∨ G w6.heap.size) := by
    rintro (hk | hk)
    · exact Nat.lt_irrefl _ (t6.fb _ hk).2.1
    · exact Nat.lt_irrefl _ (t6.gb _ hk).2
  refine act_ok w7 _ _ _ F G ll rr _ _ _ _ _ w7 t7.self hs hw _ fun w8 F8 G8 l8 r8 t8' hs8 hw8 => ⟨true, rfl, (ifK_of (fun h => by cases h) (fun _ => ?_) : ifK (!true) _ _)⟩
  have t8 := t7.then t8'
  have b8 := t8'.mod.at b7 hB
  clear t8' t7 hs hw t6 m7 hB
  have hlen8 := hs8.len
  have h32 := hw8.len
  have hwt := hw8.tagsLt
  have hcl := hs8.clients
  -- all clients
  refine clients_ok _ F8 l8 w8 t8.dk (by omega) _ fun w9 pa pn pc ys hy hyp hys m9 hyn => ⟨_, _, _, rfl, ?_⟩
  refine clientsR_ok _ G8 r8 w9 (t8.no m9).rd (by omega) _ fun w10 qa qn qc zs hz hzp hzs m10 hzn => ⟨_, _, _, rfl, ?_⟩
  have hyl := hy.len.1
  have hzl := hz.len.1
  have hyr := hyp.length_eq
  rw [List.length_map] at hyr
  have heq : ys = zs := srt_eq (by rw [hyl]; exact hys) (by rw [hzl]; exact hzs) (hyp.trans (by rw [hcl]; exact hzp.symm))
  refine ints_ok _ _ _ _ _ _ _ _ w10 (hy.no m10) hz (by omega) _ fun w11 m11 => ⟨_, rfl, ?_⟩
  rw [decide_eq_true heq]
  refine (ifK_of (fun h => by cases h) (fun _ => ?_) : ifK (!true) _ _)
  have t11 := ((t8.no m9).no m10).no m11
  have b11 := m11.at' (m10.at' (m9.at' b8))
  clear hy hyp hys hyn hz hzp hzs hzn m9 m10 m11 hyl hzl hyr heq t8 b8
  -- of each of them, and of the act's
  refine ⟨fun p n m y x w' => ∃ zs : List Int, Ints .i64 3 w' p n m zs ∧ y = n ∧ x = 0 ∧ n ≤ 40 ∧ Two w no w' w.heap.size w1.heap.size F8 G8 l8 r8, ?_, ?_⟩
  · intro w12 e12
    have m12 : Mod no w11 w12 := by subst e12; exact Mod.drew _
    clear e12
    have t12 := t11.no m12
    have b12 := m12.at' b11
    refine ⟨acs[i].client, by rw [cl1 b12]; rfl, ?_, ?_⟩
    · refine clientsR_ok _ G8 r8 w12 t12.rd (by omega) _ fun w13 qa qn qc zs hz hzp _ m13 hzn => ⟨_, _, _, rfl, by rw [cl2 (m13.at' b12)]; rfl, ?_⟩
      intro w14 e14
      have m14 : Mod no w13 w14 := by subst e14; exact Mod.alloc _ _
      have b14 : w14.heap[w13.heap.size]? = some (.cells #[.int .i64 acs[i].client] 3 (0, 0)) := by subst e14; exact new_at _ _
      clear e14
      have hzl := hz.len.1
      have hzr := hzp.length_eq
      rw [List.length_map] at hzr
      obtain ⟨p', c', w15, hrun, h15, m15, hn15⟩ := (hz.no m14).push1 (P := Try.prog) (ty := 36) (oneInt _) rowInt b14 (by omega)
      have m12' := (m13.trans m14).new m15 hzn
      exact ⟨_, w15, hrun, _, _, _, rfl, _, h15, rfl, rfl, by omega, t12.no m12'⟩
    · intro w13 e13
      have m13 : Mod no w12 w13 := by subst e13; exact Mod.alloc _ _
      have b13 : w13.heap[w12.heap.size]? = some (.cells #[.int .i64 acs[i].client] 3 (0, 0)) := by subst e13; exact new_at _ _
      clear e13
      refine clientsR_ok _ G8 r8 w13 (t12.no m13).rd (by omega) _ fun w14 qa qn qc zs hz hzp _ m14 hzn => ⟨_, _, _, rfl, by rw [cl2 (m14.at' (m13.at' b12))]; rfl, ?_⟩
      have hzl := hz.len.1
      have hzr := hzp.length_eq
      rw [List.length_map] at hzr
      obtain ⟨p', c', w15, hrun, h15, m15, hn15⟩ := hz.push1 (P := Try.prog) (ty := 36) (oneInt _) rowInt (m14.at' b13) (by omega)
      have m13' := m14.new m15 hzn
      exact ⟨_, w15, hrun, _, _, _, rfl, _, h15, rfl, rfl, by omega, (t12.no m13).no m13'⟩
  rintro _ p n m _ _ w16 ⟨zs, hz, rfl, rfl, hn, t16⟩
  refine ⟨fun x w' => ∃ j : Nat, x = j ∧ j ≤ n ∧ Ints .i64 3 w' p n m zs ∧ Two w no w' w.heap.size w1.heap.size F8 G8 l8 r8, fun x _ => ((n : Int) - x).toNat, ⟨0, rfl, Nat.zero_le _, hz, t16⟩, ?_⟩
  clear hz t16 t11 b11 b7
  rintro _ _ w17 ⟨j, rfl, hj, hz, t17⟩
  refine ifK_dec (fun hjn => ?_) (fun _ => ⟨⟨i + 1, F8, G8, l8, r8, rfl, by omega, t17, hs8, hw8⟩, by simp only; omega⟩)
  rw [wSucc (i := j) (by omega)]
  refine hz.rd j rfl (by omega) ?_
  have hne : ∀ {b : Bool}, (!(b == b)) = false := fun {b} => by cases b <;> rfl
  have hne2 : ∀ {s : List UInt8}, (!(s == s)) = false := fun {s} => by simp
  have next : ∀ w', Mod no w17 w' → (∃ j' : Nat, ((j + 1 : Nat) : Int) = j' ∧ j' ≤ n ∧ Ints .i64 3 w' p n m zs ∧ Two w no w' w.heap.size w1.heap.size F8 G8 l8 r8) ∧ ((n : Int) - ((j + 1 : Nat) : Int)).toNat < ((n : Int) - (j : Int)).toNat :=
    fun w' m' => ⟨⟨j + 1, rfl, by omega, hz.no m', t17.no m'⟩, by omega⟩
  rcases allAt_find hs8 (hs8.client (at0 zs j)) with ⟨h1, h2, h3, h4⟩ | ⟨q, hq, hq', h1, h2, hrel, h3, h4⟩
  · refine hold_ok _ F8 l8 _ w17 t17.dk (fun x hx => by have := hwt x hx; omega) _ (fun _ w18 m18 => ?_) (fun x hx => by rw [h1] at hx; cases hx)
    refine ⟨_, _, _, _, _, rfl, ?_⟩
    intro w19 e19
    have m19 : Mod no w18 w19 := by subst e19; exact Mod.alloc _ _
    have b19 : w19.heap[w18.heap.size]? = some (.cells #[.string (ByteArray.mk #[]), .slice none 0 0] 33 (0, 0)) := by subst e19; exact new_at _ _
    clear e19
    refine fillC_ok (vs := [.string (ByteArray.mk #[]), .slice none 0 0]) b19 rfl fun w20 b20 m20 _ => ?_
    have m20' : Mod no w17 w20 := m18.trans (m19.new m20 fun k hk => by cases hk; exact Nat.le_refl _)
    refine findR_ok _ G8 r8 _ w20 (t17.no m20').rd _ (fun _ w21 m21 => ?_) (fun i hi hf => by rw [h4] at hf; cases hf)
    refine ⟨_, _, _, _, _, _, _, rfl, ?_⟩
    intro w22 e22
    have m22 : Mod no w21 w22 := by subst e22; exact Mod.alloc _ _
    have b22 : w22.heap[w21.heap.size]? = some (.cells #[.int .i64 0, .string (ByteArray.mk #[]), .int .i64 0, .slice none 0 0] 53 (0, 0)) := by subst e22; exact new_at _ _
    clear e22
    refine fillC_ok (vs := [.int .i64 0, .string (ByteArray.mk #[]), .int .i64 0, .slice none 0 0]) b22 rfl fun w23 b23 m23 _ => ?_
    have m23n : Mod no w20 w23 := m21.trans (m22.new m23 fun k hk => by cases hk; exact Nat.le_refl _)
    have b20' := m23n.at' b20
    refine ⟨_, by rw [cl1 b20']; rfl, _, by rw [cl1 b23]; rfl, ?_⟩
    refine ifK_of (fun hb => by rw [hne2] at hb; cases hb) (fun _ => ?_)
    refine ⟨none, 0, 0, by rw [cl1 b20']; rfl, none, 0, 0, by rw [cl1 b23]; rfl, ?_⟩
    refine tags_ok none 0 0 none 0 0 [] [] w23 (Els.nil _ _) (Els.nil _ _) (by decide) _ fun w24 m24 => ⟨_, rfl, (ifK_of (fun h => by cases h) (fun _ => ?_) : ifK (!true) _ _)⟩
    exact next w24 ((m20'.trans m23n).trans m24)
  · refine hold_ok _ F8 l8 _ w17 t17.dk (fun x hx => by have := hwt x hx; omega) _ (fun hx => by rw [h1] at hx; cases hx) (fun x hx w18 ra rl rc ys m18 hra hpy hsy hnra => ?_)
    have hxq : x = l8[q] := by rw [h1] at hx; exact (Option.some.inj hx).symm
    subst hxq
    refine ⟨_, _, _, _, _, rfl, ?_⟩
    intro w19 e19
    have m19 : Mod no w18 w19 := by subst e19; exact Mod.alloc _ _
    have b19 : w19.heap[w18.heap.size]? = some (.cells #[.string (ByteArray.mk #[]), .slice none 0 0] 33 (0, 0)) := by subst e19; exact new_at _ _
    clear e19
    refine fillC_ok (vs := [.string l8[q].queue, .slice ra rl rc]) b19 rfl fun w20 b20 m20 _ => ?_
    have m20n : Mod no w18 w20 := m19.new m20 fun k hk => by cases hk; exact Nat.le_refl _
    have m20' : Mod no w17 w20 := m18.trans m20n
    refine findR_ok _ G8 r8 _ w20 (t17.no m20').rd _ (fun hn => by rw [h4] at hn; cases hn) (fun q2 hq2 hf2 w21 ta tl tc m21 hta _ => ?_)
    have hqq : q2 = q := by rw [h4] at hf2; exact (Option.some.inj hf2).symm
    subst hqq
    refine ⟨_, _, _, _, _, _, _, rfl, ?_⟩
    intro w22 e22
    have m22 : Mod no w21 w22 := by subst e22; exact Mod.alloc _ _
    have b22 : w22.heap[w21.heap.size]? = some (.cells #[.int .i64 0, .string (ByteArray.mk #[]), .int .i64 0, .slice none 0 0] 53 (0, 0)) := by subst e22; exact new_at _ _
    clear e22
    refine fillC_ok (vs := [.int .i64 r8[q2].client, .string r8[q2].queue, .int .i64 r8[q2].most, .slice ta tl tc]) b22 rfl fun w23 b23 m23 _ => ?_
    have m23a : Mod no w21 w23 := m22.new m23 fun k hk => by cases hk; exact Nat.le_refl _
    have m23n : Mod no w20 w23 := m21.trans m23a
    have b20' := m23n.at' b20
    refine ⟨_, by rw [cl1 b20']; rfl, _, by rw [cl1 b23]; rfl, ?_⟩
    refine ifK_of (fun hb => by rw [hrel.queue, hne2] at hb; cases hb) (fun _ => ?_)
    refine ⟨ra, rl, rc, by rw [cl1 b20']; rfl, ta, tl, tc, by rw [cl1 b23]; rfl, ?_⟩
    have hyl := hra.len.1
    have heq : ys = r8[q2].tags := srt_eq (by rw [hyl]; exact hsy) hrel.srt (hpy.trans hrel.tags.symm)
    refine tags_ok _ _ _ _ _ _ _ _ w23 ((hra.no m20n).no m23n) (hta.no m23a) (by have := hwt _ (List.getElem_mem hq); have := hpy.length_eq; omega) _ fun w24 m24 => ⟨_, rfl, ?_⟩
    rw [decide_eq_true heq]
    refine (ifK_of (fun h => by cases h) (fun _ => ?_) : ifK (!true) _ _)
    exact next w24 ((m20'.trans m23n).trans m24)
end Go.Proofs.Ytmnbnjkbbhjocaa

/- An argument that is a list of the law's acts: it is read as it lies. -/
namespace Go.Proofs.Ytmnbnjkbbhjocaa
open Go Go.ChangeShapes Go.WideShapes Go.Deep Go.Proofs.Ytmnbnjkbbhjocaa.St

section
variable {H : Type} {enc : TypeId × Value → H} {P : Program} {w : World} {base : Nat} {spare : Nat → Bool} {held : Bool}
theorem open_slice_fields {t e : TypeId} {fs : Array Field} {fuel : Nat} {cs : List Value} {x : DataW H × List MemPlace} (ht : P.underlying t = some (.slice e)) (he : P.underlying e = some (.struct fs))
    (hone : oneCellFields P fs = true) (hC : P.cellsOf e = fs.size) (h : DataW.trod enc P w base spare held fuel t cs = some x) :
    (cs = [.slice none 0 0] ∧ x = (.nil, [])) ∨
    ∃ (a : Addr) (len cap m : Nat) (D : Nat → DataW H) (Pl : Nat → List MemPlace), cs = [.slice (some a) len cap] ∧ base ≤ a.block ∧ len ≤ cap ∧ cap ≤ maxLen ∧ m = (if spare a.block then cap else len) ∧
      x = (.slice ((List.range len).map D) ((List.range (m - len)).map fun j => D (len + j)), MemPlace.row a (m * fs.size) ++ (List.range m).flatMap Pl) ∧
      ∀ i, i < m → ∃ (ys : List (DataW H × List MemPlace)) (n : Nat), D i = .agg (ys.map (·.1)) ∧ Pl i = ys.flatMap (·.2) ∧ ys.length = fs.size ∧
        ∀ (j : Nat) (f : Field), fs[j]? = some f → ∃ (v : Value) (y : DataW H × List MemPlace), w.cell? (a.add (i * fs.size + j)) = some v ∧ ys[j]? = some y ∧ DataW.trod enc P w base spare held n f.type [v] = some y := by
  rcases open_slice ht h with h0 | ⟨a, len, cap, m, n, D, Pl, hcs, hb, hl, hm, hmm, hx, hi⟩
  · exact .inl h0
  · refine .inr ⟨a, len, cap, m, D, Pl, hcs, hb, hl, hm, hmm, by rw [hC] at hx; exact hx, fun i him => ?_⟩
    obtain ⟨cs', hc, ht'⟩ := hi i him
    rw [hC] at hc
    obtain ⟨ys, n', hn', hy, hlen, hyl, hf⟩ := DataW.trod_struct he ht'
    obtain ⟨_, hcl, hat⟩ := World.cells?_some hc
    simp only [Prod.mk.injEq] at hy
    refine ⟨ys, n', hy.1, hy.2, hyl, fun j f hj => ?_⟩
    obtain ⟨ho, hk⟩ := hone_of hone j f hj
    have hjl : j < fs.size := (Array.getElem?_eq_some_iff.1 hj).1
    have hcell := hat j hjl
    have hv : cs'[j]? = some (cs'[j]'(by omega)) := List.getElem?_eq_getElem (by omega)
    have h1 := hf j f hj
    rw [ho, hk] at h1
    have hone' : (cs'.drop j).take 1 = [cs'[j]'(by omega)] := by
      rw [List.drop_eq_getElem_cons (by omega)]
      rfl
    rw [hone'] at h1
    have hys : ys[j]? = some (ys[j]'(by omega)) := List.getElem?_eq_getElem (by omega)
    refine ⟨_, _, ?_, hys, h1.trans hys⟩
    rw [← Go.Deep.add_add, hcell, hv]
end

theorem cell_lt {w : World} {ad : Addr} {v : Value} (h : w.cell? ad = some v) : ad.block < w.heap.size := by
  unfold World.cell? at h
  cases hh : w.heap[ad.block]? with
  | none => rw [hh] at h; cases h
  | some o => exact lt_of_heap hh

theorem cellsAct : Try.prog.cellsOf 47 = 5 := by kernel_rfl
set_option maxRecDepth 100000 in
theorem args_acts {H : Type} {enc : TypeId × Value → H} {w : World} {v : Value} {d : DataW H} {p : List MemPlace} {base : Nat} {r : Reach} {b0 : Nat} (hv : Value.okWide Try.prog w r b0 40 v) (h : DataW.Trod enc Try.prog w base (fun _ => true) true 40 v d p) :
    ∃ a l c acs, v = .slice a l c ∧ ArgRow actL w a l c acs := by
  obtain ⟨a, l, c, rfl⟩ := okWide_slice Try.underlying40 hv
  obtain ⟨fuel, hf⟩ := h
  rcases open_slice_fields Try.underlying40 Try.underlying47 (by kernel_rfl) cellsAct hf with ⟨hcs, _⟩ | ⟨ad, len, cap, m, D, Pl, hcs, _, hl, hm, hmm, _, hi⟩
  · simp only [Value.cells, List.cons.injEq, and_true] at hcs
    injection hcs with h1 h2 h3
    subst h1; subst h2; subst h3
    exact ⟨none, 0, 0, [], rfl, rfl, Nat.le_refl _, by decide, fun ad h => (by cases h), fun i h => (by simp at h)⟩
  · simp only [Value.cells, List.cons.injEq, and_true] at hcs
    injection hcs with h1 h2 h3
    subst h1; subst h2; subst h3
    have hmc : m = c := by rw [hmm]; rfl
    have hone : ∀ i, i < l → ∃ x : ActC, ∀ j v, (actL.cs x)[j]? = some v → w.cell? (Addr.add ad (i * 5 + j)) = some v := by
      intro i hil
      obtain ⟨ys, n, _, _, _, hg⟩ := hi i (by omega)
      obtain ⟨v0, y0, hc0, _, ht0⟩ := hg 0 _ rfl
      obtain ⟨v1, y1, hc1, _, ht1⟩ := hg 1 _ rfl
      obtain ⟨v2, y2, hc2, _, ht2⟩ := hg 2 _ rfl
      obtain ⟨v3, y3, hc3, _, ht3⟩ := hg 3 _ rfl
      obtain ⟨v4, y4, hc4, _, ht4⟩ := hg 4 _ rfl
      obtain ⟨a0, e0, _, _⟩ := DataW.trod_int Try.underlying3 ht0
      obtain ⟨a1, e1, _, _⟩ := DataW.trod_int Try.underlying3 ht1
      obtain ⟨a2, e2, _, _⟩ := DataW.trod_string Try.underlying9 ht2
      obtain ⟨a3, e3, _, _⟩ := DataW.trod_int Try.underlying3 ht3
      obtain ⟨a4, e4, _, _⟩ := DataW.trod_int Try.underlying27 ht4
      simp only [List.cons.injEq, and_true] at e0 e1 e2 e3 e4
      subst e0 e1 e2 e3 e4
      refine ⟨⟨a0, a1, a2, a3, a4⟩, fun j v hj => ?_⟩
      match j, hj with
      | 0, hj => cases hj; exact hc0
      | 1, hj => cases hj; exact hc1
      | 2, hj => cases hj; exact hc2
      | 3, hj => cases hj; exact hc3
      | 4, hj => cases hj; exact hc4
      | j + 5, hj => simp [actL] at hj
    have hall : ∀ i, ∃ x : ActC, i < l → ∀ j v, (actL.cs x)[j]? = some v → w.cell? (Addr.add ad (i * 5 + j)) = some v := by
      intro i
      by_cases h : i < l
      · obtain ⟨x, hx⟩ := hone i h
        exact ⟨x, fun _ => hx⟩
      · exact ⟨⟨0, 0, ByteArray.mk #[], 0, 0⟩, fun h' => absurd h' h⟩
    obtain ⟨f, hf⟩ := Classical.axiomOfChoice hall
    refine ⟨some ad, l, c, (List.range l).map f, rfl, by simp, hl, by simpa [maxLen] using hm, fun ad' had hl0 => ?_, fun i h => ?_⟩
    · cases had
      have := cell_lt (hf 0 hl0 0 _ rfl)
      rwa [add_block] at this
    · refine ⟨ad, rfl, fun j v hj => ?_⟩
      rw [List.getElem_map, List.getElem_range] at hj
      have := hf i (by simpa using h) j v hj
      rwa [← Go.Deep.add_add] at this
end Go.Proofs.Ytmnbnjkbbhjocaa
