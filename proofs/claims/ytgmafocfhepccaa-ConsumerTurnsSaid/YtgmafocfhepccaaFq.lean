/- The formulas of functions, printed by a program of mine (gen.py) out of the translation. -/
import Derived.Test.YtgmafocfhepccaaCore9
import Derived.Test.YtgmafocfhepccaaProg
namespace Go.Proofs.Ytgmafocfhepccaa
open Go Go.Proofs.Ytgmafocfhepccaa.St
set_option maxRecDepth 100000

/-- slices.AppendSeq[[]uint64,uint64] -/
noncomputable def C66 : Code := (Try.f66.body).getD .skip
def pl66 : Nat → Plan := fun _ => .done
def ls66 : Nat → List (Nat × LT) := fun _ => []
def W66 (sa : Option Addr) (sl : Nat) (sc : Nat) (seq : Value) (w : World) (R : Value → World → Prop) : Prop :=
  (atW (World.alloc w (Obj.cells (Array.mk [Value.slice sa sl sc]) 31 (0, 0))) (fun w0 =>
    (rfW Try.prog (seq) (w0) (fun v1 => (fun w2 => (fun z3 => (fun z4 =>
      (onI IntKind.u64 (v1) (fun x5 =>
        (z3 (fun w6 =>
          (∃ p7 : Option Addr, (∃ n8 : Nat, (∃ n9 : Nat, ((World.cell? w6 (Addr.mk (Array.size (World.heap w)) 0 none) = some (Value.slice p7 n8 n9)) ∧ (atW (World.alloc w6 (Obj.cells (Array.mk [Value.int IntKind.u64 x5]) 27 (0, 0))) (fun w10 =>
            (∃ v11 : Value, (∃ w12 : World, ((Sem.run Try.prog (Builtin.append_ (Array.mk [31, 31]) 31 (Array.mk [Value.slice p7 n8 n9, Value.slice (some (Addr.mk (Array.size (World.heap w6)) 0 none)) 1 1])) w10 = Result.ok v11 w12) ∧ (∃ p13 : Option Addr, (∃ n14 : Nat, (∃ n15 : Nat, ((v11 = Value.slice p13 n14 n15) ∧ ((∃ v16 : Value, (World.cell? w12 (Addr.add (Addr.mk (Array.size (World.heap w)) 0 none) 0) = some v16)) ∧ ((World.frozen? w12 (Addr.add (Addr.mk (Array.size (World.heap w)) 0 none) 0) = false) ∧ (atW (World.setCell w12 (Addr.add (Addr.mk (Array.size (World.heap w)) 0 none) 0) (Value.slice p13 n14 n15)) (fun w17 =>
              (z4 (w17)))))))))))))))))))) (w2)))))))) (fun w18 =>
      (∃ p19 : Option Addr, (∃ n20 : Nat, (∃ n21 : Nat, ((World.cell? w18 (Addr.mk (Array.size (World.heap w)) 0 none) = some (Value.slice p19 n20 n21)) ∧ (((World.heap w18)[Array.size (World.heap w0)]? = some (Obj.deferred (some []))) ∧ (atW (World.putObj w18 (Array.size (World.heap w0)) (Obj.deferred none)) (fun w22 =>
        (R (Value.slice p19 n20 n21) (w22)))))))))))))
theorem ca66 (sa : Option Addr) (sl : Nat) (sc : Nat) (seq : Value) (w : World) (R : Value → World → Prop) (h : W66 sa sl sc seq w R) : Ca Try.prog 66 ⟨[(.slice sa sl sc), seq]⟩ w R := by
  have h1 : Try.prog.follows .mixedOrders = true := by kernel_rfl
  have h2 : Try.f66.body = some C66 := by kernel_rfl
  have h3 : (Try.f66.name == "runtime.NumGoroutine") = false := by kernel_rfl
  have h6 : Try.f66.results.toList = [.tmp 4] := by kernel_rfl
  have h4 : Nat.ble 2 13 = true := by kernel_rfl
  have h5 : okCode 13 pl66 ls66 C66 0 = true := by kernel_rfl
  have e : W66 sa sl sc seq w R = wpC none Try.prog 13 pl66 ls66 C66 0 (endP Try.prog [.tmp 4] R) (fr0 [(.slice sa sl sc), seq]) [] w := by kernel_rfl
  exact ca_of' (P := Try.prog) (g := 66) (fn := Try.f66) (c := C66) (m := 13) (rs := [.tmp 4]) (args := [(.slice sa sl sc), seq]) (pl := pl66) (ls := ls66) (w := w) (R := R) h1 Try.func66 h2 Try.ntmps66 h6 h3 h4 h5 (Eq.mp e h)

/-- slices.Collect[uint64] -/
noncomputable def C51 : Code := (Try.f51.body).getD .skip
def pl51 : Nat → Plan := fun _ => .done
def ls51 : Nat → List (Nat × LT) := fun _ => []
def W51 (seq : Value) (w : World) (R : Value → World → Prop) : Prop :=
  (Ca Try.prog (66) (Array.mk [Value.slice none 0 0, seq]) (w) (fun v0 => (fun w1 =>
    (∃ p2 : Option Addr, (∃ n3 : Nat, (∃ n4 : Nat, ((v0 = Value.slice p2 n3 n4) ∧ (R (Value.slice p2 n3 n4) (w1)))))))))
theorem ca51 (seq : Value) (w : World) (R : Value → World → Prop) (h : W51 seq w R) : Ca Try.prog 51 ⟨[seq]⟩ w R := by
  have h1 : Try.prog.follows .mixedOrders = true := by kernel_rfl
  have h2 : Try.f51.body = some C51 := by kernel_rfl
  have h3 : (Try.f51.name == "runtime.NumGoroutine") = false := by kernel_rfl
  have h6 : Try.f51.results.toList = [.tmp 2] := by kernel_rfl
  have h4 : Nat.ble 1 5 = true := by kernel_rfl
  have h5 : okCode 5 pl51 ls51 C51 0 = true := by kernel_rfl
  have e : W51 seq w R = wpC none Try.prog 5 pl51 ls51 C51 0 (endP Try.prog [.tmp 2] R) (fr0 [seq]) [] w := by kernel_rfl
  exact ca_of' (P := Try.prog) (g := 51) (fn := Try.f51) (c := C51) (m := 5) (rs := [.tmp 2]) (args := [seq]) (pl := pl51) (ls := ls51) (w := w) (R := R) h1 Try.func51 h2 Try.ntmps51 h6 h3 h4 h5 (Eq.mp e h)

/-- maps.Keys[map[uint64]bool,uint64,bool] -/
noncomputable def C46 : Code := (Try.f46.body).getD .skip
def pl46 : Nat → Plan := fun _ => .done
def ls46 : Nat → List (Nat × LT) := fun _ => []
def W46 (m : Option Nat) (w : World) (R : Value → World → Prop) : Prop :=
  (atW (World.alloc w (Obj.cells (Array.mk [Value.map m]) 70 (0, 0))) (fun w0 =>
    (R (Value.func (Fn.func 53) (Array.mk []) (Array.mk [Value.pointer (some (Addr.mk (Array.size (World.heap w)) 0 none))])) (w0))))
theorem ca46 (m : Option Nat) (w : World) (R : Value → World → Prop) (h : W46 m w R) : Ca Try.prog 46 ⟨[(.map m)]⟩ w R := by
  have h1 : Try.prog.follows .mixedOrders = true := by kernel_rfl
  have h2 : Try.f46.body = some C46 := by kernel_rfl
  have h3 : (Try.f46.name == "runtime.NumGoroutine") = false := by kernel_rfl
  have h6 : Try.f46.results.toList = [.tmp 2] := by kernel_rfl
  have h4 : Nat.ble 1 4 = true := by kernel_rfl
  have h5 : okCode 4 pl46 ls46 C46 0 = true := by kernel_rfl
  have e : W46 m w R = wpC none Try.prog 4 pl46 ls46 C46 0 (endP Try.prog [.tmp 2] R) (fr0 [(.map m)]) [] w := by kernel_rfl
  exact ca_of' (P := Try.prog) (g := 46) (fn := Try.f46) (c := C46) (m := 4) (rs := [.tmp 2]) (args := [(.map m)]) (pl := pl46) (ls := ls46) (w := w) (R := R) h1 Try.func46 h2 Try.ntmps46 h6 h3 h4 h5 (Eq.mp e h)

/-- maps.Keys[map[uint64]bool,uint64,bool]$1 -/
noncomputable def C53 : Code := (Try.f53.body).getD .skip
def pl53 : Nat → Plan := fun _ => .done
def ls53 : Nat → List (Nat × LT)
  | 0 => []
  | _ => []
def W53 (yield : Value) (c0 : Option Addr) (w : World) (R : Value → World → Prop) : Prop :=
  (onP (c0) (fun a0 =>
    (∃ p1 : Option Nat, ((World.cell? w a0 = some (Value.map p1)) ∧ (rngM (p1) (w) (fun v2 => (fun w3 =>
      (∃ z4 : World → Prop, (∃ z5 : World → Nat, ((z4 (w3)) ∧ (∀ (_ : Nat → Value), (∀ (w7 : World), ((z4 (w7)) → (nxtM Try.prog (0) (v2) (w7) (fun _ => (fun _ => (fun w10 =>
        (∃ v11 : Value, (∃ v12 : Value, ((Sem.run Try.prog (Instr.entry v2) w10 = Result.ok (Value.tuple #[v11, v12]) w10) ∧ (onI IntKind.u64 (v11) (fun x13 =>
          (CaV Try.prog (yield) (Array.mk [Value.int IntKind.u64 x13]) (w10) (fun v14 => (fun w15 =>
            (∃ b16 : Bool, ((v14 = Value.bool b16) ∧ (ifK (!b16)
              (R (Value.tuple (Array.mk (List.reverse []))) (w15))
              ((z4 (w15)) ∧ (z5 w15 < z5 w7)))))))))))))))) (fun w17 =>
        (R (Value.tuple (Array.mk (List.reverse []))) (w17)))))))))))))))))
theorem ca53 (yield : Value) (c0 : Option Addr) (w : World) (R : Value → World → Prop) (h : W53 yield c0 w R) : Ca Try.prog 53 ⟨[yield, (.pointer c0)]⟩ w R := by
  have h1 : Try.prog.follows .mixedOrders = true := by kernel_rfl
  have h2 : Try.f53.body = some C53 := by kernel_rfl
  have h3 : (Try.f53.name == "runtime.NumGoroutine") = false := by kernel_rfl
  have h6 : Try.f53.results.toList = [] := by kernel_rfl
  have h4 : Nat.ble 2 14 = true := by kernel_rfl
  have h5 : okCode 14 pl53 ls53 C53 0 = true := by kernel_rfl
  have e : W53 yield c0 w R = wpC none Try.prog 14 pl53 ls53 C53 0 (endP Try.prog [] R) (fr0 [yield, (.pointer c0)]) [] w := by kernel_rfl
  exact ca_of' (P := Try.prog) (g := 53) (fn := Try.f53) (c := C53) (m := 14) (rs := []) (args := [yield, (.pointer c0)]) (pl := pl53) (ls := ls53) (w := w) (R := R) h1 Try.func53 h2 Try.ntmps53 h6 h3 h4 h5 (Eq.mp e h)

/-- slices.Sorted[uint64] -/
noncomputable def C45 : Code := (Try.f45.body).getD .skip
def pl45 : Nat → Plan := fun _ => .done
def ls45 : Nat → List (Nat × LT) := fun _ => []
def W45 (seq : Value) (w : World) (R : Value → World → Prop) : Prop :=
  (Ca Try.prog (51) (Array.mk [seq]) (w) (fun v0 => (fun w1 =>
    (∃ p2 : Option Addr, (∃ n3 : Nat, (∃ n4 : Nat, ((v0 = Value.slice p2 n3 n4) ∧ (Ca Try.prog (52) (Array.mk [Value.slice p2 n3 n4]) (w1) (fun v5 => (fun w6 =>
      ((v5 = Value.tuple (Array.mk (List.reverse []))) ∧ (R (Value.slice p2 n3 n4) (w6)))))))))))))
theorem ca45 (seq : Value) (w : World) (R : Value → World → Prop) (h : W45 seq w R) : Ca Try.prog 45 ⟨[seq]⟩ w R := by
  have h1 : Try.prog.follows .mixedOrders = true := by kernel_rfl
  have h2 : Try.f45.body = some C45 := by kernel_rfl
  have h3 : (Try.f45.name == "runtime.NumGoroutine") = false := by kernel_rfl
  have h6 : Try.f45.results.toList = [.tmp 2] := by kernel_rfl
  have h4 : Nat.ble 1 9 = true := by kernel_rfl
  have h5 : okCode 9 pl45 ls45 C45 0 = true := by kernel_rfl
  have e : W45 seq w R = wpC none Try.prog 9 pl45 ls45 C45 0 (endP Try.prog [.tmp 2] R) (fr0 [seq]) [] w := by kernel_rfl
  exact ca_of' (P := Try.prog) (g := 45) (fn := Try.f45) (c := C45) (m := 9) (rs := [.tmp 2]) (args := [seq]) (pl := pl45) (ls := ls45) (w := w) (R := R) h1 Try.func45 h2 Try.ntmps45 h6 h3 h4 h5 (Eq.mp e h)

/-- (*staith/consumer.wish).held -/
noncomputable def C33 : Code := (Try.f33.body).getD .skip
def pl33 : Nat → Plan
  | 1 => (.quiet 0 (.quiet 1 (.quiet 2 (.quiet 3 (.quiet 4 (.quiet 5 (.quiet 6 (.quiet 7 (.eff 8 [3] (.eff 9 [3] (.quiet 10 (.eff 11 [] .done))))))))))))
  | _ => .done
def ls33 : Nat → List (Nat × LT) := fun _ => []
def W33 (w_ : Option Addr) (w : World) (R : Value → World → Prop) : Prop :=
  (atW (World.alloc w (Obj.cells (Array.mk [Value.string (ByteArray.mk #[]), Value.slice none 0 0]) 33 (0, 0))) (fun w0 =>
    (atW (World.drew w0) (fun w1 =>
      (onP (w_) (fun a2 =>
        (∃ s3 : ByteArray, ((World.cell? w1 (Addr.add a2 1) = some (Value.string s3)) ∧ (onP (w_) (fun a4 =>
          (∃ p5 : Option Nat, ((World.cell? w1 (Addr.add a4 3) = some (Value.map p5)) ∧ (Ca Try.prog (46) (Array.mk [Value.map p5]) (w1) (fun v6 => (fun w7 =>
            (∃ v8 : Value, ((v6 = v8) ∧ ((World.cell? w7 (Addr.add (Addr.add a2 1) 0) = some (Value.string s3)) ∧ (Ca Try.prog (45) (Array.mk [v8]) (w7) (fun v9 => (fun w10 =>
              (∃ p11 : Option Addr, (∃ n12 : Nat, (∃ n13 : Nat, ((v9 = Value.slice p11 n12 n13) ∧ ((World.cell? w10 (Addr.add (Addr.add a2 1) 0) = some (Value.string s3)) ∧ ((∃ v14 : Value, (World.cell? w10 (Addr.add (Addr.mk (Array.size (World.heap w)) 0 none) 0) = some v14)) ∧ ((World.frozen? w10 (Addr.add (Addr.mk (Array.size (World.heap w)) 0 none) 0) = false) ∧ (atW (World.setCell w10 (Addr.add (Addr.mk (Array.size (World.heap w)) 0 none) 0) (Value.string s3)) (fun w15 =>
                ((∃ v16 : Value, (World.cell? w15 (Addr.add (Addr.mk (Array.size (World.heap w)) 0 none) 1) = some v16)) ∧ ((World.frozen? w15 (Addr.add (Addr.mk (Array.size (World.heap w)) 0 none) 1) = false) ∧ (atW (World.setCell w15 (Addr.add (Addr.mk (Array.size (World.heap w)) 0 none) 1) (Value.slice p11 n12 n13)) (fun w17 =>
                  (∃ s18 : ByteArray, ((World.cell? w17 (Addr.add (Addr.mk (Array.size (World.heap w)) 0 none) 0) = some (Value.string s18)) ∧ (∃ p19 : Option Addr, (∃ n20 : Nat, (∃ n21 : Nat, ((World.cell? w17 (Addr.add (Addr.mk (Array.size (World.heap w)) 0 none) 1) = some (Value.slice p19 n20 n21)) ∧ (R (Value.agg (Array.mk (List.reverse [Value.slice p19 n20 n21, Value.string s18]))) (w17))))))))))))))))))))))))))))))))))))))))))
theorem ca33 (w_ : Option Addr) (w : World) (R : Value → World → Prop) (h : W33 w_ w R) : Ca Try.prog 33 ⟨[(.pointer w_)]⟩ w R := by
  have h1 : Try.prog.follows .mixedOrders = true := by kernel_rfl
  have h2 : Try.f33.body = some C33 := by kernel_rfl
  have h3 : (Try.f33.name == "runtime.NumGoroutine") = false := by kernel_rfl
  have h6 : Try.f33.results.toList = [.cell 2 33] := by kernel_rfl
  have h4 : Nat.ble 1 14 = true := by kernel_rfl
  have h5 : okCode 14 pl33 ls33 C33 0 = true := by kernel_rfl
  have e : W33 w_ w R = wpC none Try.prog 14 pl33 ls33 C33 0 (endP Try.prog [.cell 2 33] R) (fr0 [(.pointer w_)]) [] w := by kernel_rfl
  exact ca_of' (P := Try.prog) (g := 33) (fn := Try.f33) (c := C33) (m := 14) (rs := [.cell 2 33]) (args := [(.pointer w_)]) (pl := pl33) (ls := ls33) (w := w) (R := R) h1 Try.func33 h2 Try.ntmps33 h6 h3 h4 h5 (Eq.mp e h)
end Go.Proofs.Ytgmafocfhepccaa
