/- The words of my own walk: a function that reckons, out of a function's code, what must hold so that it ends as is wanted ('wpC'), and that it is right ('wpC_sound'). It names no program. -/
import Derived.RangeFuncRecord
import Derived.Orders
import Derived.OrdersIn
import Derived.OwnWalkIn
import Derived.KernelRfl
import Derived.Laws.Sem
import Derived.Laws.Cells
namespace Go.Proofs.YtbmcbbmgdcbhjaaGreatDoor.St
open Go

/-- A frame's slots. -/
abbrev Fr := Nat → Value
def upd (f : Fr) (d : Nat) (v : Value) : Fr := fun t => bif Nat.beq t d then v else f t
def putF (f : Fr) : Option Nat → Value → Fr
  | none, _ => f
  | some d, v => upd f d v
def ev (f : Fr) : Operand → Value
  | .tmp t => f t
  | .const v => v
  | .global g => .pointer (some ⟨g, 0, none⟩)
  | .func g => .func (.func g) #[] #[]

abbrev Post := Exit → Fr → List Deferred → World → Prop

structure Rl (n : Nat) (a : Act) (f : Fr) (ds : List Deferred) : Prop where
  size : a.tmps.size = n
  defs : a.defers = ds
  get : ∀ t, a.tmps.getD t undef = f t

theorem beq_self (t : Nat) : Nat.beq t t = true := Nat.beq_refl t
theorem beq_ne {t d : Nat} (h : t ≠ d) : Nat.beq t d = false := by
  cases hb : Nat.beq t d with
  | false => rfl
  | true => exact absurd (Nat.eq_of_beq_eq_true hb) h

theorem upd_same (f : Fr) (d : Nat) (v : Value) : upd f d v d = v := by simp [upd]
theorem upd_other (f : Fr) {d t : Nat} (v : Value) (h : t ≠ d) : upd f d v t = f t := by simp [upd, beq_ne h]

theorem Rl.upd {n : Nat} {a : Act} {f : Fr} {ds : List Deferred} (h : Rl n a f ds) {d : Nat} (v : Value) (hd : d < n) :
    Rl n (a.put (some d) v) (upd f d v) ds := by
  refine ⟨by simp [Act.put, h.size], h.defs, fun t => ?_⟩
  have hg := h.get t
  by_cases e : t = d
  · subst e
    rw [upd_same]
    simp only [Act.put, Array.getD_eq_getD_getElem?]
    rw [Array.getElem?_setIfInBounds_self_of_lt (by rw [h.size]; exact hd)]; rfl
  · rw [upd_other _ _ e, ← hg]
    simp only [Act.put, Array.getD_eq_getD_getElem?]
    rw [Array.getElem?_setIfInBounds_ne (fun h => e h.symm)]

theorem Rl.put {n : Nat} {a : Act} {f : Fr} {ds : List Deferred} (h : Rl n a f ds) {dst : Option Nat} (v : Value) (hd : ∀ d, dst = some d → d < n) :
    Rl n (a.put dst v) (putF f dst v) ds := by
  cases dst with
  | none => exact ⟨h.size, h.defs, h.get⟩
  | some d => exact h.upd v (hd d rfl)

theorem Rl.eval {n : Nat} {a : Act} {f : Fr} {ds : List Deferred} (h : Rl n a f ds) : a.eval = ev f := by
  funext x
  cases x with
  | tmp t => exact h.get t
  | _ => rfl

/-- The fence that shuts nothing out, in a round or in none. -/
def wide (r : Option Nat) : Fence := { fn := fun _ => True, depth := none, alive := false, round := r }
theorem wide_room (r : Option Nat) (k : Nat) : (wide r).room k := fun _ h => by simp [wide] at h

/-- THE WALK OF A CODE OVER SLOTS: what 'wpIn' says, for whatever frame reads as f. -/
def SW (r : Option Nat) (P : Program) (n : Nat) (c : Code) (Q : Post) (f : Fr) (ds : List Deferred) (w : World) : Prop :=
  ∀ a, Rl n a f ds → c.wpIn (wide r) 0 P (fun e a' w' => ∃ f' ds', Rl n a' f' ds' ∧ Q e f' ds' w') a w

/-! ### Values by their types -/
inductive CT
  | int (k : IntKind) | bool | str | ptr | slice | map | func | other

def ctOf : TypeDesc → CT
  | .int k => .int k
  | .bool => .bool
  | .string => .str
  | .pointer _ => .ptr
  | .slice _ => .slice
  | .map _ _ => .map
  | .func _ _ _ => .func
  | _ => .other

/-- 'There is a value of this kind so that ..' -/
def exC : CT → (Value → Prop) → Prop
  | .int k, K => ∃ x : Int, K (.int k x)
  | .bool, K => ∃ b : Bool, K (.bool b)
  | .str, K => ∃ s : ByteArray, K (.string s)
  | .ptr, K => ∃ p : Option Addr, K (.pointer p)
  | .slice, K => ∃ (a : Option Addr) (l c : Nat), K (.slice a l c)
  | .map, K => ∃ m : Option Nat, K (.map m)
  | .func, K => ∃ v : Value, K v
  | .other, K => ∃ v : Value, K v

theorem exC_ex {c : CT} {K : Value → Prop} (h : exC c K) : ∃ v, K v := by
  cases c <;> simp only [exC] at h <;> first | exact h | (obtain ⟨_, h⟩ := h; exact ⟨_, h⟩) | (obtain ⟨_, _, _, h⟩ := h; exact ⟨_, h⟩)

def exCs : List CT → List Value → (List Value → Prop) → Prop
  | [], acc, K => K acc.reverse
  | c :: cs, acc, K => exC c fun v => exCs cs (v :: acc) K

theorem exCs_ex {cs : List CT} : ∀ {acc : List Value} {K : List Value → Prop}, exCs cs acc K → ∃ vs, K vs := by
  induction cs with
  | nil => exact fun h => ⟨_, h⟩
  | cons c cs ih => exact fun h => let ⟨_, h⟩ := exC_ex h; ih h

/-- The kinds of a type's cells. -/
def cellsT (P : Program) : Nat → TypeId → List CT
  | 0, _ => []
  | n + 1, t =>
    match P.underlying t with
    | some (.struct fs) => fs.toList.flatMap fun f => cellsT P n f.type
    | some (.array k e) => (List.replicate k (cellsT P n e)).flatten
    | some d => [ctOf d]
    | none => []

/-- 'There is a value of this type so that ..' -/
def exV1 (P : Program) (t : TypeId) (K : Value → Prop) : Prop :=
  match P.underlying t with
  | some (.struct _) | some (.array _ _) => exCs (cellsT P 8 t) [] fun cs => K (.agg ⟨cs⟩)
  | some d => exC (ctOf d) K
  | none => False

theorem exV1_ex {P : Program} {t : TypeId} {K : Value → Prop} (h : exV1 P t K) : ∃ v, K v := by
  unfold exV1 at h
  split at h
  · exact let ⟨_, h⟩ := exCs_ex h; ⟨_, h⟩
  · exact let ⟨_, h⟩ := exCs_ex h; ⟨_, h⟩
  · exact exC_ex h
  · exact h.elim

def exVs (P : Program) : List TypeId → List Value → (List Value → Prop) → Prop
  | [], acc, K => K acc.reverse
  | t :: ts, acc, K => exV1 P t fun v => exVs P ts (v :: acc) K

theorem exVs_ex {P : Program} {ts : List TypeId} : ∀ {acc : List Value} {K : List Value → Prop}, exVs P ts acc K → ∃ vs, K vs := by
  induction ts with
  | nil => exact fun h => ⟨_, h⟩
  | cons c cs ih => exact fun h => let ⟨_, h⟩ := exV1_ex h; ih h

def exV (P : Program) (t : TypeId) (K : Value → Prop) : Prop :=
  match P.underlying t with
  | some (.tuple ts) => exVs P ts.toList [] fun vs => K (.tuple ⟨vs⟩)
  | _ => exV1 P t K

theorem exV_ex {P : Program} {t : TypeId} {K : Value → Prop} (h : exV P t K) : ∃ v, K v := by
  unfold exV at h
  split at h
  · exact let ⟨_, h⟩ := exVs_ex h; ⟨_, h⟩
  · exact exV1_ex h

/-! ### Calls -/
/-- A call of function g, from world w, ends in a return of some v in some w' with R v w'. -/
def Ca (P : Program) (g : FuncId) (args : Array Value) (w : World) (R : Value → World → Prop) : Prop :=
  (∀ w, (callFunc g args).run P w = .ok (.enter g args) w) ∧ Calls P g args w fun e w' => ∃ v, e = .returned v ∧ R v w'

theorem Ca.mono {P : Program} {g : FuncId} {args : Array Value} {w : World} {R R' : Value → World → Prop} (h : Ca P g args w R) (hr : ∀ v w', R v w' → R' v w') : Ca P g args w R' :=
  ⟨h.1, h.2.mono fun _ _ ⟨v, he, hv⟩ => ⟨v, he, hr _ _ hv⟩⟩

/-- A call of the 'yield' of loop l. -/
def Yi (P : Program) (l : Nat) (args : Array Value) (w : World) (R : Value → World → Prop) : Prop :=
  ∃ fn tmps assign body, (Instr.yield l args).run P w = .ok (.round l fn tmps assign body) w ∧
    RoundIn (wide none) 0 P l fn tmps assign body w fun e w' => ∃ v, e = .returned v ∧ R v w'

/-- A call of a function value. -/
def CaV (P : Program) (fv : Value) (args : Array Value) (w : World) (R : Value → World → Prop) : Prop :=
  match fv with
  | .func (.func g) first cap => Ca P g ⟨first.toList ++ (args.toList ++ cap.toList)⟩ w R
  | .func (.yield l) first _ => Yi P l ⟨first.toList ++ args.toList⟩ w R
  | _ => False

theorem Yi.mono {P : Program} {l : Nat} {args : Array Value} {w : World} {R R' : Value → World → Prop} (h : Yi P l args w R) (hr : ∀ v w', R v w' → R' v w') : Yi P l args w R' :=
  let ⟨fn, tmps, assign, body, hy, h⟩ := h
  ⟨fn, tmps, assign, body, hy, h.mono fun _ _ ⟨v, he, hv⟩ => ⟨v, he, hr _ _ hv⟩⟩

theorem CaV.mono {P : Program} {fv : Value} {args : Array Value} {w : World} {R R' : Value → World → Prop} (h : CaV P fv args w R) (hr : ∀ v w', R v w' → R' v w') : CaV P fv args w R' := by
  unfold CaV at *
  split at h
  · exact Ca.mono h hr
  · exact Yi.mono h hr
  · exact h.elim

/-! ### Operations -/
/-- p is no nil pointer: its address. -/
def onP (p : Option Addr) (K : Addr → Prop) : Prop :=
  match p with
  | some a => K a
  | none => False

def onPtr (v : Value) (K : Addr → Prop) : Prop :=
  match v with
  | .pointer p => onP p K
  | _ => False

def ldCells : List CT → Addr → Nat → List Value → World → (List Value → Prop) → Prop
  | [], _, _, acc, _, K => K acc.reverse
  | c :: cs, ad, i, acc, w, K => exC c fun v => w.cell? (ad.add i) = some v ∧ ldCells cs ad (i + 1) (v :: acc) w K

/-- A load of a variable of type t. -/
def ldW (P : Program) (t : TypeId) (v : Value) (w : World) (K : Value → Prop) : Prop :=
  onPtr v fun ad =>
    match P.info? t, P.underlying t with
    | some i, some (.struct _) | some i, some (.array _ _) =>
      bif Nat.beq i.size (cellsT P 8 t).length then ldCells (cellsT P 8 t) ad 0 [] w fun cs => K (.agg ⟨cs⟩) else False
    | some _, some d => exC (ctOf d) fun v => w.cell? ad = some v ∧ K v
    | _, _ => False

/-- The place that is allocated next. -/
abbrev nw (w : World) : Addr := ⟨w.heap.size, 0, none⟩
/-- A world gets a name. -/
def atW (w : World) (K : World → Prop) : Prop := ∀ w', w' = w → K w'

abbrev st1 (ad : Addr) (v : Value) (w : World) (K : World → Prop) : Prop :=
  (∃ old, w.cell? ad = some old) ∧ w.frozen? ad = false ∧ atW (w.setCell ad v) K

def stCells : List Value → Addr → Nat → World → (World → Prop) → Prop
  | [], _, _, w, K => K w
  | v :: vs, ad, i, w, K => bif v.oneCell' then st1 (ad.add i) v w fun w' => stCells vs ad (i + 1) w' K else False

/-- A store. -/
def stW (P : Program) (t : TypeId) (p x : Value) (w : World) (K : World → Prop) : Prop :=
  onPtr p fun ad =>
    match P.info? t with
    | some i => bif Nat.beq x.cells.size i.size then stCells x.cells.toList ad 0 w K else False
    | none => False

def ifK (b : Bool) (A B : Prop) : Prop := match b with | true => A | false => B

def sameK : IntKind → IntKind → Bool
  | .i8, .i8 => true | .i16, .i16 => true | .i32, .i32 => true | .i64, .i64 => true
  | .u8, .u8 => true | .u16, .u16 => true | .u32, .u32 => true | .u64, .u64 => true
  | _, _ => false
theorem sameK_eq {a b : IntKind} (h : sameK a b = true) : a = b := by cases a <;> cases b <;> first | rfl | (simp [sameK] at h)

def binI (op : BinOp) (k : IntKind) (x y : Int) (K : Value → Prop) : Prop :=
  match op with
  | .add => K (.int k (k.wrap (x + y)))
  | .sub => K (.int k (k.wrap (x - y)))
  | .mul => K (.int k (k.wrap (x * y)))
  | .quo => y ≠ 0 ∧ K (.int k (k.wrap (x.tdiv y)))
  | .rem => y ≠ 0 ∧ K (.int k (x.tmod y))
  | .and => K (.int k (k.wrap (BitVec.ofInt k.bits x &&& BitVec.ofInt k.bits y).toNat))
  | .or => K (.int k (k.wrap (BitVec.ofInt k.bits x ||| BitVec.ofInt k.bits y).toNat))
  | .xor => K (.int k (k.wrap (BitVec.ofInt k.bits x ^^^ BitVec.ofInt k.bits y).toNat))
  | .andNot => K (.int k (k.wrap (BitVec.ofInt k.bits x &&& ~~~ BitVec.ofInt k.bits y).toNat))
  | .eql => K (.bool (x == y))
  | .neq => K (.bool (x != y))
  | .lss => K (.bool (decide (x < y)))
  | .leq => K (.bool (decide (x ≤ y)))
  | .gtr => K (.bool (decide (x > y)))
  | .geq => K (.bool (decide (x ≥ y)))
  | _ => False

def shI (op : BinOp) (k : IntKind) (x y : Int) (K : Value → Prop) : Prop :=
  match op with
  | .shl => 0 ≤ y ∧ K (.int k (k.wrap (x * 2 ^ (min y.toNat k.bits))))
  | .shr => 0 ≤ y ∧ K (.int k (x.fdiv (2 ^ (min y.toNat k.bits))))
  | _ => False

def binS (op : BinOp) (x y : ByteArray) (K : Value → Prop) : Prop :=
  match op with
  | .add => x.size + y.size ≤ 9223372036854775807 ∧ K (.string (x ++ y))
  | .eql => K (.bool (x.toList == y.toList))
  | .neq => K (.bool (!(x.toList == y.toList)))
  | .lss => K (.bool (Op.bytesLess x.toList y.toList))
  | .leq => K (.bool (Op.bytesLess x.toList y.toList || x.toList == y.toList))
  | .gtr => K (.bool (!(Op.bytesLess x.toList y.toList || x.toList == y.toList)))
  | .geq => K (.bool (!(Op.bytesLess x.toList y.toList)))
  | _ => False

/-- Two values that are no numbers and no strings held against each other. -/
def eqA (P : Program) (t : TypeId) (x y : Value) (w : World) (K : Bool → World → Prop) : Prop :=
  ∃ b w', (do eqGuard .eql t (.tmp 0) (.tmp 0) x y; Op.equal t x y).run P w = .ok b w' ∧ K b w'

/-- Two pointers held against each other. -/
def ptrEq (P : Program) (t : TypeId) (p q : Option Addr) (w : World) (K : Bool → World → Prop) : Prop :=
  match q with
  | none => K p.isNone w
  | some b => eqA P t (.pointer p) (.pointer (some b)) w K

def isShift : BinOp → Bool
  | .shl => true
  | .shr => true
  | _ => false

def binW (P : Program) (op : BinOp) (t : TypeId) (x y : Value) (w : World) (K : Value → World → Prop) : Prop :=
  match x, y with
  | .int k a, .int k' b => bif isShift op then shI op k a b (K · w) else bif sameK k k' then binI op k a b (K · w) else False
  | .string a, .string b => bif isShift op then False else binS op a b (K · w)
  | .pointer p, .pointer q => match P.underlying t with
    | some (.pointer _) => (match op with | .eql => ptrEq P t p q w fun b w' => K (.bool b) w' | .neq => ptrEq P t p q w fun b w' => K (.bool (!b)) w' | _ => False)
    | _ => False
  | .slice p _ _, .slice none _ _ => match P.underlying t with
    | some (.slice _) => (match op with | .eql => K (.bool p.isNone) w | .neq => K (.bool (!p.isNone)) w | _ => False)
    | _ => False
  | .map p, .map none => match P.underlying t with
    | some (.map _ _) => (match op with | .eql => K (.bool p.isNone) w | .neq => K (.bool (!p.isNone)) w | _ => False)
    | _ => False
  | .bool a, .bool b => match P.underlying t with
    | some .bool => (match op with | .eql => K (.bool (a == b)) w | .neq => K (.bool (!(a == b))) w | _ => False)
    | _ => False
  | .agg _, .agg _ | .func _ _ _, .nilFunc | .nilFunc, .nilFunc | .nilFunc, .func _ _ _ => match op with
    | .eql => eqA P t x y w fun b w' => K (.bool b) w'
    | .neq => eqA P t x y w fun b w' => K (.bool (!b)) w'
    | _ => False
  | _, _ => False

/-- Is an interface's value nil? -/
def nilB : Value → Option Bool
  | .nilIface => some true
  | .iface _ _ => some false
  | _ => none
def isNilC : Operand → Bool
  | .const .nilIface => true
  | _ => false
/-- An interface's value held against the word nil. -/
def binN (P : Program) (op : BinOp) (t : TypeId) (x : Value) (w : World) (K : Value → World → Prop) : Prop :=
  match P.underlying t with
  | some (.interface _) => (match op with | .eql => ∃ b, nilB x = some b ∧ K (.bool b) w | .neq => ∃ b, nilB x = some b ∧ K (.bool (!b)) w | _ => False)
  | _ => False

def unW (op : UnOp) (x : Value) (K : Value → Prop) : Prop :=
  match op, x with
  | .not, .bool b => K (.bool (!b))
  | .neg, .int k n => K (.int k (k.wrap (0 - n)))
  | .xor, .int k n => K (.int k (k.wrap (BitVec.ofInt k.bits (if k.signed then -1 else k.max) ^^^ BitVec.ofInt k.bits n).toNat))
  | _, _ => False

/-- Whatever else gives a value: its run. -/
def runV (P : Program) (t : TypeId) (s : Sem Value) (w : World) (K : Value → World → Prop) : Prop :=
  ∃ v w', s.run P w = .ok v w' ∧ exV P t fun u => v = u ∧ K u w'
def runU (P : Program) (s : Sem Unit) (w : World) (K : World → Prop) : Prop :=
  ∃ w', s.run P w = .ok () w' ∧ K w'

def cvW (P : Program) (ty src dst : TypeId) (x : Value) (w : World) (K : Value → World → Prop) : Prop :=
  match x, P.underlying src, P.underlying dst with
  | .int _ n, some _, some (.int k) => K (.int k (k.wrap n)) w
  | .string s, some _, some .string => K (.string s) w
  | _, _, _ => runV P ty (convert src dst x) w K

def bnd (o : Option Value) (d : Int) (K : Int → Prop) : Prop :=
  match o with
  | none => K d
  | some (.int _ n) => K n
  | some _ => False

/-- x[lo:hi:max] of a string or a slice. -/
def slW (P : Program) (t : TypeId) (x : Value) (lo hi mx : Option Value) (K : Value → Prop) : Prop :=
  match P.underlying t, x, mx with
  | some .string, .string s, none =>
    bnd lo 0 fun l => bnd hi s.size fun h => 0 ≤ l ∧ l ≤ h ∧ h ≤ s.size ∧ K (.string (s.extract l.toNat h.toNat))
  | some (.slice e), .slice a len cap, none =>
    match P.info? e with
    | some i => bnd lo 0 fun l => bnd hi len fun h => 0 ≤ l ∧ l ≤ h ∧ h ≤ cap ∧
        K (.slice (if cap = l.toNat then a else a.map (·.add (l.toNat * i.size))) (h.toNat - l.toNat) (cap - l.toNat))
    | none => False
  | some (.slice e), .slice a _ cap, some (.int _ m) =>
    match P.info? e, hi with
    | some i, some (.int _ h) => bnd lo 0 fun l => 0 ≤ l ∧ l ≤ h ∧ h ≤ m ∧ m ≤ cap ∧
        K (.slice (if m.toNat = l.toNat then a else a.map (·.add (l.toNat * i.size))) (h.toNat - l.toNat) (m.toNat - l.toNat))
    | _, _ => False
  | _, _, _ => False

def ixaW (P : Program) (t : TypeId) (x i : Value) (K : Value → Prop) : Prop :=
  match P.underlying t, x, i with
  | some (.slice e), .slice a len _, .int _ n =>
    match P.info? e with
    | some inf => ∃ ad, a = some ad ∧ 0 ≤ n ∧ n < len ∧ K (.pointer (some (ad.add (n.toNat * inf.size))))
    | none => False
  | some (.array len e), .pointer (some ad), .int _ n =>
    match P.info? e with
    | some inf => 0 ≤ n ∧ n < len ∧ K (.pointer (some (ad.add (n.toNat * inf.size))))
    | none => False
  | _, _, _ => False

def byteAt (s : ByteArray) (i : Nat) : Int := ((s.data[i]?.getD 0).toNat : Int)

def ixW (P : Program) (ty t : TypeId) (x i : Value) (w : World) (K : Value → World → Prop) : Prop :=
  match P.underlying t, x, i with
  | some .string, .string s, .int _ n => 0 ≤ n ∧ n < s.size ∧ K (.int .u8 (byteAt s n.toNat)) w
  | _, _, _ => runV P ty (Instr.index t x i) w K

def fldAddr (P : Program) (s : TypeId) (v : Value) (i : Nat) (K : Value → Prop) : Prop :=
  onPtr v fun ad =>
    match P.underlying s with
    | some (.struct fs) =>
      match fs[i]? with
      | some f => match P.info? f.type with
        | some inf => bif Nat.beq inf.size 0 then False else K (.pointer (some (ad.add f.offset)))
        | none => False
      | none => False
    | _ => False

def fldW (P : Program) (s : TypeId) (v : Value) (i : Nat) (K : Value → Prop) : Prop :=
  match v, P.underlying s with
  | .agg cs, some (.struct fs) =>
    match fs[i]? with
    | some f => match P.info? f.type, P.underlying f.type with
      | some inf, some (.struct _) | some inf, some (.array _ _) => K (.agg (cs.extract f.offset (f.offset + inf.size)))
      | some _, some _ => match cs[f.offset]? with
        | some c => K c
        | none => False
      | _, _ => False
    | none => False
  | _, _ => False

/-- Parts laid into cells. -/
def fillL (place : Nat → Option (Nat × Nat)) : List Value → List (Nat × Value) → Option (List Value)
  | cells, [] => some cells
  | cells, (i, v) :: rest =>
    match place i with
    | none => none
    | some (off, size) =>
      bif Nat.beq v.cells.toList.length size && Nat.ble (off + size) cells.length then
        fillL place (cells.take off ++ (v.cells.toList ++ cells.drop (off + size))) rest
      else none

def placesOf (P : Program) : List Field → List (Option (Nat × Nat))
  | [] => []
  | f :: fs => (P.info? f.type).map (fun i => (f.offset, i.size)) :: placesOf P fs

def bldW (P : Program) (t : TypeId) (parts : List (Nat × Value)) (K : Value → Prop) : Prop :=
  match P.info? t, P.underlying t with
  | some inf, some (.struct fs) =>
    bif (placesOf P fs.toList).all (·.isSome) then
      match inf.zero with
      | some z =>
        match fillL (fun i => ((placesOf P fs.toList)[i]?).join) z.cells.toList parts with
        | some cs => K (.agg ⟨cs⟩)
        | none => False
      | none => False
    else False
  | some inf, some (.array _ e) =>
    match inf.zero, P.info? e with
    | some z, some ie =>
      match fillL (fun i => some (i * ie.size, ie.size)) z.cells.toList parts with
      | some cs => K (.agg ⟨cs⟩)
      | none => False
    | _, _ => False
  | _, _ => False

def bslW (P : Program) (t : TypeId) (len : Nat) (parts : List (Nat × Value)) (w : World) (K : Value → World → Prop) : Prop :=
  match P.underlying t with
  | some (.slice e) =>
    match P.info? e with
    | some ie =>
      bif Nat.ble (len * ie.size) 16777216 && !(Nat.beq (len * ie.size) 0) then
        match ie.zero with
        | some z =>
          bif Nat.beq z.cells.toList.length ie.size then
            match fillL (fun i => some (i * ie.size, ie.size)) (List.replicate len z.cells.toList).flatten parts with
            | some cs => atW (w.alloc (.cells ⟨cs⟩ e)) fun w' => K (.slice (some ⟨w.heap.size, 0, none⟩) len len) w'
            | none => False
          else False
        | none => False
      else bif Nat.beq (len * ie.size) 0 then
        match fillL (fun i => some (i * ie.size, ie.size)) [] parts with
        | some cs => atW (w.alloc (.cells ⟨cs⟩ e)) fun w' => K (.slice (some ⟨w.heap.size, 0, none⟩) len len) w'
        | none => False
      else False
    | none => False
  | _ => False

/-- A map's length. -/
def lenM (m : Option Nat) (w : World) (K : Int → Prop) : Prop :=
  match m with
  | none => K 0
  | some r => ∃ (es : Array MapEntry) (clock : Nat), w.heap[r]? = some (.map es clock) ∧ K es.size

def lenW (P : Program) (t : TypeId) (x : Value) (w : World) (K : Value → Prop) : Prop :=
  match P.underlying t, x with
  | some .string, .string s => K (.int .i64 s.size)
  | some (.slice _), .slice _ n _ => K (.int .i64 n)
  | some (.map _ _), .map m => lenM m w fun n => K (.int .i64 n)
  | _, _ => False

def mmI (mx : Bool) : Value → List Value → (Value → Prop) → Prop
  | v, [], K => K v
  | .int k x, .int k' y :: rest, K => bif sameK k k' then mmI mx (.int k (bif mx then (if y > x then y else x) else (if y < x then y else x))) rest K else False
  | _, _, _ => False

def biW (P : Program) (b : Builtin) (argTypes : Array TypeId) (ty : TypeId) (args : List Value) (w : World) (K : Value → World → Prop) : Prop :=
  match b, argTypes.toList, args with
  | .len, t :: _, x :: _ => lenW P t x w (K · w)
  | .cap, t :: _, .slice _ _ c :: _ => (match P.underlying t with | some (.slice _) => K (.int .i64 c) w | _ => False)
  | .max, _, x :: rest => mmI true x rest (K · w)
  | .min, _, x :: rest => mmI false x rest (K · w)
  | .append, _, _ => runV P ty (Builtin.append_ argTypes ty ⟨args⟩) w K
  | .copy, _, _ => runV P ty (Builtin.copy_ argTypes ty ⟨args⟩) w K
  | .delete, _, _ => runV P ty (Builtin.delete_ argTypes ty ⟨args⟩) w K
  | .clear, _, _ => runV P ty (Builtin.clear_ argTypes ty ⟨args⟩) w K
  | _, _, _ => False

def calW (P : Program) (c : Call) (ty : TypeId) (f : Fr) (w : World) (K : Value → World → Prop) : Prop :=
  match c.callee with
  | .value x => CaV P (ev f x) ⟨c.args.toList.map (ev f)⟩ w fun v w' => exV P ty fun u => v = u ∧ K u w'
  | .builtin b => biW P b c.argTypes ty (c.args.toList.map (ev f)) w K
  | .invoke _ _ => False

def onI (k : IntKind) (v : Value) (K : Int → Prop) : Prop := match v with | .int k' x => bif sameK k k' then K x else False | _ => False
def onB (v : Value) (K : Bool → Prop) : Prop := match v with | .bool x => K x | _ => False
def onS (v : Value) (K : ByteArray → Prop) : Prop := match v with | .string x => K x | _ => False
def onPt (v : Value) (K : Option Addr → Prop) : Prop := match v with | .pointer x => K x | _ => False
def onSl (v : Value) (K : Option Addr → Nat → Nat → Prop) : Prop := match v with | .slice a l c => K a l c | _ => False
def onMp (v : Value) (K : Option Nat → Prop) : Prop := match v with | .map x => K x | _ => False
def castC (c : CT) (v : Value) (K : Value → Prop) : Prop :=
  match c with
  | .int k => onI k v fun x => K (.int k x)
  | .bool => onB v fun x => K (.bool x)
  | .str => onS v fun x => K (.string x)
  | .ptr => onPt v fun x => K (.pointer x)
  | .slice => onSl v fun a l c => K (.slice a l c)
  | .map => onMp v fun x => K (.map x)
  | _ => K v
def castK (P : Program) (t : TypeId) (v : Value) (K : Value → Prop) : Prop :=
  match P.underlying t with
  | some (.struct _) | some (.array _ _) => K v
  | some d => castC (ctOf d) v K
  | none => K v
theorem castK_K {P : Program} {t : TypeId} {v : Value} {K : Value → Prop} (h : castK P t v K) : K v := by
  have hc : ∀ c, castC c v K → K v := by
    intro c h
    cases c with
    | int k =>
      cases v with
      | int k' x =>
        simp only [castC, onI] at h
        cases hs : sameK k k' with
        | true => rw [hs] at h; rw [sameK_eq hs] at h; exact h
        | false => rw [hs] at h; exact h.elim
      | _ => exact h.elim
    | bool => cases v <;> simp only [castC, onB] at h <;> first | exact h.elim | exact h
    | str => cases v <;> simp only [castC, onS] at h <;> first | exact h.elim | exact h
    | ptr => cases v <;> simp only [castC, onPt] at h <;> first | exact h.elim | exact h
    | slice => cases v <;> simp only [castC, onSl] at h <;> first | exact h.elim | exact h
    | map => cases v <;> simp only [castC, onMp] at h <;> first | exact h.elim | exact h
    | func => exact h
    | other => exact h
  unfold castK at h
  split at h
  · exact h
  · exact h
  · exact hc _ h
  · exact h

/-- The entry at which a range over a map stands. -/
def entW (P : Program) (it : Value) (w : World) (K : Value → World → Prop) : Prop :=
  ∃ k x, (Instr.entry it).run P w = .ok (.tuple #[k, x]) w ∧ K (.tuple #[k, x]) w

def rngM (m : Option Nat) (w : World) (K : Value → World → Prop) : Prop :=
  match m with
  | none => atW (w.alloc (.mapIter none 0 #[] 0)) fun w' => K (.pointer (some ⟨w.heap.size, 0, none⟩)) w'
  | some r => ∃ (es : Array MapEntry) (clock : Nat), w.heap[r]? = some (.map es clock) ∧ atW (w.alloc (.mapIter (some r) clock #[] clock)) fun w' => K (.pointer (some ⟨w.heap.size, 0, none⟩)) w'

/-- The beginning of a range over a string or a map. -/
def rngW (P : Program) (t : TypeId) (x : Value) (w : World) (K : Value → World → Prop) : Prop :=
  match P.underlying t, x with
  | some .string, .string s => atW (w.alloc (.stringIter s 0)) fun w' => K (.pointer (some ⟨w.heap.size, 0, none⟩)) w'
  | some (.map _ _), .map m => rngM m w K
  | _, _ => False

/-- The next of a map: one, or none. -/
def nxtM (P : Program) (ty : TypeId) (it : Value) (w : World) (Kin : Value → Value → World → Prop) (Kend : World → Prop) : Prop :=
  ∃ v w', (Instr.next it false ty).run P w = .ok v w' ∧ ((v = .tuple #[.bool false] ∧ Kend w') ∨ ∃ k x, v = .tuple #[.bool true, k, x] ∧ Kin k x w')

/-- The next of a string: one, or none. -/
def nxtS (r : Nat) (w : World) (Kin : Int → Int → World → Prop) (Kend : World → Prop) : Prop :=
  ∃ (s : ByteArray) (pos : Nat), w.heap[r]? = some (.stringIter s pos) ∧
    ifK (decide (pos < s.size)) (atW (w.putObj r (.stringIter s (pos + (Utf8.decode s pos).2))) fun w' => Kin (pos : Int) ((Utf8.decode s pos).1 : Int) w') (Kend w)

def nxtW (P : Program) (ty : TypeId) (it : Value) (isS : Bool) (w : World) (K : Value → World → Prop) : Prop :=
  match isS, it with
  | true, .pointer (some ⟨r, 0, none⟩) => nxtS r w (fun i c w' => K (.tuple #[.bool true, .int .i64 i, .int .i32 c]) w') (fun w' => K (.tuple #[.bool false]) w')
  | false, it => nxtM P ty it w (fun k x w' => K (.tuple #[.bool true, k, x]) w') (fun w' => K (.tuple #[.bool false]) w')
  | _, _ => False

/-- What an operation gives. -/
def opW (P : Program) (op : Op) (ty : TypeId) (f : Fr) (w : World) (K : Value → World → Prop) : Prop :=
  match op with
  | .move x => K (ev f x) w
  | .assign x => castK P ty (ev f x) (K · w)
  | .pick c a b => (match ev f c with | .bool t => K (bif t then ev f a else ev f b) w | _ => False)
  | .load t a => ldW P t (ev f a) w (K · w)
  | .store t a x => stW P t (ev f a) (ev f x) w (K undef ·)
  | .nilCheck x => (match ev f x with
    | .pointer p => onP p fun a => K (.pointer (some a)) w
    | .func (.func g) a b => K (.func (.func g) a b) w
    | _ => False)
  | .fieldAddr s x i => fldAddr P s (ev f x) i (K · w)
  | .field s x i => fldW P s (ev f x) i (K · w)
  | .binOp o t x y _ => bif isNilC y then binN P o t (ev f x) w K else binW P o t (ev f x) (ev f y) w K
  | .unOp o _ x => unW o (ev f x) (K · w)
  | .convert s d x => cvW P ty s d (ev f x) w K
  | .call c => calW P c ty f w K
  | .makeFunc fn a b => K (.func fn ⟨a.toList.map (ev f)⟩ ⟨b.toList.map (ev f)⟩) w
  | .slice t x lo hi mx => slW P t (ev f x) (lo.map (ev f)) (hi.map (ev f)) (mx.map (ev f)) (K · w)
  | .indexAddr t x i => ixaW P t (ev f x) (ev f i) (K · w)
  | .index t x i => ixW P ty t (ev f x) (ev f i) w K
  | .alloc e => (match (P.info? e).bind (·.zero) with
    | some z => atW (w.alloc (.cells z.cells e)) fun w' => K (.pointer (some ⟨w.heap.size, 0, none⟩)) w'
    | none => False)
  | .box e x => atW (w.alloc (.cells (ev f x).cells e)) fun w' => K (.pointer (some ⟨w.heap.size, 0, none⟩)) w'
  | .build t ps => bldW P t (ps.toList.map fun (i, x) => (i, ev f x)) (K · w)
  | .buildSlice t n ps => bslW P t n (ps.toList.map fun (i, x) => (i, ev f x)) w K
  | .makeMap _ none => atW (w.alloc (.map #[] 0)) fun w' => K (.map (some w.heap.size)) w'
  | .makeMap t (some r) => runV P ty (Instr.makeMap t (some (ev f r))) w K
  | .makeSlice t l c => runV P ty (Instr.makeSlice t (ev f l) (ev f c)) w K
  | .lookup t x i ok => runV P ty (Instr.lookup t (ev f x) (ev f i) ok) w K
  | .mapUpdate t m k x => runU P (Instr.mapUpdate t (ev f m) (ev f k) (ev f x)) w (K undef ·)
  | .insert t m k x => runU P (Instr.mapUpdate t (ev f m) (ev f k) (ev f x)) w (K undef ·)
  | .mapEntry t m k => runV P ty (Instr.mapEntry t (ev f m) (ev f k)) w K
  | .entryStore t m s x => runU P (Instr.entryStore t (ev f m) (ev f s) (ev f x)) w (K undef ·)
  | .range t x => rngW P t (ev f x) w K
  | .next it s => nxtW P ty (ev f it) s w K
  | .entry it => entW P (ev f it) w K
  | .extract x i => (match ev f x with
    | .tuple vs => (match vs.toList[i]? with | some v => castK P ty v (K · w) | none => False)
    | _ => False)
  | _ => False

/-! ### A range over a function -/
/-- What w' kept of w: all old blocks but those of S. -/
structure Mod (S : Nat → Prop) (w w' : World) : Prop where
  os : w'.os = w.os
  tape : w'.tape = w.tape
  output : w'.output = w.output
  size : w.heap.size ≤ w'.heap.size
  keep : ∀ k, k < w.heap.size → ¬ S k → w'.heap[k]? = w.heap[k]?

/-- A range over a function value: it is called with a 'yield', whose call is a round. 'Rdy', 'Bsy': the loop's record (in the block w.heap.size + 1; its calls deferred: in the one ahead) is ready, is busy. -/
def rfW (P : Program) (fv : Value) (w : World) (B : Value → World → ((World → Prop) → World → Prop) → (World → Prop) → Prop) (Q : World → Prop) : Prop :=
  (∃ g first cap, fv = .func (.func g) first cap) ∧
  ∀ (Rdy Bsy : World → Prop),
    (∀ w1 w2, Rdy w1 → w2.heap[w.heap.size]? = w1.heap[w.heap.size]? → w2.heap[w.heap.size + 1]? = w1.heap[w.heap.size + 1]? → Rdy w2) →
    (∀ w1 w2, Bsy w1 → w2.heap[w.heap.size]? = w1.heap[w.heap.size]? → w2.heap[w.heap.size + 1]? = w1.heap[w.heap.size + 1]? → Bsy w2) →
    (∀ w1, Rdy w1 ∨ Bsy w1 → w1.heap[w.heap.size]? = some (.deferred (some [])) ∧ ∃ r, w1.heap[w.heap.size + 1]? = some (.loop r)) →
    ∀ w1, Mod (fun _ => False) w w1 → w1.heap.size = w.heap.size + 2 → Rdy w1 →
    (∀ (x : Value) (w2 : World) (K : World → Prop), Rdy w2 →
      B x w2 (fun body wa => Rdy wa ∧ ∀ wb, Bsy wb → Mod (fun k => k = w.heap.size + 1) wa wb → wb.heap.size = wa.heap.size → body wb)
        (fun wc => Bsy wc ∧ ∀ w3, Rdy w3 → Mod (fun k => k = w.heap.size + 1) wc w3 → w3.heap.size = wc.heap.size → K w3) →
      CaV P (.func (.yield (w.heap.size + 1)) #[] #[]) #[x] w2 (fun v w3 => v = .bool true ∧ K w3)) →
    CaV P fv #[.func (.yield (w.heap.size + 1)) #[] #[]] w1 fun _ w2 => Rdy w2 ∧
      ∀ w3, Mod (fun k => k = w.heap.size ∨ k = w.heap.size + 1) w2 w3 → w3.heap.size = w2.heap.size → w3.heap[w.heap.size]? = some (.deferred (some [])) → Q w3
end Go.Proofs.YtbmcbbmgdcbhjaaGreatDoor.St
