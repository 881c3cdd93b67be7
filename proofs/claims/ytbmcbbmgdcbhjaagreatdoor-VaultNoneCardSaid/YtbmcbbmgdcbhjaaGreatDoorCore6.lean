/- My own walk: a region whose order Go leaves open, by a plan: what only reads goes first, and must read the same behind what acts. It names no program. -/
import Derived.Test.YtbmcbbmgdcbhjaaGreatDoorCore5
namespace Go.Proofs.YtbmcbbmgdcbhjaaGreatDoor.St
open Go

inductive Plan
  | done
  | quiet (i : Nat) (p : Plan)
  | eff (i : Nat) (hold : List Nat) (p : Plan)
  | fork (p q : Plan)

def heldC : Addr → Nat → List Value → World → Prop → Prop
  | _, _, [], _, X => X
  | ad, i, c :: cs, w, X => w.cell? (ad.add i) = some c ∧ heldC ad (i + 1) cs w X

def partsOf (P : Program) (t : TypeId) (x : Value) : List Value :=
  match P.underlying t with
  | some (.struct _) | some (.array _ _) => x.cells.toList
  | _ => [x]

/-- What a load has read is there still. -/
def held1 (P : Program) (ops : Array Oper) (f : Fr) (w : World) (j : Nat) (X : Prop) : Prop :=
  match ops[j]? with
  | some o =>
    match o.op, o.dst with
    | .load t a, some d => onPtr (ev f a) fun ad => heldC ad 0 (partsOf P t (f d)) w X
    | _, _ => False
  | none => False

def heldL (P : Program) (ops : Array Oper) (f : Fr) (w : World) : List Nat → Prop → Prop
  | [], X => X
  | j :: js, X => held1 P ops f w j (heldL P ops f w js X)

def ifWant (ops : Array Oper) (o : Oper) (f : Fr) (A B : Prop) : Prop :=
  match o.guard with
  | none => A
  | some (j, want) =>
    match (ops[j]?).bind (·.dst) with
    | some t =>
      match f t with
      | .bool b => ifK (b == want) A B
      | _ => B
    | none => False

/-- Does an operation's answer hold others back? -/
def isSrc (ops : List Oper) (i : Nat) : Bool := ops.any fun o => match o.guard with | some (j, _) => Nat.beq j i | none => false

/-- An answer that holds others back is parted on at once. -/
def partB (src : Bool) (v : Value) (K : Value → Prop) : Prop :=
  bif src then
    match v with
    | .bool b => ifK b (K (.bool true)) (K (.bool false))
    | _ => False
  else K v

theorem partB_K {src : Bool} {v : Value} {K : Value → Prop} (h : partB src v K) : K v := by
  unfold partB at h
  cases src with
  | false => exact h
  | true =>
    simp only [cond_true] at h
    split at h
    · rename_i b; cases b <;> exact h
    · exact h.elim

def isLoad : Op → Bool
  | .load _ _ => true
  | _ => false

def plW (P : Program) (ops : Array Oper) (Q : Fr → World → Prop) : Plan → Fr → World → Prop
  | .done, f, w => Q f w
  | .quiet i p, f, w =>
    match ops[i]? with
    | some o =>
      ifWant ops o f
        (match o.op with
         | .load t a => ldW P t (ev f a) w fun v => partB (isSrc ops.toList i) v fun v => plW P ops Q p (putF f o.dst v) w
         | op => pureW P op f fun v => partB (isSrc ops.toList i) v fun v => plW P ops Q p (putF f o.dst v) w)
        (plW P ops Q p (putF f o.dst undef) w)
    | none => False
  | .eff i hold p, f, w =>
    match ops[i]? with
    | some o =>
      ifWant ops o f
        (opW P o.op o.type f w fun v w' => heldL P ops f w' hold (partB (isSrc ops.toList i) v fun v => plW P ops Q p (putF f o.dst v) w'))
        (plW P ops Q p (putF f o.dst undef) w)
    | none => False
  | .fork p q, f, w => plW P ops Q p f w ∧ plW P ops Q q f w

/-! ### Whether a plan is one of a region -/
def opTmps (ops : List Oper) (o : Oper) : List Nat :=
  (o.op.operands.toList.filterMap fun | .tmp t => some t | _ => none) ++
  (match o.guard with
   | none => []
   | some (j, _) => match ops[j]? with
     | some o' => o'.dst.toList
     | none => [])
def names (ops : List Oper) (o : Oper) : List Nat := o.dst.toList ++ opTmps ops o
def hasN (t : Nat) (l : List Nat) : Bool := l.any fun u => Nat.beq u t

/-- Of each operation, those that must come ahead of it, as bits. -/
def ancs (ops : List Oper) : List Nat :=
  ops.foldl (fun acc o => acc ++ [o.after.toList.foldl (fun s e => bif Region.binds .any e then s ||| 2 ^ e.on ||| acc.getD e.on 0 else s) 0]) []

def depsIn (L : Nat) (o : Oper) : Bool := o.after.toList.all fun e => !(Region.binds .any e) || Nat.testBit L e.on

/-- The static part: edges lead back; an ancestor's ancestors are ancestors; who names what another writes stands in an order with it; no select, no guard; slots below n. -/
def okAnc (ops : List Oper) (A : List Nat) : Bool :=
  ops.zipIdx.all fun (o, k) =>
    Nat.beq (A.getD k 0) (o.after.toList.foldl (fun s e => bif Region.binds .any e then s ||| 2 ^ e.on ||| A.getD e.on 0 else s) 0) &&
    o.after.toList.all fun e => !(Region.binds .any e) || (Nat.blt e.on k && Nat.testBit (A.getD k 0) e.on && Nat.beq ((A.getD k 0) ||| (A.getD e.on 0)) (A.getD k 0))
def okTmps (ops : List Oper) (A : List Nat) : Bool :=
  ops.zipIdx.all fun (o, k) => match o.dst with
    | none => true
    | some d => ops.zipIdx.all fun (o', j) => Nat.beq j k || !(hasN d (names ops o')) || Nat.testBit (A.getD k 0) j || Nat.testBit (A.getD j 0) k
def okOps (n : Nat) (ops : List Oper) : Bool :=
  ops.all fun o => noDefer o.op && (match o.op with | .select _ _ => false | _ => true) && (match o.dst with | some d => Nat.blt d n | none => true)

def roots : Plan → List Nat
  | .eff i _ _ => [i]
  | .fork p q => roots p ++ roots q
  | _ => []

/-- Slot d of quiet operation i is named by none but i and what must come behind it. -/
def okQuiet (ops : List Oper) (A : List Nat) (i : Nat) (o : Oper) : Bool :=
  match o.dst with
  | none => false
  | some d => !(hasN d (opTmps ops o)) && ops.zipIdx.all fun (o', j) => Nat.beq j i || !(hasN d (names ops o')) || Nat.testBit (A.getD j 0) i

def okPlan (ops : List Oper) (A : List Nat) : Plan → Nat → List Nat → List Nat → Bool
  | .done, L, _, _ => ops.zipIdx.all fun (_, j) => Nat.testBit L j
  | .quiet i p, L, pend, _ =>
    match ops[i]? with
    | none => false
    | some o => !(Nat.testBit L i) && depsIn L o && okQuiet ops A i o && okPlan ops A p (L ||| 2 ^ i) (bif isLoad o.op then i :: pend else pend) []
  | .eff i hold p, L, pend, alts =>
    match ops[i]? with
    | none => false
    | some o => !(Nat.testBit L i) && depsIn L o && (ops.zipIdx.all fun (o', j) => Nat.testBit L j || !(depsIn L o') || Nat.beq j i || hasN j alts) &&
        (pend.all fun j => hasN j hold || Nat.testBit (A.getD i 0) j) && okPlan ops A p (L ||| 2 ^ i) pend []
  | .fork p q, L, pend, alts => ((roots p).all fun i => !(hasN i (roots q))) && okPlan ops A p L pend (roots q ++ alts) && okPlan ops A q L pend (roots p ++ alts)

def okRegion (n : Nat) (ops : List Oper) (p : Plan) : Bool :=
  let A := ancs ops
  okAnc ops A && okTmps ops A && okOps n ops && okPlan ops A p 0 [] []

theorem hasN_iff {t : Nat} {l : List Nat} : hasN t l = true ↔ t ∈ l := by
  simp only [hasN, List.any_eq_true]
  exact ⟨fun ⟨u, hu, h⟩ => Nat.eq_of_beq_eq_true h ▸ hu, fun h => ⟨t, h, Nat.beq_refl t⟩⟩

theorem zipIdx_all {α : Type} {l : List α} {p : α × Nat → Bool} (h : l.zipIdx.all p = true) {k : Nat} {a : α} (hk : l[k]? = some a) : p (a, k) = true := by
  rw [List.all_eq_true] at h
  refine h _ ?_
  rw [List.mem_zipIdx_iff_getElem?]
  exact hk

section
variable {P : Program} {ops : Array Oper} {n : Nat} {A : List Nat}

theorem ldW_held {t : TypeId} {v : Value} {w : World} {k : Value → Prop} (h : ldW P t v w k) :
    ∃ x ad, v = .pointer (some ad) ∧ k x ∧ (Instr.loadAt t v).run P w = .ok x w ∧
      ∀ (w' : World), (∀ i c, (partsOf P t x)[i]? = some c → w'.cell? (ad.add i) = some c) → (Instr.loadAt t v).run P w' = .ok x w' := by
  unfold ldW at h
  obtain ⟨ad, rfl, h2⟩ := onPtr_some h
  clear h
  cases hi : P.info? t with
  | none => simp [hi] at h2
  | some i =>
    cases hu : P.underlying t with
    | none => simp [hi, hu] at h2
    | some d =>
      by_cases hd : isAggD d = true
      · have h3 : (bif Nat.beq i.size (cellsT P 8 t).length then ldCells (cellsT P 8 t) ad 0 [] w fun cs => k (.agg ⟨cs⟩) else False) := by
          cases d <;> first | (simp only [hi, hu] at h2; exact h2) | simp [isAggD] at hd
        obtain ⟨hb, h4⟩ := cond_tt h3
        obtain ⟨vs, hk, hr⟩ := ldCells_run (P := P) _ _ _ _ h4
        have hs := Nat.eq_of_beq_eq_true hb
        have hlen : vs.length = i.size ∧ ∀ w' : World, (∀ j c, vs[j]? = some c → w'.cell? (ad.add j) = some c) → (loadCells ad i.size).run P w' = .ok ⟨vs⟩ w' := by
          have hlen : vs.length = i.size := by
            have key : ∀ (q m : Nat) (acc out : Array Value), (loadCellsFrom ad m q acc).run P w = .ok out w → out.size = acc.size + q := by
              intro q
              induction q with
              | zero => intro m acc out h; simp [loadCellsFrom] at h; simp [h]
              | succ q ih =>
                intro m acc out h
                simp only [loadCellsFrom, Sem.run_bind, run_load] at h
                cases hc : w.cell? (ad.add m) with
                | none =>
                  rw [hc] at h
                  simp only at h
                  cases hf : w.farLoad P (ad.add m) (Mode.plain == Mode.atomic) with
                  | ok r =>
                    rw [hf] at h
                    simp only [Result.andThen] at h
                    have := ih _ _ _ h; simp at this; omega
                  | error e => rw [hf] at h; simp [Result.andThen] at h
                | some v =>
                  rw [hc] at h
                  simp only [Result.andThen] at h
                  have := ih _ _ _ h; simp at this; omega
            have := key _ _ _ _ hr
            simp at this; omega
          exact ⟨hlen, fun w' hw => by rw [← hlen]; exact run_loadCells_list w' ad vs hw⟩
        have hg : ∀ w' : World, (isAgg t).run P w' = .ok true w' := fun w' => by
          rw [isAgg_run hu, hd]
        have run : ∀ w' : World, (∀ j c, vs[j]? = some c → w'.cell? (ad.add j) = some c) → (Instr.loadAt t (.pointer (some ad))).run P w' = .ok (.agg ⟨vs⟩) w' := by
          intro w' hw
          simp only [Instr.loadAt, Instr.sureAddr, loadVar, Sem.run_bind, Sem.run_pure, Result.andThen, hg, if_true, run_sizeOf' hi, hlen.2 w' hw]
        have hparts : partsOf P t (.agg ⟨vs⟩) = vs := by
          unfold partsOf; rw [hu]; cases d <;> first | rfl | (simp [isAggD] at hd; done)
        refine ⟨.agg ⟨vs⟩, ad, rfl, hk, ?_, fun w' hw => run w' (fun j c hj => hw j c (by rw [hparts]; exact hj))⟩
        simp only [Instr.loadAt, Instr.sureAddr, loadVar, Sem.run_bind, Sem.run_pure, Result.andThen, hg, if_true, run_sizeOf' hi, loadCells, hs]
        simp only [List.reverse_nil] at hr
        rw [hr]
      · have h3 : exC (ctOf d) fun v => w.cell? ad = some v ∧ k v := by
          cases d <;> first | (simp only [hi, hu] at h2; exact h2) | (simp [isAggD] at hd)
        have one : ∃ x, w.cell? ad = some x ∧ k x := exC_ex h3
        obtain ⟨x, hc, hk⟩ := one
        have hg : ∀ w' : World, (isAgg t).run P w' = .ok false w' := fun w' => by
          rw [isAgg_run hu]; simp [hd]
        refine ⟨x, ad, rfl, hk, by simp [Instr.loadAt, Instr.sureAddr, loadVar, Result.andThen, hg, hc], fun w' hw => ?_⟩
        have hparts : partsOf P t x = [x] := by
          unfold partsOf; rw [hu]; cases d <;> first | rfl | (simp [isAggD] at hd; done)
        have := hw 0 x (by rw [hparts]; rfl)
        rw [show ad.add 0 = ad from rfl] at this
        simp [Instr.loadAt, Instr.sureAddr, loadVar, Result.andThen, hg, this]
end
end Go.Proofs.YtbmcbbmgdcbhjaaGreatDoor.St
