/- My own walk: what 'opW' says of an operation is right. It names no program. -/
import Derived.Test.YtbmcbbmgdcbhjaaGreatDoorCore
import Derived.Laws.Slices
import Derived.Laws.World
namespace Go.Proofs.YtbmcbbmgdcbhjaaGreatDoor.St
open Go

/-- How an operation may end. -/
inductive ResW (P : Program) (s : Sem Next) (w : World) (K : Value → World → Prop) : Prop
  | val (v : Value) (w' : World) (h : s.run P w = .ok (.value v) w') (hk : K v w')
  | skip (w' : World) (h : s.run P w = .ok .skip w') (hk : K undef w')
  | enter (g : FuncId) (args : Array Value) (h : s.run P w = .ok (.enter g args) w) (hc : Calls P g args w fun e w' => ∃ v, e = .returned v ∧ K v w')
  | round (l : Nat) (fn : FuncId) (tmps : Array Value) (assign body : Code) (h : s.run P w = .ok (.round l fn tmps assign body) w)
      (hc : RoundIn (wide none) 0 P l fn tmps assign body w fun e w' => ∃ v, e = .returned v ∧ K v w')

theorem ResW.mono {P : Program} {s : Sem Next} {w : World} {K K' : Value → World → Prop} (h : ResW P s w K) (hk : ∀ v w', K v w' → K' v w') : ResW P s w K' := by
  cases h with
  | val v w' h h1 => exact .val v w' h (hk _ _ h1)
  | skip w' h h1 => exact .skip w' h (hk _ _ h1)
  | enter g args h hc => exact .enter g args h (hc.mono fun _ _ ⟨v, e, h⟩ => ⟨v, e, hk _ _ h⟩)
  | round l fn tmps assign body h hc => exact .round l fn tmps assign body h (hc.mono fun _ _ ⟨v, e, h⟩ => ⟨v, e, hk _ _ h⟩)

section
variable {P : Program} {w : World} {K : Value → World → Prop}

theorem ResW.of_val {s : Sem Value} {v : Value} {w' : World} (h : s.run P w = .ok v w') (hk : K v w') : ResW P (do pure (.value (← s))) w K :=
  .val v w' (by simp [h, Result.andThen]) hk
theorem ResW.of_unit {s : Sem Unit} {w' : World} (h : s.run P w = .ok () w') (hk : K undef w') : ResW P (do s; pure .skip) w K :=
  .skip w' (by simp [h, Result.andThen]) hk

def isAggD : TypeDesc → Bool
  | .struct _ => true
  | .array _ _ => true
  | _ => false

theorem onPtr_some {v : Value} {k : Addr → Prop} (h : onPtr v k) : ∃ a, v = .pointer (some a) ∧ k a := by
  unfold onPtr at h
  split at h
  · unfold onP at h
    split at h
    · exact ⟨_, rfl, h⟩
    · exact h.elim
  · exact h.elim

theorem onP_some {p : Option Addr} {k : Addr → Prop} (h : onP p k) : ∃ a, p = some a ∧ k a := by
  unfold onP at h
  split at h
  · exact ⟨_, rfl, h⟩
  · exact h.elim

theorem run_underlying' {t : TypeId} {d : TypeDesc} (h : P.underlying t = some d) : (underlying t).run P w = .ok d w := by
  simp [underlying, Result.andThen, h]
theorem run_typeInfo' {t : TypeId} {i : TypeInfo} (h : P.info? t = some i) : (typeInfo t).run P w = .ok i w := by
  simp [typeInfo, Result.andThen, h]
theorem run_sizeOf' {t : TypeId} {i : TypeInfo} (h : P.info? t = some i) : (sizeOf t).run P w = .ok i.size w := by
  simp [sizeOf, Result.andThen, run_typeInfo' h]

theorem ldCells_run {ad : Addr} : ∀ (cs : List CT) (i : Nat) (acc : List Value) (k : List Value → Prop), ldCells cs ad i acc w k →
    ∃ vs, k vs ∧ (loadCellsFrom ad i cs.length ⟨acc.reverse⟩).run P w = .ok ⟨vs⟩ w := by
  intro cs
  induction cs with
  | nil => intro i acc k h; exact ⟨_, h, by simp [loadCellsFrom]⟩
  | cons c cs ih =>
    intro i acc k h
    obtain ⟨v, hc, h⟩ := exC_ex h
    obtain ⟨vs, hk, hr⟩ := ih _ _ _ h
    refine ⟨vs, hk, ?_⟩
    simp only [List.length_cons, loadCellsFrom, Sem.run_bind, run_load, hc, Result.andThen]
    simpa using hr

theorem ldW_run {t : TypeId} {v : Value} {k : Value → Prop} (h : ldW P t v w k) : ∃ x, k x ∧ (Instr.loadAt t v).run P w = .ok x w := by
  unfold ldW at h
  obtain ⟨ad, rfl, h2⟩ := onPtr_some h
  clear h
  cases hi : P.info? t with
  | none => simp [hi] at h2
  | some i =>
    cases hu : P.underlying t with
    | none => simp [hi, hu] at h2
    | some d =>
      have agg : isAggD d = true → (bif Nat.beq i.size (cellsT P 8 t).length then ldCells (cellsT P 8 t) ad 0 [] w fun cs => k (.agg ⟨cs⟩) else False) →
          ∃ x, k x ∧ (Instr.loadAt t (.pointer (some ad))).run P w = .ok x w := by
        intro hd h2
        cases hb : Nat.beq i.size (cellsT P 8 t).length with
        | false => rw [hb] at h2; exact h2.elim
        | true =>
          rw [hb] at h2
          obtain ⟨vs, hk, hr⟩ := ldCells_run (P := P) _ _ _ _ h2
          refine ⟨_, hk, ?_⟩
          have hs := Nat.eq_of_beq_eq_true hb
          have hg : (isAgg t).run P w = .ok true w := by
            simp only [isAgg, Sem.run_bind, Result.andThen, run_underlying' hu]
            cases d <;> first | rfl | simp [isAggD] at hd
          simp only [Instr.loadAt, Instr.sureAddr, loadVar, Sem.run_bind, Sem.run_pure, Result.andThen, hg, if_true, run_sizeOf' hi, loadCells, hs]
          simp only [List.reverse_nil] at hr
          rw [hr]
      by_cases hd : isAggD d = true
      · refine agg hd ?_
        cases d <;> first | (simp only [hi, hu] at h2; exact h2) | simp [isAggD] at hd
      · have h3 : exC (ctOf d) fun v => w.cell? ad = some v ∧ k v := by
          cases d <;> first | (simp only [hi, hu] at h2; exact h2) | (simp [isAggD] at hd)
        obtain ⟨x, hc, hk⟩ := exC_ex h3
        have hg : (isAgg t).run P w = .ok false w := by
          simp only [isAgg, Sem.run_bind, Result.andThen, run_underlying' hu]
          cases d <;> first | rfl | simp [isAggD] at hd
        exact ⟨x, hk, by simp [Instr.loadAt, Instr.sureAddr, loadVar, Result.andThen, hg, hc]⟩

theorem stCells_run {ad : Addr} : ∀ (vs : List Value) (i : Nat) (w : World) (k : World → Prop), stCells vs ad i w k →
    ∃ w', k w' ∧ (storeCells ad vs i).run P w = .ok () w' := by
  intro vs
  induction vs with
  | nil => intro i w k h; exact ⟨w, h, rfl⟩
  | cons v vs ih =>
    intro i w k h
    unfold stCells at h
    cases hv : v.oneCell' with
    | false => rw [hv] at h; exact h.elim
    | true =>
      rw [hv] at h
      obtain ⟨⟨old, ho⟩, hf, h⟩ := h
      obtain ⟨w', hk, hr⟩ := ih _ _ _ (h _ rfl)
      refine ⟨w', hk, ?_⟩
      simp only [storeCells, Sem.run_bind, run_store P w _ v .plain hv, ho, hf, Result.andThen]
      exact hr

theorem stW_run {t : TypeId} {p x : Value} {k : World → Prop} (h : stW P t p x w k) : ∃ w', k w' ∧ (Instr.storeAt t p x).run P w = .ok () w' := by
  unfold stW at h
  obtain ⟨ad, rfl, h2⟩ := onPtr_some h
  clear h
  cases hi : P.info? t with
  | none => simp [hi] at h2
  | some i =>
    simp only [hi] at h2
    cases hb : Nat.beq x.cells.size i.size with
    | false => rw [hb] at h2; exact h2.elim
    | true =>
      rw [hb] at h2
      obtain ⟨w', hk, hr⟩ := stCells_run (P := P) _ _ _ _ h2
      refine ⟨w', hk, ?_⟩
      have hs := Nat.eq_of_beq_eq_true hb
      simp only [Instr.storeAt, Instr.sureAddr, storeVar, Sem.run_bind, Sem.run_pure, Result.andThen, run_sizeOf' hi, hs, ne_eq, not_true_eq_false, if_false]
      simpa using hr

theorem binI_run {op : BinOp} {kd : IntKind} {x y : Int} {k : Value → Prop} (h : binI op kd x y k) (hs : isShift op = false) (t : TypeId) :
    ∃ v, k v ∧ ∀ w : World, (binOp op t (.int kd x) (.int kd y)).run P w = .ok v w := by
  cases op <;> simp only [binI] at h <;> first
    | (exfalso; revert hs; decide)
    | exact h.elim
    | (refine ⟨_, h, fun w => ?_⟩; simp [binOp, Op.intArith, Op.intBits, Op.intCmp])
    | (refine ⟨_, h.2, fun w => ?_⟩; simp [binOp, Op.intDiv, h.1])

theorem shI_run {op : BinOp} {kd kd' : IntKind} {x y : Int} {k : Value → Prop} (h : shI op kd x y k) (t : TypeId) :
    ∃ v, k v ∧ ∀ w : World, (binOp op t (.int kd x) (.int kd' y)).run P w = .ok v w := by
  cases op <;> simp only [shI] at h <;> first
    | exact h.elim
    | (refine ⟨_, h.2, fun w => ?_⟩; have h0 := h.1; simp [binOp, Op.shift, show ¬ (y < 0) by omega])

theorem binS_run {op : BinOp} {x y : ByteArray} {k : Value → Prop} (h : binS op x y k) (hs : isShift op = false) (t : TypeId) :
    ∃ v, k v ∧ ∀ w : World, (binOp op t (.string x) (.string y)).run P w = .ok v w := by
  cases op <;> simp only [binS] at h <;> first
    | (exfalso; revert hs; decide)
    | exact h.elim
    | (refine ⟨_, h, fun w => ?_⟩; simp [binOp, Op.stringOp])
    | (refine ⟨_, h.2, fun w => ?_⟩; have h0 := h.1; simp [binOp, Op.stringOp, IntKind.max, IntKind.bits]; omega)

theorem guard_pure {op : BinOp} {t : TypeId} {x y : Operand} {a b : Value} (h1 : ∀ cs, a ≠ .agg cs) (h2 : a ≠ .nilIface) : (eqGuard op t x y a b).run P w = .ok () w := by
  unfold eqGuard
  cases op <;> cases a <;> first | rfl | exact absurd rfl (h1 _) | exact absurd rfl h2

theorem unW_run {op : UnOp} {x : Value} {k : Value → Prop} (h : unW op x k) : ∃ v, k v ∧ ∀ w : World, (Op.unary op x).run P w = .ok v w := by
  unfold unW at h
  split at h
  · exact ⟨_, h, fun _ => rfl⟩
  · exact ⟨_, h, fun _ => rfl⟩
  · exact ⟨_, h, fun _ => rfl⟩
  · exact h.elim
end
end Go.Proofs.YtbmcbbmgdcbhjaaGreatDoor.St
